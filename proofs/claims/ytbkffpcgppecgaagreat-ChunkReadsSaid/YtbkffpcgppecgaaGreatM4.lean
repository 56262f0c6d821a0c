/-
  Texts of this claim, laid one behind the other by a program of mine (install.py): E.Pack3, E.Bits, E.Sig, E.IntsL, E.Sig2, E.Iter, Dn.Maps, E.Rise, E.Laid, E.Enc, E.Enc2, E.IntsR, E.IntsP, E.IntsE.
-/
import Derived.Test.YtbkffpcgppecgaaGreatM3
import Derived.Shelf.SlIter.Nil
import Derived.Shelf.SortM.Plain
import Derived.Shelf.SortM.SortNone
import Derived.Ground.GgzProg
import Derived.Ground.SlgmProg
import Derived.Test.YtbkffpcgppecgaaGreatProg
import Derived.Maps.Own
import Derived.Maps.Views
import Derived.Sort.KeysCollected
/-
  Pack, by the document.
-/
namespace Go.Proofs.YtbkffpcgppecgaaGreat
open Go.Dn Go.Proofs
open Go.RowKit (Below)
set_option linter.unusedVariables false
set_option maxRecDepth 20000

theorem rowC_skip {f : Nat → Bool} {m t : Nat} (h : f t = false) : rowC f m (t + 1) = rowC f m t := by
  unfold rowC
  congr 1
  apply List.map_congr_left
  intro j _
  conv => lhs; unfold stB
  rw [if_neg (by simp [h])]
section
variable {w : World} {a : Option Addr} {c : Nat} {xs : List Nat}
theorem ref_Pack_ok (hl : Rd w a (xs.map u64V)) (hn : xs.length ≤ 4096) {wd : Nat} (hw : wd ≤ 64) (hx : ∀ x ∈ xs, x < 2 ^ wd) :
    Calls Tryz.prog f.ref01_Pack #[.int .i64 (wd : Int), .slice a xs.length c] w (Ret fun v w' => ∃ a' c', v = .tuple #[.slice a' (packL xs wd).length c', .int .i64 0] ∧ NewB w w' (packL xs wd) a' c') := by
  have h64 : (2 : Nat) ^ wd ≤ 2 ^ 64 := Nat.pow_le_pow_right (by omega) hw
  have hx64 : ∀ x ∈ xs, x < 18446744073709551616 := fun x h => Nat.lt_of_lt_of_le (hx x h) h64
  have hm : xs.length * wd ≤ 4096 * 64 := Nat.mul_le_mul hn hw
  obtain ⟨m, hmd⟩ : ∃ m, m = sizeN xs.length wd := ⟨_, rfl⟩
  have hmv : m = (xs.length * wd + 7) / 8 := hmd
  apply R.ref01_Pack_calls
  unfold R.ref01_Pack
  refine (ref_Size_ok w (xs.length : Int) (wd : Int)).mono ?_
  rintro _ w ⟨_, rfl, rfl, rfl⟩
  rw [if_pos ⟨by omega, by omega, by omega, by omega⟩]
  refine ⟨_, _, rfl, IFB_ne (fun h => absurd rfl h) (fun _ => ?_)⟩
  have em : ((xs.length : Int) * (wd : Int) + 7) / 8 = (m : Int) := by
    rw [hmv]
    have : ((xs.length : Int) * (wd : Int)) = ((xs.length * wd : Nat) : Int) := by norm_cast
    rw [this]
    omega
  rw [em]
  refine make_new tB (l := (m : Int)) (c := (m : Int)) (by omega) (by omega) (by omega) (by omega) fun bo w2 hbo B2 hO2 => ?_
  rw [Int.toNat_natCast, rowC_zero (bitA xs wd) m] at hO2
  rw [Int.toNat_natCast]
  refine ⟨_, _, _, rfl, ?_⟩
  have low : ∀ {w' : World}, Keeps (fun k => k = bo) w2 w' → Below w.heap.size w w' := fun K => B2.trans (K.below B2.size fun k hk h => by omega)
  refine ⟨fun s w3 => ∃ i : Nat, i ≤ xs.length ∧ s = [.int .i64 (i : Int)] ∧ Keeps (fun k => k = bo) w2 w3 ∧ w3.heap[bo]? = some (.cells (rowC (bitA xs wd) m (i * wd)) ty.uint8 (0, 0)), fun s _ => match s with
      | [.int _ i] => xs.length - i.toNat
      | _ => 0, ⟨0, by omega, rfl, .refl _ _, by rw [Nat.zero_mul]; exact hO2⟩, ?_⟩
  rintro _ w3 ⟨i, hi, hs, K3, hO3⟩
  cases hs
  refine IFB_dec (fun hlt => ⟨⟨by omega, hlt⟩, ?_⟩) (fun hge => ?_)
  · have hil : i < xs.length := by omega
    have hxi := hx64 _ (List.getElem_mem hil)
    obtain ⟨p, rfl, hc⟩ := num_at (hl.grown (low K3)) hil
    refine ⟨_, by rw [Int.toNat_natCast]; exact hc, (ref_Of_ok w3 xs[i] wd hxi hw).mono ?_⟩
    rintro _ w4 ⟨_, rfl, rfl, rfl⟩
    refine ⟨_, rfl, IFB_not (IFB_dec (fun _ => ⟨⟨by omega, hlt⟩, _, by rw [Int.toNat_natCast]; exact hc, ?_⟩) (fun h => absurd (hx _ (List.getElem_mem hil)) h))⟩
    refine ⟨fun s w5 => ∃ k : Nat, k ≤ wd ∧ s = [.int .u64 ((xs[i] / 2 ^ k : Nat) : Int), .int .i64 (k : Int)] ∧ Keeps (fun k => k = bo) w2 w5 ∧ w5.heap[bo]? = some (.cells (rowC (bitA xs wd) m (i * wd + k)) ty.uint8 (0, 0)), fun s _ => match s with
        | [_, .int _ k] => wd - k.toNat
        | _ => 0, ⟨0, by omega, by simp, K3, hO3⟩, ?_⟩
    rintro _ _ w5 ⟨k, hk, hs, K5, hO5⟩
    cases hs
    refine IFB_dec (fun hlt2 => ?_) (fun hge2 => ?_)
    · have hkw : k < wd := by omega
      have hiw : i * wd + k < xs.length * wd := by
        have : (i + 1) * wd ≤ xs.length * wd := Nat.mul_le_mul_right _ hil
        rw [Nat.succ_mul] at this
        omega
      have hle : xs[i] / 2 ^ k ≤ xs[i] := Nat.div_le_self _ _
      have e2 : IntKind.u64.wrap (Int.tdiv ((xs[i] / 2 ^ k : Nat) : Int) 2) = ((xs[i] / 2 ^ (k + 1) : Nat) : Int) := by
        rw [Nat.pow_succ, ← Nat.div_div_eq_div_mul]
        generalize xs[i] / 2 ^ k = y at hle
        rw [Int.tdiv_eq_ediv_of_nonneg (by omega), wrap_u64_id (by omega) (by omega)]
        omega
      rw [e2, wrap_succ (by omega)]
      have em2 : Int.tmod ((xs[i] / 2 ^ k : Nat) : Int) 2 = ((xs[i] / 2 ^ k % 2 : Nat) : Int) := by
        rw [Int.tmod_eq_emod_of_nonneg (Int.natCast_nonneg _)]
        norm_cast
      rw [em2]
      have hbit : bitA xs wd (i * wd + k) = decide (xs[i] / 2 ^ k % 2 = 1) := by
        have h1 : (i * wd + k) / wd = i := by
          rw [Nat.mul_comm, Nat.mul_add_div (by omega), Nat.div_eq_of_lt hkw, Nat.add_zero]
        have h2 : (i * wd + k) % wd = k := by
          rw [Nat.mul_comm, Nat.mul_add_mod, Nat.mod_eq_of_lt hkw]
        unfold bitA
        rw [h1, h2, Nat.testBit_eq_decide_div_mod_eq]
        simp [List.getD, hil]
      obtain ⟨t, ht⟩ : ∃ t, t = i * wd + k := ⟨_, rfl⟩
      rw [← ht] at hbit hO5 hiw
      have hmu : ∀ wx : World, Keeps (fun k => k = bo) w2 wx → wx.heap[bo]? = some (.cells (rowC (bitA xs wd) m (t + 1)) ty.uint8 (0, 0)) →
          ((∃ k' : Nat, k' ≤ wd ∧ [Value.int .u64 ((xs[i] / 2 ^ (k + 1) : Nat) : Int), .int .i64 ((k + 1 : Nat) : Int)] = [.int .u64 ((xs[i] / 2 ^ k' : Nat) : Int), .int .i64 (k' : Int)] ∧ Keeps (fun k => k = bo) w2 wx ∧ wx.heap[bo]? = some (.cells (rowC (bitA xs wd) m (i * wd + k')) ty.uint8 (0, 0))) ∧ wd - ((k + 1 : Nat) : Int).toNat < wd - ((k : Nat) : Int).toNat) := by
        intro wx K hO
        refine ⟨⟨k + 1, by omega, rfl, K, by rw [← Nat.add_assoc, ← ht]; exact hO⟩, ?_⟩
        simp only [Int.toNat_natCast]
        omega
      refine IFB_eq (fun h1 => ?_) (fun h1 => ?_)
      · have hb1 : bitA xs wd t = true := by
          rw [hbit]
          exact decide_eq_true (by exact_mod_cast h1)
        unfold DRAW
        have et : IntKind.i64.wrap (IntKind.i64.wrap ((i : Int) * (wd : Int)) + (k : Int)) = (t : Int) := by
          have h1 : (i : Int) * (wd : Int) = ((i * wd : Nat) : Int) := by rw [Int.natCast_mul]
          rw [h1, ht]
          generalize i * wd = q at ht
          rw [wrap_i64 (n := (q : Int)) (by omega) (by omega), wrap_i64 (by omega) (by omega)]
          omega
        have ed : IntKind.i64.wrap (Int.tdiv (t : Int) 8) = ((t / 8 : Nat) : Int) := by
          rw [Int.tdiv_eq_ediv_of_nonneg (by omega), wrap_i64 (by omega) (by omega)]
          omega
        have er : Int.tmod (t : Int) 8 = ((t % 8 : Nat) : Int) := by
          rw [Int.tmod_eq_emod_of_nonneg (by omega)]
          omega
        rw [et, ed, er]
        have htm : t / 8 < m := by omega
        refine ⟨⟨by omega, by omega⟩, ?_⟩
        rw [Int.toNat_natCast, Int.toNat_natCast]
        have ea : (⟨bo, 0, none⟩ : Addr).add (t / 8 * 1) = ⟨bo, t / 8, none⟩ := by rw [addr_add_blk]; simp
        have hcell : w5.drew.cell? ((⟨bo, 0, none⟩ : Addr).add (t / 8 * 1)) = some (.int .u8 (stB (bitA xs wd) t (t / 8) : Int)) := by
          rw [ea]
          have : w5.drew.heap[bo]? = some (.cells (rowC (bitA xs wd) m t) ty.uint8 (0, 0)) := hO5
          simp only [World.cell?, this]
          simpa using rowC_get htm
        refine ⟨by omega, _, hcell, ⟨by omega, by omega⟩, ?_⟩
        have esh := shl_bit (b := true) (s := t % 8) (Nat.mod_lt _ (by omega))
        simp only [Bool.toNat_true, Nat.one_mul] at esh
        rw [show (((1 : Nat) : Int)) = 1 from rfl] at esh
        rw [esh]
        have hsh : 2 ^ (t % 8) < 2 ^ 8 := Nat.pow_lt_pow_right (by omega) (Nat.mod_lt _ (by omega))
        rw [or8 (stB_lt _ _ _) hsh]
        have estep := stB_step (bitA xs wd) t
        rw [hb1] at estep
        simp only [Bool.toNat_true, Nat.one_mul] at estep
        rw [estep]
        unfold PTR
        simp only
        rw [ea]
        refine sto_blk (show w5.drew.heap[bo]? = _ from hO5) (by rw [rowC_size]; exact htm) fun w7 K7 hO7 => ?_
        rw [rowC_set _ rfl] at hO7
        exact hmu w7 (K5.drew.trans K7 (fun k _ h => h)) hO7
      · have hb0 : bitA xs wd t = false := by
          rw [hbit]
          exact decide_eq_false (fun h => h1 (by exact_mod_cast h))
        exact hmu w5 K5 (by rw [rowC_skip hb0]; exact hO5)
    · have : k = wd := by omega
      subst this
      rw [wrap_succ (by omega)]
      refine ⟨⟨i + 1, by omega, rfl, K5, by rw [Nat.succ_mul]; exact hO5⟩, ?_⟩
      simp only [Int.toNat_natCast]
      omega
  · have : i = xs.length := by omega
    subst this
    have B3 := low K3
    refine ⟨some ⟨bo, 0, none⟩, m, by rw [packL_len, ← hmd], ⟨by simp, .inr ⟨bo, rowC (bitA xs wd) m (xs.length * wd), rfl, hO3, ?_, by omega, by rw [rowC_size]; omega, ?_⟩⟩, fun k hk => ?_, B3⟩
    · rw [packL_len, ← hmd]; exact Nat.le_refl _
    · have e := rowC_end xs wd
      rw [← hmd] at e
      rw [e, Nat.mul_one, ← List.length_map (f := byteV), List.take_length]
    · cases hk
      exact hbo
end
end Go.Proofs.YtbkffpcgppecgaaGreat

/-
  Numbers of few bits out of bytes, in plain words.
-/
namespace Go.Proofs.YtbkffpcgppecgaaGreat
open Go.Dn Go.Proofs
open Go.RowKit (Below)
set_option linter.unusedVariables false
set_option maxRecDepth 20000

/-- the numbers behind t bits -/
def stU (f : Nat → Bool) (w : Nat) : Nat → Nat → Nat
  | 0, _ => 0
  | t + 1, j => if j = t / w ∧ f t = true then stU f w t j ||| 2 ^ (t % w) else stU f w t j
theorem stU_bit (f : Nat → Bool) {w : Nat} (hw : 0 < w) (t i k : Nat) : (stU f w t i).testBit k = (decide (k < w ∧ i * w + k < t) && f (i * w + k)) := by
  induction t with
  | zero => simp [stU]
  | succ t ih =>
    unfold stU
    have hd := Nat.div_add_mod t w
    have hm := Nat.mod_lt t hw
    rw [Nat.mul_comm] at hd
    split
    · rename_i h
      obtain ⟨rfl, hf⟩ := h
      rw [Nat.testBit_or, ih, Nat.testBit_two_pow]
      by_cases hk : t % w = k
      · subst hk
        rw [hd]
        simp [hm, hf]
      · have : ¬ (t / w * w + k = t) := by omega
        rw [Bool.eq_iff_iff]
        simp [hk]
        intro _ _
        omega
    · rename_i h
      rw [ih]
      by_cases hk : k < w ∧ i * w + k = t
      · have hi : i = t / w := by
          rw [← hk.2, Nat.mul_comm, Nat.mul_add_div hw, Nat.div_eq_of_lt hk.1]; rfl
        have hf : f t = false := by
          cases hft : f t
          · rfl
          · exact absurd ⟨hi, hft⟩ h
        rw [hk.2, hf]
        simp
      · rw [Bool.eq_iff_iff]
        simp
        intro _ _
        omega
theorem stB_eq (f : Nat → Bool) (t j : Nat) : stB f t j = stU f 8 t j := by
  induction t with
  | zero => rfl
  | succ t ih => unfold stB stU; rw [ih]
theorem stU_lt (f : Nat → Bool) {w : Nat} (hw : 0 < w) (t i : Nat) : stU f w t i < 2 ^ w := by
  apply Nat.lt_pow_two_of_testBit
  intro k hk
  rw [stU_bit f hw]
  simp
  intro h
  omega
def bitB (l : List UInt8) (t : Nat) : Bool := (l.getD (t / 8) 0).toNat.testBit (t % 8)
def unpackL (l : List UInt8) (n w : Nat) : List Nat := (List.range n).map (stU (bitB l) w (n * w))
theorem unpackL_len (l : List UInt8) (n w : Nat) : (unpackL l n w).length = n := by simp [unpackL]
theorem unpackL_lt (l : List UInt8) (n w : Nat) : ∀ x ∈ unpackL l n w, x < 2 ^ w := by
  intro x hx
  obtain ⟨i, _, rfl⟩ := List.mem_map.1 hx
  by_cases hw : 0 < w
  · exact stU_lt _ hw _ _
  · have : w = 0 := by omega
    subst this
    simp [stU]
theorem bitA_unpack (l : List UInt8) {n w t : Nat} (ht : t < n * w) : bitA (unpackL l n w) w t = bitB l t := by
  have hw : 0 < w := Nat.pos_of_ne_zero (by rintro rfl; simp at ht)
  have hi : t / w < n := (Nat.div_lt_iff_lt_mul hw).2 ht
  have hd := Nat.div_add_mod t w
  have hm := Nat.mod_lt t hw
  rw [Nat.mul_comm] at hd
  unfold bitA
  have : (unpackL l n w).getD (t / w) 0 = stU (bitB l) w (n * w) (t / w) := by simp [unpackL, hi]
  rw [this, stU_bit _ hw, hd]
  simp [hm, ht]
theorem u8_testBit {c : UInt8} {k : Nat} (hk : 8 ≤ k) : c.toNat.testBit k = false :=
  Nat.testBit_lt_two_pow (Nat.lt_of_lt_of_le c.toNat_lt (Nat.pow_le_pow_right (by omega) hk))
theorem u8_ext {c d : UInt8} (h : ∀ k, k < 8 → c.toNat.testBit k = d.toNat.testBit k) : c = d := by
  apply UInt8.toNat_inj.1
  apply Nat.eq_of_testBit_eq
  intro k
  by_cases hk : k < 8
  · exact h k hk
  · rw [u8_testBit (by omega), u8_testBit (by omega)]
theorem pack_get {xs : List Nat} {w j : Nat} (hj : j < sizeN xs.length w) : (packL xs w)[j]? = some (UInt8.ofNat (stB (bitA xs w) (xs.length * w) j)) := by
  simp [packL, hj]
theorem pack_bit {xs : List Nat} {w j k : Nat} (hk : k < 8) : (UInt8.ofNat (stB (bitA xs w) (xs.length * w) j)).toNat.testBit k = (decide (j * 8 + k < xs.length * w) && bitA xs w (j * 8 + k)) := by
  rw [ofNat_toNat8 (stB_lt _ _ _), stB_eq, stU_bit _ (by omega)]
  simp [hk]
theorem tail_iff {l : List UInt8} {n w : Nat} (hl : l.length = sizeN n w) : packL (unpackL l n w) w = l ↔ ∀ t, n * w ≤ t → bitB l t = false := by
  have hs : sizeN (unpackL l n w).length w = l.length := by rw [unpackL_len, hl]
  have hN : l.length = (n * w + 7) / 8 := hl
  constructor
  · intro h t ht
    by_cases hj : t / 8 < l.length
    · have h1 : (packL (unpackL l n w) w)[t / 8]? = l[t / 8]? := by rw [h]
      rw [pack_get (by omega), List.getElem?_eq_getElem hj] at h1
      have h2 := Option.some.inj h1
      unfold bitB
      have : l.getD (t / 8) 0 = l[t / 8] := by simp [hj]
      rw [this, ← h2, pack_bit (Nat.mod_lt _ (by omega)), unpackL_len]
      have : ¬ (t / 8 * 8 + t % 8 < n * w) := by omega
      simp [this]
    · unfold bitB
      have : l.getD (t / 8) 0 = 0 := by simp [List.getD, List.getElem?_eq_none (Nat.le_of_not_lt hj)]
      rw [this]
      simp
  · intro h
    apply List.ext_getElem?
    intro j
    by_cases hj : j < l.length
    · rw [pack_get (by omega), List.getElem?_eq_getElem hj]
      congr 1
      apply u8_ext
      intro k hk
      rw [pack_bit hk, unpackL_len]
      have hb : bitB l (j * 8 + k) = l[j].toNat.testBit k := by
        unfold bitB
        rw [show (j * 8 + k) / 8 = j by omega, show (j * 8 + k) % 8 = k by omega]
        simp [hj]
      by_cases ht : j * 8 + k < n * w
      · rw [bitA_unpack l ht, hb]
        simp [ht]
      · have := h _ (Nat.le_of_not_lt ht)
        rw [← hb, this]
        simp [ht]
    · rw [List.getElem?_eq_none (by rw [packL_len]; omega), List.getElem?_eq_none (by omega)]
theorem tail_word {l : List UInt8} {T : Nat} (hl : l.length = (T + 7) / 8) : (∀ t, T ≤ t → bitB l t = false) ↔ (0 < l.length → T % 8 ≠ 0 → (l.getD (l.length - 1) 0).toNat / 2 ^ (T % 8) = 0) := by
  constructor
  · intro h h0 h8
    apply Nat.eq_of_testBit_eq
    intro k
    rw [Nat.testBit_div_two_pow, Nat.zero_testBit]
    by_cases hk : T % 8 + k < 8
    · have := h (T + k) (by omega)
      unfold bitB at this
      rw [show (T + k) / 8 = l.length - 1 by omega, show (T + k) % 8 = T % 8 + k by omega] at this
      rw [Nat.add_comm]
      exact this
    · exact u8_testBit (by omega)
  · intro h t ht
    unfold bitB
    by_cases hj : t / 8 < l.length
    · have h8 : T % 8 ≠ 0 := by omega
      have := h (by omega) h8
      have e : t / 8 = l.length - 1 := by omega
      rw [e]
      have h2 : ((l.getD (l.length - 1) 0).toNat / 2 ^ (T % 8)).testBit (t % 8 - T % 8) = false := by rw [this, Nat.zero_testBit]
      rw [Nat.testBit_div_two_pow] at h2
      rw [show t % 8 - T % 8 + T % 8 = t % 8 by omega] at h2
      exact h2
    · have : l.getD (t / 8) 0 = 0 := by simp [List.getD, List.getElem?_eq_none (Nat.le_of_not_lt hj)]
      rw [this]
      simp

/-! ### rows of numbers -/
def rowU (f : Nat → Bool) (w m t : Nat) : Array Value := ⟨(List.range m).map fun j => .int .u64 (stU f w t j : Int)⟩
theorem rowU_size (f : Nat → Bool) (w m t : Nat) : (rowU f w m t).size = m := by simp [rowU]
theorem rowU_get {f : Nat → Bool} {w m t j : Nat} (h : j < m) : (rowU f w m t)[j]? = some (.int .u64 (stU f w t j : Int)) := by simp [rowU, h]
theorem rowU_set {f : Nat → Bool} {w m t : Nat} (v : Nat) (hv : v = stU f w (t + 1) (t / w)) : (rowU f w m t).setIfInBounds (t / w) (.int .u64 (v : Int)) = rowU f w m (t + 1) := by
  apply Array.ext'
  apply List.ext_getElem?
  intro i
  simp only [Array.toList_setIfInBounds, rowU, List.getElem?_set, List.length_map, List.length_range]
  by_cases h : t / w = i
  · subst h
    by_cases h2 : t / w < m
    · simp [h2, hv]
    · simp [h2]
  · have e : stU f w (t + 1) i = stU f w t i := by
      conv => lhs; unfold stU
      rw [if_neg (by omega)]
    by_cases h2 : i < m
    · simp [h, h2, e]
    · simp [h, h2]
theorem rowU_skip {f : Nat → Bool} {w m t : Nat} (h : f t = false) : rowU f w m (t + 1) = rowU f w m t := by
  unfold rowU
  congr 1
  apply List.map_congr_left
  intro j _
  conv => lhs; unfold stU
  rw [if_neg (by simp [h])]
theorem rowU_zero (f : Nat → Bool) (w m : Nat) : madeCells (Value.int .u64 0).cells (m * 1) = rowU f w m 0 := by
  apply Array.ext'
  rw [madeCells_one _ rfl]
  simp [rowU, stU, List.map_const']
theorem rowU_end (l : List UInt8) (n w : Nat) : (rowU (bitB l) w n (n * w)).toList = (unpackL l n w).map u64V := by
  simp [rowU, unpackL, u64V]
theorem stU_step (f : Nat → Bool) (w t : Nat) : stU f w t (t / w) ||| (f t).toNat * 2 ^ (t % w) = stU f w (t + 1) (t / w) := by
  conv => rhs; unfold stU
  cases h : f t
  · simp
  · simp
/-! ### words -/
theorem bit_prog8 {x k : Nat} (hx : x < 256) (hk : k < 8) : IntKind.u8.wrap (((BitVec.ofInt 8 (Int.fdiv (x : Int) (2 ^ (min k 8))) &&& BitVec.ofInt 8 1).toNat : Int)) = ((x.testBit k).toNat : Int) := by
  rw [show min k 8 = k by omega, fdiv_pow]
  have hle : x / 2 ^ k ≤ x := Nat.div_le_self _ _
  have e : (BitVec.ofInt 8 ((x / 2 ^ k : Nat) : Int) &&& BitVec.ofInt 8 1).toNat = x / 2 ^ k % 2 := by
    rw [BitVec.toNat_and, BitVec.ofInt_natCast, BitVec.toNat_ofNat, Nat.mod_eq_of_lt (by omega)]
    exact Nat.and_two_pow_sub_one_eq_mod _ 1
  rw [e]
  have hm : x / 2 ^ k % 2 < 2 := Nat.mod_lt _ (by omega)
  rw [Nat.testBit_eq_decide_div_mod_eq]
  generalize x / 2 ^ k % 2 = y at hm
  rw [wrap_u8_id (by omega) (by omega)]
  rcases (by omega : y = 0 ∨ y = 1) with rfl | rfl <;> rfl
theorem shl_bit64 {b : Bool} {s : Nat} (hs : s < 64) : IntKind.u64.wrap (IntKind.u64.wrap (b.toNat : Int) * 2 ^ (min s 64)) = ((b.toNat * 2 ^ s : Nat) : Int) := by
  have hp : 2 ^ s < 2 ^ 64 := Nat.pow_lt_pow_right (by omega) hs
  rw [show min s 64 = s by omega, show IntKind.u64.wrap (b.toNat : Int) = (b.toNat : Int) by cases b <;> decide]
  have e : ((b.toNat : Int) * 2 ^ s) = ((b.toNat * 2 ^ s : Nat) : Int) := by norm_cast
  rw [e]
  cases b
  · simp; decide
  · simp only [Bool.toNat_true, Nat.one_mul]
    generalize 2 ^ s = y at hp
    rw [wrap_u64_id (by omega) (by omega)]
end Go.Proofs.YtbkffpcgppecgaaGreat

/-
  The bytes and the text of a value.
-/
namespace Go.Proofs.YtbkffpcgppecgaaGreat
open Go.Dn Go.Proofs
open Go.RowKit (Below)
set_option linter.unusedVariables false
set_option maxRecDepth 20000

/-! ### what package-level variables hold -/
/-! ### Number, Signed, Text -/
def zigN (n : Int) : Nat := if n < 0 then (-(2 * n) - 1).toNat else (2 * n).toNat
theorem zigN_lt {n : Int} (h1 : -9223372036854775808 ≤ n) (h2 : n ≤ 9223372036854775807) : zigN n < 18446744073709551616 := by unfold zigN; split <;> omega
theorem zig_prog {n : Int} (h1 : -9223372036854775808 ≤ n) (h2 : n ≤ 9223372036854775807) :
    IntKind.u64.wrap (((BitVec.ofInt 64 (IntKind.u64.wrap (IntKind.i64.wrap (n * 2 ^ (min 1 64)))) ^^^ BitVec.ofInt 64 (IntKind.u64.wrap (Int.fdiv n (2 ^ (min 63 64))))).toNat : Int)) = (zigN n : Int) := by
  have e1 : IntKind.u64.wrap (IntKind.i64.wrap (n * 2 ^ (min 1 64))) = (2 * n) % 18446744073709551616 := by
    rw [wrap_u64, wrap_i64_def]
    have : n * 2 ^ (min 1 64) = 2 * n := by rw [show (2 : Int) ^ (min 1 64) = 2 from rfl]; omega
    rw [this]
    split <;> omega
  rw [e1]
  by_cases hn : n < 0
  · have e2 : Int.fdiv n (2 ^ (min 63 64)) = -1 := by
      rw [Int.fdiv_eq_ediv_of_nonneg _ (by decide), show (2 : Int) ^ (min 63 64) = 9223372036854775808 from rfl]
      omega
    rw [e2, show IntKind.u64.wrap (-1) = 18446744073709551615 by decide]
    obtain ⟨m, hm⟩ : ∃ m : Nat, (2 * n) % 18446744073709551616 = (m : Int) := ⟨((2 * n) % 18446744073709551616).toNat, by omega⟩
    have hmlt : m < 18446744073709551616 := by omega
    rw [hm, show BitVec.ofInt 64 18446744073709551615 = BitVec.allOnes 64 by decide, BitVec.xor_allOnes, BitVec.toNat_not, BitVec.ofInt_natCast, BitVec.toNat_ofNat, Nat.mod_eq_of_lt (by omega), wrap_u64_id (by omega) (by omega)]
    unfold zigN
    rw [if_pos hn]
    omega
  · have e2 : Int.fdiv n (2 ^ (min 63 64)) = 0 := by
      rw [Int.fdiv_eq_ediv_of_nonneg _ (by decide), show (2 : Int) ^ (min 63 64) = 9223372036854775808 from rfl]
      omega
    obtain ⟨m, rfl⟩ : ∃ m : Nat, n = (m : Int) := ⟨n.toNat, by omega⟩
    rw [e2, show IntKind.u64.wrap 0 = 0 by decide, show BitVec.ofInt 64 0 = 0#64 by decide, BitVec.xor_zero]
    have : (2 * (m : Int)) % 18446744073709551616 = ((2 * m : Nat) : Int) := by omega
    rw [this, BitVec.ofInt_natCast, BitVec.toNat_ofNat, Nat.mod_eq_of_lt (by omega), wrap_u64_id (by omega) (by omega)]
    unfold zigN
    rw [if_neg hn]
    omega
theorem wire_Signed_ok {w : World} {a : Option Addr} {c : Nat} (l : List UInt8) (hl : Rd w a (l.map byteV)) (n : Int) (h1 : -9223372036854775808 ≤ n) (h2 : n ≤ 9223372036854775807) (hs : l.length + 10 ≤ 140737488355328) :
    Calls Tryz.prog f.wire_Signed #[.slice a l.length c, .int .i64 n] w (Ret fun v w' => ∃ a c, v = .slice a (l ++ digitsL (zigN n)).length c ∧ NewB w w' (l ++ digitsL (zigN n)) a c) := by
  apply R.wire_Signed_calls
  unfold R.wire_Signed
  rw [zig_prog h1 h2]
  refine (wire_Number_ok l hl (zigN n) (zigN_lt h1 h2) hs).mono ?_
  rintro _ w1 ⟨_, rfl, a1, c1, rfl, h⟩
  exact ⟨_, _, _, rfl, a1, c1, rfl, h⟩
/-! ### Lay -/
/-! ### Show -/
end Go.Proofs.YtbkffpcgppecgaaGreat

/-
  Lists of numbers in few bytes: in plain words.
-/
namespace Go.Proofs.YtbkffpcgppecgaaGreat
open Go.Dn Go.Proofs
open Go.RowKit (Below)
set_option linter.unusedVariables false
set_option maxRecDepth 20000

def i64V (x : Int) : Value := .int .i64 x
def I64 (x : Int) : Prop := -9223372036854775808 ≤ x ∧ x ≤ 9223372036854775807
theorem wrap_I64 (x : Int) : I64 (IntKind.i64.wrap x) := by
  rw [wrap_i64_def]
  unfold I64
  split <;> omega
def lenN (x : Nat) : Nat := if x = 0 then 0 else Nat.log2 x + 1
theorem lenN_is (x : Nat) : IsLen x (lenN x) := by
  unfold lenN
  split
  · rename_i h
    subst h
    exact ⟨by decide, .inl rfl⟩
  · rename_i h
    exact ⟨Nat.lt_log2_self, .inr (by rw [Nat.add_sub_cancel]; exact Nat.log2_self_le h)⟩
def sigL (x : Int) : List UInt8 := digitsL (zigN x)
theorem sigL_len {x : Int} (h : I64 x) : (sigL x).length ≤ 10 := digitsL_len10 (zigN_lt h.1 h.2)
def runsL : List Int → List UInt8
  | [] => []
  | x :: r => digitsL ((r.takeWhile (· == x)).length + 1) ++ (sigL x ++ runsL (r.drop (r.takeWhile (· == x)).length))
termination_by l => l.length
decreasing_by simp only [List.length_drop, List.length_cons]; omega
/-- a run from place k on -/
structure IsRun (l : List Int) (k n : Nat) : Prop where
  pos : 0 < n
  le : k + n ≤ l.length
  all : ∀ j, j < n → l[k + j]? = l[k]?
  stop : k + n = l.length ∨ l[k + n]? ≠ l[k]?
theorem takeWhile_len {x : Int} : ∀ {r : List Int} {n : Nat}, n ≤ r.length → (∀ j, j < n → r[j]? = some x) → (n = r.length ∨ r[n]? ≠ some x) → (r.takeWhile (· == x)).length = n
  | [], n, h1, _, _ => by simp at h1; simp [h1]
  | y :: r, 0, _, _, h3 => by
    rcases h3 with h3 | h3
    · simp at h3
    · simp only [List.getElem?_cons_zero, ne_eq, Option.some.injEq] at h3
      rw [List.takeWhile_cons_of_neg (by simpa using h3)]
      rfl
  | y :: r, n + 1, h1, h2, h3 => by
    have h0 := h2 0 (by omega)
    simp only [List.getElem?_cons_zero, Option.some.injEq] at h0
    rw [List.takeWhile_cons_of_pos (by simpa using h0), List.length_cons]
    rw [takeWhile_len (r := r) (n := n) (by simpa using h1) (fun j hj => by have := h2 (j + 1) (by omega); simpa using this) (by
      rcases h3 with h3 | h3
      · exact .inl (by simpa using h3)
      · exact .inr (by simpa using h3))]
theorem runs_cut {l : List Int} {k n : Nat} (h : IsRun l k n) : runsL (l.drop k) = digitsL n ++ (sigL (l.getD k 0) ++ runsL (l.drop (k + n))) := by
  have hp := h.pos
  have hl := h.le
  have hk : k < l.length := by omega
  have hg : l.getD k 0 = l[k] := by simp [hk]
  have hk? : l[k]? = some l[k] := List.getElem?_eq_getElem hk
  rw [List.drop_eq_getElem_cons hk, hg]
  conv => lhs; unfold runsL
  have hT : ((l.drop (k + 1)).takeWhile (· == l[k])).length = n - 1 := by
    apply takeWhile_len
    · rw [List.length_drop]; omega
    · intro j hj
      rw [List.getElem?_drop, ← hk?, ← h.all (j + 1) (by omega)]
      congr 1
      omega
    · rcases h.stop with h3 | h3
      · left; rw [List.length_drop]; omega
      · right
        rw [List.getElem?_drop, ← hk?]
        have e : k + 1 + (n - 1) = k + n := by omega
        rw [e]
        exact h3
  rw [hT, List.drop_drop, show n - 1 + 1 = n by omega, show k + 1 + (n - 1) = k + n by omega]
theorem runsL_nil : runsL [] = [] := by unfold runsL; rfl
def stepsN (l : List Int) : List Nat := (List.range (l.length - 1)).map fun i => zigN (IntKind.i64.wrap (l.getD (i + 1) 0 - l.getD i 0))
def minTo (l : List Int) (k : Nat) : Int := (l.take k).foldl (fun m x => if x < m then x else m) (l.headD 0)
def minL (l : List Int) : Int := minTo l l.length
def frameN (l : List Int) : List Nat := l.map fun x => (x - minL l).toNat
theorem minTo_succ {l : List Int} {k : Nat} (hk : k < l.length) : minTo l (k + 1) = if l[k] < minTo l k then l[k] else minTo l k := by
  unfold minTo
  rw [List.take_succ_eq_append_getElem hk, List.foldl_append]
  rfl
theorem foldl_min_le (l : List Int) : ∀ m : Int, l.foldl (fun m x => if x < m then x else m) m ≤ m ∧ (∀ x ∈ l, l.foldl (fun m x => if x < m then x else m) m ≤ x) ∧ (l.foldl (fun m x => if x < m then x else m) m = m ∨ l.foldl (fun m x => if x < m then x else m) m ∈ l) := by
  induction l with
  | nil => intro m; simp
  | cons y l ih =>
    intro m
    obtain ⟨h1, h2, h3⟩ := ih (if y < m then y else m)
    rw [List.foldl_cons]
    refine ⟨?_, ?_, ?_⟩
    · refine Int.le_trans h1 ?_
      split <;> omega
    · intro x hx
      rcases List.mem_cons.1 hx with rfl | hx
      · refine Int.le_trans h1 ?_
        split <;> omega
      · exact h2 x hx
    · rcases h3 with h3 | h3
      · rw [h3]
        split
        · right; exact List.mem_cons_self ..
        · left; rfl
      · right; exact List.mem_cons_of_mem _ h3
theorem minL_le {l : List Int} {x : Int} (h : x ∈ l) : minL l ≤ x := by
  unfold minL minTo
  rw [List.take_length]
  exact (foldl_min_le l _).2.1 x h
theorem minTo_I64 {l : List Int} (h : ∀ x ∈ l, I64 x) (h0 : 0 < l.length) (k : Nat) : I64 (minTo l k) := by
  unfold minTo
  have hh : I64 (l.headD 0) := by
    cases l with
    | nil => simp at h0
    | cons y l => exact h y (List.mem_cons_self ..)
  rcases (foldl_min_le (l.take k) (l.headD 0)).2.2 with e | e
  · rw [e]; exact hh
  · exact h _ (List.mem_of_mem_take e)
theorem stepsN_lt {l : List Int} : ∀ x ∈ stepsN l, x < 18446744073709551616 := by
  intro x hx
  obtain ⟨i, _, rfl⟩ := List.mem_map.1 hx
  have := wrap_I64 (l.getD (i + 1) 0 - l.getD i 0)
  exact zigN_lt this.1 this.2
theorem frameN_lt {l : List Int} (h : ∀ x ∈ l, I64 x) : ∀ x ∈ frameN l, x < 18446744073709551616 := by
  intro x hx
  obtain ⟨y, hy, rfl⟩ := List.mem_map.1 hx
  have h1 := h y hy
  have h2 := minTo_I64 h (List.length_pos_of_mem hy) l.length
  have h3 := minL_le hy
  unfold minL at h3 ⊢
  unfold I64 at h1 h2
  omega
def packedL (first : Int) (s : List Nat) : List UInt8 := sigL first ++ (UInt8.ofNat (lenN (orL s)) :: packL s (lenN (orL s)))
/-- which bytes a list of numbers is in a form -/
def intsL (form : Nat) (l : List Int) : List UInt8 :=
  match form with
  | 0 => 0 :: l.flatMap sigL
  | 1 => 1 :: runsL l
  | 2 => 2 :: (if l = [] then [] else packedL (l.headD 0) (stepsN l))
  | _ => 3 :: (if l = [] then [] else packedL (minL l) (frameN l))
theorem lenN_le64 {s : List Nat} (h : ∀ x ∈ s, x < 18446744073709551616) : lenN (orL s) ≤ 64 := (lenN_is _).le.2 ((orL_lt s 64).2 h)
theorem packedL_len {f : Int} {s : List Nat} (hf : I64 f) (h : ∀ x ∈ s, x < 18446744073709551616) : (packedL f s).length ≤ 12 + s.length * 8 := by
  have h1 := sigL_len hf
  have h2 := packL_len s (lenN (orL s))
  have h3 := lenN_le64 h
  unfold packedL
  simp only [List.length_append, List.length_cons]
  unfold sizeN at h2
  have h4 : s.length * lenN (orL s) ≤ s.length * 64 := Nat.mul_le_mul_left _ h3
  omega
theorem flatSig_len {l : List Int} (h : ∀ x ∈ l, I64 x) : (l.flatMap sigL).length ≤ l.length * 10 := by
  induction l with
  | nil => simp
  | cons x l ih =>
    have h1 := sigL_len (h x (List.mem_cons_self ..))
    have h2 := ih fun y hy => h y (List.mem_cons_of_mem _ hy)
    simp only [List.flatMap_cons, List.length_append, List.length_cons]
    omega
theorem runsL_len : ∀ (n : Nat) (l : List Int), l.length ≤ n → n ≤ 4096 → (∀ x ∈ l, I64 x) → (runsL l).length ≤ l.length * 20
  | _, [], _, _, _ => by rw [runsL_nil]; simp
  | 0, x :: l, h, _, _ => by simp at h
  | n + 1, x :: l, h, hn, hx => by
    unfold runsL
    have h1 := sigL_len (hx x (List.mem_cons_self ..))
    have hT : (l.takeWhile (· == x)).length ≤ l.length := (List.takeWhile_sublist _).length_le
    have hl : l.length ≤ n := by simpa using h
    have h2 := digitsL_len10 (n := (l.takeWhile (· == x)).length + 1) (by omega)
    have h3 := runsL_len n (l.drop (l.takeWhile (· == x)).length) (by rw [List.length_drop]; omega) (by omega) (fun y hy => hx y (List.mem_cons_of_mem _ (List.mem_of_mem_drop hy)))
    rw [List.length_drop] at h3
    simp only [List.length_append, List.length_cons]
    omega
theorem intsL_len {l : List Int} (f : Nat) (hn : l.length ≤ 4096) (h : ∀ x ∈ l, I64 x) : (intsL f l).length ≤ 13 + l.length * 20 := by
  unfold intsL
  split
  · have := flatSig_len h
    simp only [List.length_cons]
    omega
  · have := runsL_len 4096 l hn (by omega) h
    simp only [List.length_cons]
    omega
  · split
    · simp only [List.length_cons, List.length_nil]
      omega
    · rename_i h0
      have hp : 0 < l.length := List.length_pos_iff.2 h0
      have h1 : I64 (l.headD 0) := by
        have := minTo_I64 h hp 0
        simpa [minTo] using this
      have := packedL_len h1 (stepsN_lt (l := l))
      have e : (stepsN l).length = l.length - 1 := by simp [stepsN]
      rw [e] at this
      simp only [List.length_cons]
      omega
  · split
    · simp only [List.length_cons, List.length_nil]
      omega
    · rename_i h0
      have hp : 0 < l.length := List.length_pos_iff.2 h0
      have := packedL_len (minTo_I64 h hp l.length) (frameN_lt h)
      have e : (frameN l).length = l.length := by simp [frameN]
      rw [e] at this
      unfold minL
      simp only [List.length_cons]
      omega
end Go.Proofs.YtbkffpcgppecgaaGreat

/-
  The document's bytes of a value; the law ValueLays.
-/
namespace Go.Proofs.YtbkffpcgppecgaaGreat
open Go.Dn Go.Proofs
open Go.RowKit (Below)
set_option linter.unusedVariables false
set_option maxRecDepth 20000

section
variable {w : World} {a : Option Addr} {c : Nat}
theorem ref_Zig_ok (n : Int) (h1 : -9223372036854775808 ≤ n) (h2 : n ≤ 9223372036854775807) : Calls Tryz.prog f.ref02_Zig #[.int .i64 n] w (Ret fun v w' => v = .int .u64 (zigN n : Int) ∧ w' = w) := by
  apply R.ref02_Zig_calls
  unfold R.ref02_Zig
  refine IFB_dec (fun h => ⟨?_, rfl⟩) (fun h => ⟨?_, rfl⟩)
  · rw [wrap_i64 (n := n + 1) (by omega) (by omega), wrap_i64 (n := 0 - (n + 1)) (by omega) (by omega), wrap_u64_id (n := 0 - (n + 1)) (by omega) (by omega), wrap_u64_id (n := 2 * (0 - (n + 1))) (by omega) (by omega), wrap_u64_id (by omega) (by omega)]
    unfold zigN
    rw [if_pos h]
    congr 1
    omega
  · rw [wrap_u64_id (n := n) (by omega) (by omega), wrap_u64_id (by omega) (by omega)]
    unfold zigN
    rw [if_neg h]
    congr 1
    omega
theorem ref_Signed_ok (l : List UInt8) (hl : Rd w a (l.map byteV)) (n : Int) (h1 : -9223372036854775808 ≤ n) (h2 : n ≤ 9223372036854775807) (hs : l.length + 10 ≤ 140737488355328) :
    Calls Tryz.prog f.ref02_Signed #[.slice a l.length c, .int .i64 n] w (Ret fun v w' => ∃ a c, v = .slice a (l ++ digitsL (zigN n)).length c ∧ NewB w w' (l ++ digitsL (zigN n)) a c) := by
  apply R.ref02_Signed_calls
  unfold R.ref02_Signed
  refine (ref_Zig_ok n h1 h2).mono ?_
  rintro _ w ⟨_, rfl, rfl, rfl⟩
  refine ⟨_, rfl, (ref_Number_ok l hl (zigN n) (zigN_lt h1 h2) hs).mono ?_⟩
  rintro _ w1 ⟨_, rfl, a1, c1, rfl, h⟩
  exact ⟨_, _, _, rfl, a1, c1, rfl, h⟩
end

end Go.Proofs.YtbkffpcgppecgaaGreat

/-
  DERIVED. MADE BY PROGRAM (lay-iter.mjs) off ytbkffpcgppecgaagreat.cut.gsa: THE SHELF's CONTRACTS ON 'slices.Sorted(maps.Keys(m))' LAID AT THIS DUMP: 1 map type. NO WALK OF THE LIBRARY's TEXT: each is one application of a contract over any P and ρ (Derived/Shelf/SlIter/, Derived/Shelf/SortM/).
-/
namespace Go.Proofs
open Go.RowKit Go.Maps Go.Sort Go.Shelf

def Tryz.keys65_ren : Go.Shelf.Ren := ⟨fun | 7 => 65 | 10 => 91 | n => n, fun | 23 => 96 | 26 => 9 | 3 => 37 | 28 => 99 | 0 => 0 | 27 => 98 | 33 => 93 | 4 => 4 | n => n, fun | n => n⟩
theorem Tryz.keys65 : Go.Proofs.SlLaysZ.n7 Tryz.prog Tryz.keys65_ren := {
  mixed := by kernel_rfl
  f7 := ⟨Tryz.f65.name, by decide, Tryz.func65.trans (congrArg some (by kernel_rfl))⟩
  f10 := ⟨Tryz.f91.name, by decide, Tryz.func91.trans (congrArg some (by kernel_rfl))⟩
  t0 := Tryz.underlying0
  a0 := Tryz.isAgg0
  z0 := Tryz.sizeOf0
  v0 := Tryz.zeroValue0
  t4 := Tryz.underlying4
  a4 := Tryz.isAgg4
  z4 := Tryz.sizeOf4
  v4 := Tryz.zeroValue4
  t23 := Tryz.underlying96
  a23 := Tryz.isAgg96
  z23 := Tryz.sizeOf96
  v23 := Tryz.zeroValue96
  t26 := Tryz.underlying9
  a26 := Tryz.isAgg9
  z26 := Tryz.sizeOf9
  v26 := Tryz.zeroValue9
  t27 := Tryz.underlying98
  a27 := Tryz.isAgg98
  z27 := Tryz.sizeOf98
  v27 := Tryz.zeroValue98
  t28 := Tryz.underlying99
  a28 := Tryz.isAgg99
  z28 := Tryz.sizeOf99
  v28 := Tryz.zeroValue99
  t33 := Tryz.underlying93
  a33 := Tryz.isAgg93
  z33 := Tryz.sizeOf93
  v33 := Tryz.zeroValue93 }
def Tryz.sorted64_ren : Go.Shelf.Ren := ⟨fun | 6 => 64 | 8 => 89 | 9 => 90 | 11 => 101 | 13 => 103 | 12 => 102 | 23 => 113 | 24 => 58 | 14 => 104 | 15 => 105 | 16 => 106 | 17 => 107 | 18 => 108 | 19 => 109 | 20 => 110 | 21 => 111 | 22 => 112 | 25 => 114 | 26 => 115 | 27 => 116 | 28 => 117 | 29 => 118 | 30 => 119 | 31 => 120 | n => n, fun | 26 => 9 | 28 => 99 | 24 => 58 | 0 => 0 | 3 => 3 | 37 => 51 | 48 => 49 | 50 => 37 | 4 => 4 | 40 => 139 | 39 => 138 | 45 => 121 | 5 => 5 | 9 => 9 | 51 => 146 | 55 => 150 | 57 => 152 | 58 => 153 | 33 => 93 | n => n, fun | n => n⟩
theorem Tryz.sorted64 : Go.Proofs.SlLaysZ.n6 Tryz.prog Tryz.sorted64_ren := {
  mixed := by kernel_rfl
  f6 := ⟨Tryz.f64.name, by decide, Tryz.func64.trans (congrArg some (by kernel_rfl))⟩
  f8 := ⟨Tryz.f89.name, by decide, Tryz.func89.trans (congrArg some (by kernel_rfl))⟩
  f11 := ⟨Tryz.f101.name, by decide, Tryz.func101.trans (congrArg some (by kernel_rfl))⟩
  t0 := Tryz.underlying0
  a0 := Tryz.isAgg0
  z0 := Tryz.sizeOf0
  v0 := Tryz.zeroValue0
  t24 := Tryz.underlying58
  a24 := Tryz.isAgg58
  z24 := Tryz.sizeOf58
  v24 := Tryz.zeroValue58
  t26 := Tryz.underlying9
  a26 := Tryz.isAgg9
  z26 := Tryz.sizeOf9
  v26 := Tryz.zeroValue9
  t28 := Tryz.underlying99
  a28 := Tryz.isAgg99
  z28 := Tryz.sizeOf99
  v28 := Tryz.zeroValue99
  i26 := by kernel_rfl }
def Tryz.sort90_ren : Go.Shelf.Ren := ⟨fun | 6 => 90 | 8 => 103 | 9 => 102 | 19 => 113 | 20 => 58 | 21 => 104 | 22 => 105 | 23 => 106 | 24 => 107 | 25 => 108 | 26 => 109 | 27 => 110 | 28 => 111 | 29 => 112 | 36 => 114 | 31 => 115 | 32 => 116 | 37 => 117 | 38 => 118 | 39 => 119 | 41 => 120 | n => n, fun | 27 => 58 | 29 => 9 | 3 => 3 | 32 => 51 | 26 => 58 | 0 => 0 | 44 => 49 | 46 => 37 | 4 => 4 | 36 => 139 | 35 => 138 | 41 => 121 | 5 => 5 | 9 => 9 | 53 => 146 | 57 => 150 | 63 => 152 | 64 => 153 | n => n, fun | n => n⟩
theorem Tryz.sort90 : Go.Proofs.SlLaysM.n6 Tryz.prog Tryz.sort90_ren := {
  mixed := by kernel_rfl
  f6 := ⟨Tryz.f90.name, by decide, Tryz.func90.trans (congrArg some (by kernel_rfl))⟩
  f8 := Tryz.func103.trans (congrArg some (by kernel_rfl))
  f9 := ⟨Tryz.f102.name, by decide, Tryz.func102.trans (congrArg some (by kernel_rfl))⟩
  f19 := Tryz.func113.trans (congrArg some (by kernel_rfl))
  f20 := Tryz.func58.trans (congrArg some (by kernel_rfl))
  f21 := ⟨Tryz.f104.name, by decide, Tryz.func104.trans (congrArg some (by kernel_rfl))⟩
  f22 := ⟨Tryz.f105.name, by decide, Tryz.func105.trans (congrArg some (by kernel_rfl))⟩
  f23 := ⟨Tryz.f106.name, by decide, Tryz.func106.trans (congrArg some (by kernel_rfl))⟩
  f24 := ⟨Tryz.f107.name, by decide, Tryz.func107.trans (congrArg some (by kernel_rfl))⟩
  f25 := ⟨Tryz.f108.name, by decide, Tryz.func108.trans (congrArg some (by kernel_rfl))⟩
  f26 := ⟨Tryz.f109.name, by decide, Tryz.func109.trans (congrArg some (by kernel_rfl))⟩
  f27 := ⟨Tryz.f110.name, by decide, Tryz.func110.trans (congrArg some (by kernel_rfl))⟩
  f28 := ⟨Tryz.f111.name, by decide, Tryz.func111.trans (congrArg some (by kernel_rfl))⟩
  f29 := ⟨Tryz.f112.name, by decide, Tryz.func112.trans (congrArg some (by kernel_rfl))⟩
  f31 := Tryz.func115.trans (congrArg some (by kernel_rfl))
  f32 := Tryz.func116.trans (congrArg some (by kernel_rfl))
  f36 := ⟨Tryz.f114.name, by decide, Tryz.func114.trans (congrArg some (by kernel_rfl))⟩
  f37 := ⟨Tryz.f117.name, by decide, Tryz.func117.trans (congrArg some (by kernel_rfl))⟩
  f38 := ⟨Tryz.f118.name, by decide, Tryz.func118.trans (congrArg some (by kernel_rfl))⟩
  f39 := ⟨Tryz.f119.name, by decide, Tryz.func119.trans (congrArg some (by kernel_rfl))⟩
  f41 := ⟨Tryz.f120.name, by decide, Tryz.func120.trans (congrArg some (by kernel_rfl))⟩
  t0 := Tryz.underlying0
  a0 := Tryz.isAgg0
  z0 := Tryz.sizeOf0
  v0 := Tryz.zeroValue0
  t3 := Tryz.underlying3
  a3 := Tryz.isAgg3
  z3 := Tryz.sizeOf3
  v3 := Tryz.zeroValue3
  t4 := Tryz.underlying4
  a4 := Tryz.isAgg4
  z4 := Tryz.sizeOf4
  v4 := Tryz.zeroValue4
  t5 := Tryz.underlying5
  a5 := Tryz.isAgg5
  z5 := Tryz.sizeOf5
  v5 := Tryz.zeroValue5
  t9 := Tryz.underlying9
  a9 := Tryz.isAgg9
  z9 := Tryz.sizeOf9
  v9 := Tryz.zeroValue9
  t26 := Tryz.underlying58
  a26 := Tryz.isAgg58
  z26 := Tryz.sizeOf58
  v26 := Tryz.zeroValue58
  t27 := Tryz.underlying58
  a27 := Tryz.isAgg58
  z27 := Tryz.sizeOf58
  v27 := Tryz.zeroValue58
  t29 := Tryz.underlying9
  a29 := Tryz.isAgg9
  z29 := Tryz.sizeOf9
  v29 := Tryz.zeroValue9
  t32 := Tryz.underlying51
  a32 := Tryz.isAgg51
  z32 := Tryz.sizeOf51
  v32 := Tryz.zeroValue51
  t35 := Tryz.underlying138
  a35 := Tryz.isAgg138
  z35 := Tryz.sizeOf138
  v35 := Tryz.zeroValue138
  t36 := Tryz.underlying139
  a36 := Tryz.isAgg139
  z36 := Tryz.sizeOf139
  v36 := Tryz.zeroValue139
  t41 := Tryz.underlying121
  a41 := Tryz.isAgg121
  z41 := Tryz.sizeOf121
  v41 := Tryz.zeroValue121
  t44 := Tryz.underlying49
  a44 := Tryz.isAgg49
  z44 := Tryz.sizeOf49
  v44 := Tryz.zeroValue49
  t46 := Tryz.underlying37
  a46 := Tryz.isAgg37
  z46 := Tryz.sizeOf37
  v46 := Tryz.zeroValue37
  t53 := Tryz.underlying146
  a53 := Tryz.isAgg146
  z53 := Tryz.sizeOf146
  v53 := Tryz.zeroValue146
  t57 := Tryz.underlying150
  a57 := Tryz.isAgg150
  z57 := Tryz.sizeOf150
  v57 := Tryz.zeroValue150
  t63 := Tryz.underlying152
  a63 := Tryz.isAgg152
  z63 := Tryz.sizeOf152
  v63 := Tryz.zeroValue152
  t64 := Tryz.underlying153
  a64 := Tryz.isAgg153
  z64 := Tryz.sizeOf153
  v64 := Tryz.zeroValue153 }


/-- slices.Sort's two contracts at this dump, at the fence that asks nothing. -/
theorem Tryz.sorts64 (m : Nat) : AnyZ.SortsIn Tryz.prog Tryz.sorted64_ren Fence.wide m :=
  ⟨fun blk off cap ss W hH hblk hsz => callsIn_wide.2 (AnyM.slices_Sort_string Tryz.sort90 blk off cap ss W hH hblk hsz),
   fun p cap W => callsIn_wide.2 (AnyM.slices_Sort_string_none Tryz.sort90 p cap W)⟩

/-- **maps.Keys[map[string]uint64,string,uint64], at whatever map, the nil one too:** a function value over ONE NEW BLOCK, which holds the map. -/
theorem Tryz.maps_Keys_65 (mb : Option Nat) (W : World) : CallsIn Fence.wide 5 Tryz.prog 65 #[.map mb] W fun e w' => e = .returned (.func (.func 91) #[] #[.pointer (some ⟨W.heap.size, 0, none⟩)]) ∧ w' = W.alloc (.cells #[.map mb] 96) :=
  AnyZ.keys_in Tryz.keys65 Fence.wide 5 trivial rfl mb W

set_option maxHeartbeats 1000000 in
/-- **slices.Sorted[string] AT WHAT maps.Keys[map[string]uint64,string,uint64] HANDED BACK FOR A MAP THAT IS NOT nil** ('w': the world AHEAD of maps.Keys' call): A NEW SLICE THAT HOLDS THE MAP's KEYS, SORTED; nil just where it has none; nothing that lay before has turned. -/
theorem Tryz.slices_Sorted_keys_64_65 {H : Type} (b nn : Nat) (D0 : DataW H) (R : Value → Option (DataW H × List MemPlace)) (w : World) (hown : w.ownsMap Tryz.prog 9 R b nn D0) (hmax : Maps.size D0 ≤ maxLen) (hbytes : Maps.size D0 * 16 ≤ 140737488355328) :
    CallsIn Fence.wide 5 Tryz.prog 64 #[.func (.func 91) #[] #[.pointer (some ⟨w.heap.size, 0, none⟩)]] (w.alloc (.cells #[.map (some b)] 96)) fun e w' => ∃ (v : Value) (ss : List (List UInt8)), e = .returned v ∧ ss.Perm (strKeys D0) ∧
      w'.ownsRow (w.alloc (.cells #[.map (some b)] 96)).heap.size 9 1 v ss.length ((ss.mergeSort (fun x y => decide (x ≤ y))).map encStr) ∧ (v = .slice none 0 0 ↔ ss = []) ∧ Below (w.alloc (.cells #[.map (some b)] 96)).heap.size (w.alloc (.cells #[.map (some b)] 96)) w' := by
  have hbl := hown.lt
  have hseq : SeqGives Fence.wide 2 Tryz.prog 91 #[.pointer (some ⟨w.heap.size, 0, none⟩)] encStr (fun ss => ss.Perm (strKeys D0)) (Maps.size D0) (w.alloc (.cells #[.map (some b)] 96)) :=
    AnyZ.keys_gives (ρ := Tryz.keys65_ren) { Tryz.keys65 with } Fence.wide _ trivial rfl (by omega) w.heap.size b nn D0 _ (by simp) (by simp) (by
      obtain ⟨es, clock, hb, Ft, hs, hD⟩ := hown
      exact ⟨es, clock, (Below.heap_alloc _ _ b hbl).trans hb, Ft, hs, hD⟩)
  exact AnyZ.sorted_in Tryz.sorted64 Fence.wide 5 trivial trivial trivial trivial rfl (by omega) (Tryz.sorts64 _) (enters_of Tryz.func90 (by kernel_rfl) rfl) 91 #[.pointer (some ⟨w.heap.size, 0, none⟩)] trivial (enters_of Tryz.func91 (by kernel_rfl) rfl) _ _ hmax hbytes _ hseq

set_option maxHeartbeats 1000000 in
/-- **.. AND FOR THE nil MAP: nil.** -/
theorem Tryz.slices_Sorted_keys_nil_64_65 (w : World) :
    CallsIn Fence.wide 5 Tryz.prog 64 #[.func (.func 91) #[] #[.pointer (some ⟨w.heap.size, 0, none⟩)]] (w.alloc (.cells #[.map none] 96)) fun e w' => ∃ (v : Value) (ss : List (List UInt8)), e = .returned v ∧ ss = [] ∧
      w'.ownsRow (w.alloc (.cells #[.map none] 96)).heap.size 9 1 v ss.length ((ss.mergeSort (fun x y => decide (x ≤ y))).map encStr) ∧ (v = .slice none 0 0 ↔ ss = []) ∧ Below (w.alloc (.cells #[.map none] 96)).heap.size (w.alloc (.cells #[.map none] 96)) w' := by
  have hseq : SeqGives Fence.wide 2 Tryz.prog 91 #[.pointer (some ⟨w.heap.size, 0, none⟩)] encStr (fun ss : List (List UInt8) => ss = []) 0 (w.alloc (.cells #[.map none] 96)) :=
    AnyZ.keys_gives_nil (ρ := Tryz.keys65_ren) { Tryz.keys65 with } Fence.wide _ trivial rfl w.heap.size _ (by simp) (by simp)
  exact AnyZ.sorted_in Tryz.sorted64 Fence.wide 5 trivial trivial trivial trivial rfl (by omega) (Tryz.sorts64 _) (enters_of Tryz.func90 (by kernel_rfl) rfl) 91 #[.pointer (some ⟨w.heap.size, 0, none⟩)] trivial (enters_of Tryz.func91 (by kernel_rfl) rfl) _ 0 (Nat.zero_le _) (by omega) _ hseq



end Go.Proofs

/-
  Maps from texts to integers: made, written, read; their keys.
-/
namespace Go.Dn
open Go.RowKit (Below)
open Go.Maps (has Tidy Keyed)

theorem Keeps.of_grownBy {w w' : World} {b : Nat} (h : w.grownBy w' (some b)) : Keeps (· = b) w w' :=
  ⟨h.os, h.tape, h.output, h.size, fun k hk hn => h.block k hk (fun e => hn (Option.some.inj e))⟩

/-- block b is a map from texts to integers: what it holds -/
def MapU (P : Program) (k e : TypeId) (q : IntKind) (w : World) (b n : Nat) (g : List UInt8 → Option Int) : Prop :=
  ∃ D : DataW Unit, w.ownsMap P k (plainElem P e) b n D ∧ Tidy D ∧ ∀ x, has D (.string x) = (g x).isSome ∧ D.atKey (.string x) (.lit (.int q 0)) = .lit (.int q ((g x).getD 0))
section
variable {P : Program} {k e t : TypeId} {q : IntKind} {w : World} {b n : Nat} {g : List UInt8 → Option Int}
theorem MapU.kept (h : MapU P k e q w b n g) {F : Nat → Prop} {w' : World} (K : Keeps F w w') (hn : ¬ F b) : MapU P k e q w' b n g := by
  obtain ⟨D, ⟨es, clock, hb, r⟩, h2⟩ := h
  exact ⟨D, ⟨es, clock, K.at hb hn, r⟩, h2⟩
theorem MapU.lt (h : MapU P k e q w b n g) : b < w.heap.size := by
  obtain ⟨D, h, _⟩ := h
  exact h.lt
theorem MapU.put (h : MapU P k e q w b n g) (hk : P.underlying k = some .string) (he : P.underlying e = some (.int q)) (ht : P.underlying t = some (.map k e)) (hn : n < maxLen) {s : ByteArray} (hs : s.size ≤ maxLen) {v : Int} (hv : (Lit.int q v).wf = true)
    {f : World → Prop} (hf : ∀ w', Keeps (· = b) w w' → MapU P k e q w' b (n + 1) (fun y => if y = bl s then some v else g y) → f w') : OPU P (Instr.mapUpdate t (.map (some b)) (.string s) (.int q v)) f w := by
  obtain ⟨D, hD, hT, hg⟩ := h
  have hkey : keyOf P k (.string s) = some (.string (bl s)) := by simp [keyOf, hk, mapKey, hs, bl]
  obtain ⟨w', hrun, hown, hgrow⟩ := hD.update (Maps.string_keyed hk) ht hn hkey (plainElem_int he hv)
  unfold OPU
  rw [hrun]
  have hkl : WideAt.IsKeyLit (.string (bl s)) := by simp [WideAt.IsKeyLit]
  refine hf w' (.of_grownBy hgrow) ⟨_, hown, hT.put hkl _, fun x => ?_⟩
  by_cases hx : x = bl s
  · subst hx
    simp only [if_true]
    exact ⟨Maps.has_put_same hT.isMap hkl _, Maps.atKey_put_same hT.isMap hkl _ _⟩
  · have hne : Lit.string x ≠ .string (bl s) := fun e => hx (by injection e)
    simp only [hx, if_false]
    exact ⟨(Maps.has_put_other hne _).trans (hg x).1, (Maps.atKey_put_other hne _ _).trans (hg x).2⟩
theorem MapU.get (h : MapU P k e q w b n g) (hk : P.underlying k = some .string) (he : P.underlying e = some (.int q)) (ht : P.underlying t = some (.map k e)) (hz : (zeroValue e).run P w = .ok (.int q 0) w) {s : ByteArray} (hs : s.size ≤ maxLen)
    {f : Value → World → Prop} (hf : f (.int q ((g (bl s)).getD 0)) w) : OPR P (Instr.lookup t (.map (some b)) (.string s) false) f w := by
  obtain ⟨D, hD, hT, hg⟩ := h
  have hkey : keyOf P k (.string s) = some (.string (bl s)) := by simp [keyOf, hk, mapKey, hs, bl]
  obtain ⟨c, hrun, hat, _⟩ := hD.lookup_int (Maps.string_keyed hk) ht he hz hkey
  rw [(hg (bl s)).2] at hat
  have : c = (g (bl s)).getD 0 := by injection hat with h1; injection h1 with _ h2; exact h2.symm
  unfold OPR
  rw [hrun, this]
  exact hf
/-- the keys -/
theorem MapU.keys (h : MapU P k e q w b n g) (hk : P.underlying k = some .string) : ∃ D : DataW Unit, w.ownsMap P k (plainElem P e) b n D ∧ Maps.size D ≤ n ∧ (strKeys D).Nodup ∧ ∀ x, x ∈ strKeys D ↔ (g x).isSome = true := by
  obtain ⟨D, hD, hT, hg⟩ := h
  obtain ⟨es, e1, hpw⟩ := hT
  obtain ⟨es', hD', hko⟩ := hD.keysOf
  obtain rfl : es = es' := by rw [e1] at hD'; simpa using hD'
  have hstr : ∀ p ∈ es, ∃ x, p.1 = .string x := fun p hp => by obtain ⟨v, hv⟩ := hko p hp; obtain ⟨x, _, hx, _⟩ := Maps.keyOf_str hk hv; exact ⟨x, hx⟩
  have hnd : (strKeys D).Nodup := by
    rw [e1]
    show (es.map fun p => strOf p.1).Nodup
    refine List.pairwise_map.2 (hpw.imp_of_mem fun {p r} hp' hq' hne e => hne ?_)
    obtain ⟨a, ha⟩ := hstr p hp'
    obtain ⟨c, hc⟩ := hstr r hq'
    rw [ha, hc] at e ⊢
    exact congrArg _ e
  refine ⟨D, hD, ?_, hnd, fun x => ?_⟩
  · obtain ⟨es2, clock, _, _, hs, e2⟩ := hD
    rw [e2]
    simp only [Maps.size, length_sorted, List.length_map, Array.length_toList]
    exact hs
  · rw [← (hg x).1, e1, Maps.has_eq, List.any_eq_true]
    show x ∈ es.map (fun p => strOf p.1) ↔ _
    rw [List.mem_map]
    constructor
    · rintro ⟨p, hp', rfl⟩
      obtain ⟨a, ha⟩ := hstr p hp'
      exact ⟨p, hp', by rw [ha]; simp [Lit.sameKey, strOf]⟩
    · rintro ⟨p, hp', hs⟩
      obtain ⟨a, ha⟩ := hstr p hp'
      rw [ha] at hs
      exact ⟨p, hp', by rw [ha]; simpa [Lit.sameKey, strOf] using hs⟩
end
end Go.Dn

/-
  The different texts of a list, rising: by the program.
-/
namespace Go.Proofs.YtbkffpcgppecgaaGreat
open Go.Dn Go.Proofs
open Go.RowKit (Below)
set_option linter.unusedVariables false
set_option maxRecDepth 20000

theorem row_of_owns {w : World} {base : Nat} {e : TypeId} {v : Value} {n : Nat} {xs : List Value} (h : w.ownsRow base e 1 v n xs) : ∃ a c, v = .slice a n c ∧ Row w e 1 a n c xs ∧ ∀ k, rowB a = some k → base ≤ k := by
  obtain ⟨hl, ⟨rfl, rfl⟩ | ⟨g, cap, cur, rfl, hb, hg, h1, h2, h3, h4⟩⟩ := h
  · exact ⟨none, 0, rfl, ⟨hl, .inl ⟨rfl, rfl, rfl⟩⟩, by simp [rowB]⟩
  · refine ⟨_, cap, rfl, ⟨hl, .inr ⟨g, cur, rfl, hg, h1, ?_, h3, h4⟩⟩, fun k hk => ?_⟩
    · exact Nat.le_trans h2 (by decide)
    · cases hk; exact hb

/-- t: the different texts of ls, rising -/
structure IsRise (ls t : List (List UInt8)) : Prop where
  up : t.Pairwise (· < ·)
  mem : ∀ x, x ∈ t ↔ x ∈ ls
theorem lt_nodup {t : List (List UInt8)} (h : t.Pairwise (· < ·)) : t.Nodup := h.imp fun {a b} hab e => by subst e; exact List.lt_irrefl _ hab
theorem IsRise.one {ls t u : List (List UInt8)} (h : IsRise ls t) (h' : IsRise ls u) : t = u := by
  have hp : t.Perm u := (List.perm_ext_iff_of_nodup (lt_nodup h.up) (lt_nodup h'.up)).2 fun x => (h.mem x).trans (h'.mem x).symm
  exact List.Perm.eq_of_pairwise (le := fun a b => a < b) (fun a b _ _ h1 h2 => absurd h2 (List.lt_asymm h1)) h.up h'.up hp
theorem rise_sort {ls ss : List (List UInt8)} (hnd : ss.Nodup) (hm : ∀ x, x ∈ ss ↔ x ∈ ls) : IsRise ls (ss.mergeSort (fun x y => decide (x ≤ y))) := by
  have tr : ∀ a b c : List UInt8, leB a b = true → leB b c = true → leB a c = true := fun a b c h1 h2 => by simp only [leB, decide_eq_true_eq] at *; exact List.le_trans h1 h2
  have to : ∀ a b : List UInt8, (leB a b || leB b a) = true := fun a b => by simp only [leB, Bool.or_eq_true, decide_eq_true_eq]; exact List.le_total a b
  have hs := List.pairwise_mergeSort tr to ss
  have hp := List.mergeSort_perm ss leB
  have hn : (ss.mergeSort leB).Nodup := hp.nodup_iff.2 hnd
  refine ⟨?_, fun x => (hp.mem_iff).trans (hm x)⟩
  refine (hs.and hn).imp fun {a b} ⟨h1, h2⟩ => ?_
  simp only [leB, decide_eq_true_eq] at h1
  rcases Decidable.em (a < b) with h | h
  · exact h
  · exact absurd (List.le_antisymm h1 (List.not_lt.1 h)) h2

theorem und_str : Tryz.prog.underlying ty.string = some .string := by kernel_rfl
theorem und_u64 : Tryz.prog.underlying ty.uint64 = some (.int .u64) := by kernel_rfl
abbrev MapS (w : World) (b n : Nat) (g : List UInt8 → Option Int) : Prop := MapU Tryz.prog ty.string ty.uint64 .u64 w b n g
theorem sortedKeys_ok {w : World} {b n : Nat} {g : List UInt8 → Option Int} (h : MapS w b n g) (hn : n ≤ 4096) {ls : List (List UInt8)} (hg : ∀ x, (g x).isSome = true ↔ x ∈ ls) {k : Value → World → Prop}
    (hk : ∀ a c t w', IsRise ls t → Row w' ty.string 1 a t.length c (t.map encStr) → (∀ k, rowB a = some k → w.heap.size ≤ k) → Below w.heap.size w w' → k (.slice a t.length c) w') :
    Calls Tryz.prog f.maps_Keys_map_string_uint64_string_uint64 #[.map (some b)] w (fun e w1 => ∃ (fn : FuncId) (fi ca : Array Value), e = .returned (.func (.func fn) fi ca) ∧
      Calls Tryz.prog f.slices_Sorted_string #[.func (.func fn) fi ca] w1 (fun e w2 => ∃ (a : Option Addr) (l c : Nat), e = .returned (.slice a l c) ∧ k (.slice a l c) w2)) := by
  obtain ⟨D, hD, hsz, hnd, hmem⟩ := h.keys und_str
  refine (callsIn_wide.1 (Tryz.maps_Keys_65 (some b) w)).mono ?_
  rintro _ w1 ⟨rfl, rfl⟩
  refine ⟨_, _, _, rfl, (callsIn_wide.1 (Tryz.slices_Sorted_keys_64_65 b n D (plainElem Tryz.prog ty.uint64) w hD (Nat.le_trans (Nat.le_trans hsz hn) (by decide)) (by omega))).mono ?_⟩
  rintro _ w2 ⟨v, ss, rfl, hperm, hrow, _, hb⟩
  obtain ⟨a, c, rfl, hR, hnew⟩ := row_of_owns hrow
  have hr := rise_sort (ls := ls) (hperm.nodup_iff.2 hnd) (fun x => (hperm.mem_iff).trans ((hmem x).trans (hg x)))
  have hlen : (ss.mergeSort (fun x y => decide (x ≤ y))).length = ss.length := List.length_mergeSort _
  have sz : w.heap.size ≤ (w.alloc (.cells #[.map (some b)] ty.map_string_uint64)).heap.size := by simp
  refine ⟨_, _, _, rfl, ?_⟩
  have := hk a c _ w2 hr (by rw [hlen]; exact hR) (fun k hk => Nat.le_trans sz (hnew k hk)) (((Below.refl _ w).alloc (Nat.le_refl _) _).trans (hb.mono sz))
  rwa [hlen] at this
end Go.Proofs.YtbkffpcgppecgaaGreat

/-
  Texts' bytes, one behind the other; a list without long texts.
-/
namespace Go.Proofs.YtbkffpcgppecgaaGreat
open Go.Dn Go.Proofs
open Go.RowKit (Below)
set_option linter.unusedVariables false
set_option maxRecDepth 20000

def laidL (ls : List ByteArray) : List UInt8 := ls.flatMap textL
theorem laidL_take {ls : List ByteArray} {k : Nat} (hk : k < ls.length) : laidL (ls.take (k + 1)) = laidL (ls.take k) ++ textL ls[k] := by
  unfold laidL
  rw [List.take_succ_eq_append_getElem hk, List.flatMap_append]
  simp
theorem textL_len {s : ByteArray} (h : s.size ≤ 1024) : (textL s).length ≤ 1034 := by
  have := digitsL_len10 (n := s.size) (by omega)
  have := bl_length s
  simp [textL]
  omega
theorem laidL_len {ls : List ByteArray} (h : ∀ s ∈ ls, s.size ≤ 1024) : (laidL ls).length ≤ ls.length * 1034 := by
  induction ls with
  | nil => simp [laidL]
  | cons s ls ih =>
    have h1 := textL_len (h s (List.mem_cons_self ..))
    have h2 := ih fun x hx => h x (List.mem_cons_of_mem _ hx)
    simp only [laidL, List.flatMap_cons, List.length_append, List.length_cons] at *
    omega
theorem tP : slT Tryz.prog ty.L_L_uint8 = some (ty.L_uint8, 1, 24, .slice none 0 0) := by kernel_rfl
theorem str_at {w : World} {a : Option Addr} {ls : List ByteArray} (hl : Rd w a (ls.map Value.string)) {i : Nat} (hi : i < ls.length) : ∃ p, a = some p ∧ w.cell? (p.add (i * 1)) = some (.string ls[i]) := by
  obtain ⟨p, hp, hc⟩ := hl i (.string ls[i]) (by simp [hi])
  exact ⟨p, hp, by rw [Nat.mul_one]; exact hc⟩

theorem dict_laid_ok {w : World} {a : Option Addr} {c : Nat} {ls : List ByteArray} (hl : Rd w a (ls.map Value.string)) (hn : ls.length ≤ 4096) (hz : ∀ s ∈ ls, s.size ≤ 1024) :
    Calls Tryz.prog f.dict_laid #[.slice a ls.length c] w (Ret fun v w' => ∃ a' c', v = .slice a' (laidL ls).length c' ∧ NewB w w' (laidL ls) a' c') := by
  apply R.dict_laid_calls
  unfold R.dict_laid
  refine ⟨fun s w1 => ∃ (ps : List PartB) (pa : Option Addr) (pc : Nat), s = [.slice pa ps.length pc, .int .i64 (ps.length : Int)] ∧ ps.length ≤ ls.length ∧ Row w1 ty.L_uint8 1 pa ps.length pc (ps.map partV1) ∧ (∀ k, rowB pa = some k → w.heap.size ≤ k) ∧
      (∀ p ∈ ps, Rd w1 p.1 (p.2.2.map byteV) ∧ (∀ k, rowB pa = some k → rowB p.1 ≠ some k) ∧ ∀ k, rowB p.1 = some k → k < w1.heap.size) ∧ flatB ps = laidL (ls.take ps.length) ∧ Below w.heap.size w w1, fun s _ => match s with
      | [_, .int _ i] => ls.length - i.toNat
      | _ => 0, ⟨[], none, 0, rfl, by simp, Row.nil _ _ _, by simp [rowB], by simp, by simp [flatB, laidL], .refl _ _⟩, ?_⟩
  rintro pa _ pc _ w1 ⟨ps, _, _, hs, hle, hR, hnew, hps, hfl, B1⟩
  cases hs
  refine IFB_dec (fun hlt => ⟨⟨by omega, hlt⟩, ?_⟩) (fun hge => ?_)
  · have hkl : ps.length < ls.length := by omega
    obtain ⟨p, rfl, hc⟩ := str_at (hl.grown B1) hkl
    have hsz := hz _ (List.getElem_mem hkl)
    refine ⟨_, by rw [Int.toNat_natCast]; exact hc, (wire_Text_ok (c := 0) [] (Rd.nil _ _) ls[ps.length] (by omega) (by simp; omega)).mono ?_⟩
    rintro _ w3 ⟨_, rfl, a3, c3, rfl, h3⟩
    rw [List.nil_append] at h3 ⊢
    refine ⟨_, _, _, _, rfl, (SH.start (fun _ => False) w3).newB fun b12 w4 hb12 B4 S4 => ?_⟩
    have h4 := h3.grown B4
    have hsrc : Rd w4 (some ⟨b12, 0, none⟩) [partV1 (a3, c3, textL ls[ps.length])] := by
      have := Rd.of_block0 (S4.get 0 rfl)
      simpa [partV1] using this
    obtain ⟨a5, c5, w5, hrun, hrow, hk, hnw⟩ := append_row (ty := ty.L_L_uint8) (mc := 1) tP rfl (by omega) (by omega) (hR.grown (h4.bel)) hsrc (m := 1) rfl (by simp [partV1]; rfl) (by omega)
    unfold OPR
    rw [hrun]
    refine ⟨_, _, _, rfl, ?_⟩
    have e1 : (ps ++ [(a3, c3, textL ls[ps.length])]).length = ps.length + 1 := by simp
    have B4' : Below w.heap.size w w4 := B1.trans (h4.bel.mono B1.size)
    refine ⟨⟨ps ++ [(a3, c3, textL ls[ps.length])], a5, c5, ?_, by omega, ?_, fun k hk5 => ?_, fun q hq => ?_, ?_, B4'.trans (hk.below B4'.size fun k hlt hkk => ?_)⟩, ?_⟩
    · rw [wrap_succ (by omega), e1]
    · rw [e1, List.map_append]
      exact hrow
    · rcases hnw k hk5 with h | h
      · exact hnew k h
      · exact Nat.le_trans B4'.size h
    · have hpl : ∀ k, rowB pa = some k → k < w1.heap.size := fun k h => hR.lt h
      have hfar : ∀ k, rowB pa = some k → rowB q.1 ≠ some k := by
        intro k hk1 hk2
        rcases List.mem_append.1 hq with h | h
        · exact (hps q h).2.1 k hk1 hk2
        · simp only [List.mem_singleton] at h
          subst h
          have := h3.new k hk2
          have := hpl k hk1
          omega
      have hrd4 : Rd w4 q.1 (q.2.2.map byteV) := by
        rcases List.mem_append.1 hq with h | h
        · exact (hps q h).1.grown h4.bel
        · simp only [List.mem_singleton] at h
          subst h
          exact h4.rd
      have hql : ∀ k, rowB q.1 = some k → k < w4.heap.size := by
        intro k hk2
        rcases List.mem_append.1 hq with h' | h'
        · exact Nat.lt_of_lt_of_le ((hps q h').2.2 k hk2) h4.bel.size
        · simp only [List.mem_singleton] at h'
          subst h'
          exact h4.row.lt hk2
      refine ⟨?_, fun k hk5 hk2 => ?_, fun k hk2 => Nat.lt_of_lt_of_le (hql k hk2) hk.size⟩
      · exact hrd4.keeps hk (fun p hp hF => hfar p.block hF (by rw [hp]; rfl))
      · rcases hnw k hk5 with h | h
        · exact hfar k h hk2
        · have := hql k hk2
          omega
    · rw [e1, laidL_take hkl, ← hfl]
      simp [flatB]
    · have := hnew k hkk
      omega
    · simp only [Int.toNat_natCast]
      rw [wrap_succ (by omega)]
      omega
  · have hpl : ps.length = ls.length := by omega
    rw [hpl, List.take_length] at hfl
    have hlen := laidL_len hz
    refine (slices_Concat_ok ps hR.rd (fun p hp => (hps p hp).1) (by omega) (by rw [hfl]; omega)).mono ?_
    rintro _ w2 ⟨_, rfl, a2, c2, rfl, h2⟩
    rw [hfl] at h2 ⊢
    exact ⟨_, _, _, rfl, a2, c2, rfl, h2.before B1⟩
end Go.Proofs.YtbkffpcgppecgaaGreat

/-
  What bytes a list of texts is; a list without long texts.
-/
namespace Go.Proofs.YtbkffpcgppecgaaGreat
open Go.Dn Go.Proofs
open Go.RowKit (Below)
set_option linter.unusedVariables false
set_option maxRecDepth 20000

def longB (ls : List ByteArray) : Bool := ls.any fun s => decide (1024 < s.size)
theorem longB_false {ls : List ByteArray} (h : longB ls = false) : ∀ s ∈ ls, s.size ≤ 1024 := by
  intro s hs
  have := List.any_eq_false.1 h s hs
  simpa using this
theorem long_ok (w : World) (s : ByteArray) : Calls Tryz.prog f.dict_Encode_c1 #[.string s] w (Ret fun v w' => w' = w ∧ v = .bool (decide (1024 < s.size))) := by
  apply R.dict_Encode_c1_calls
  unfold R.dict_Encode_c1
  refine ⟨rfl, ?_⟩
  congr 1
  rw [Bool.eq_iff_iff]
  simp
  omega
theorem enters_long : enters Tryz.prog f.dict_Encode_c1 = true := by kernel_rfl
section
variable {w : World} {a : Option Addr} {c : Nat} {ls : List ByteArray}
theorem ContainsFunc_ok (hl : Rd w a (ls.map Value.string)) (hn : ls.length ≤ 9223372036854775807) :
    Calls Tryz.prog f.slices_ContainsFunc_string_string #[.slice a ls.length c, .func (.func f.dict_Encode_c1) #[] #[]] w (Ret fun v w' => w' = w ∧ v = .bool (longB ls)) := by
  have idx : Calls Tryz.prog f.slices_IndexFunc_string_string #[.slice a ls.length c, .func (.func f.dict_Encode_c1) #[] #[]] w (Ret fun v w' => w' = w ∧ ∃ i : Int, v = .int .i64 i ∧ (0 ≤ i ↔ longB ls = true)) := by
    apply R.slices_IndexFunc_string_string_calls
    unfold R.slices_IndexFunc_string_string
    refine ⟨fun s w1 => w1 = w ∧ ∃ k : Nat, k ≤ ls.length ∧ s = [.int .i64 (k : Int)] ∧ longB (ls.take k) = false, fun s _ => match s with
        | [.int _ i] => ls.length - i.toNat
        | _ => 0, ⟨rfl, 0, by omega, rfl, rfl⟩, ?_⟩
    rintro _ w1 ⟨rfl, k, hk, hs, hlo⟩
    cases hs
    refine IFB_dec (fun hlt => ⟨⟨by omega, hlt⟩, ?_⟩) (fun hge => ?_)
    · have hkl : k < ls.length := by omega
      obtain ⟨p, rfl, hc⟩ := str_at hl hkl
      refine ⟨_, by rw [Int.toNat_natCast]; exact hc, ?_⟩
      rw [enters_long]
      refine (long_ok w1 ls[k]).mono ?_
      rintro _ w2 ⟨_, rfl, rfl, rfl⟩
      refine ⟨_, rfl, IFB_dec (fun h => ⟨rfl, _, rfl, ?_⟩) (fun h => ?_)⟩
      · refine ⟨fun _ => ?_, fun _ => by omega⟩
        exact List.any_eq_true.2 ⟨ls[k], List.getElem_mem hkl, by simpa using h⟩
      · rw [wrap_succ (by omega)]
        refine ⟨⟨rfl, k + 1, by omega, rfl, ?_⟩, ?_⟩
        · unfold longB at hlo ⊢
          rw [List.take_succ_eq_append_getElem hkl, List.any_append, hlo]
          simp
          omega
        · simp only [Int.toNat_natCast]
          omega
    · have hkk : ls.take k = ls := List.take_of_length_le (by omega)
      rw [hkk] at hlo
      refine ⟨rfl, _, rfl, ?_⟩
      rw [hlo]
      simp
  apply R.slices_ContainsFunc_string_string_calls
  unfold R.slices_ContainsFunc_string_string
  refine idx.mono ?_
  rintro _ w1 ⟨_, rfl, rfl, i, rfl, hi⟩
  refine ⟨_, rfl, rfl, ?_⟩
  congr 1
  rw [Bool.eq_iff_iff, decide_eq_true_eq]
  exact hi
end

/-- the places of a list's texts among t -/
def placesL (t : List (List UInt8)) (ls : List ByteArray) : List Nat := ls.map fun s => t.idxOf (bl s)
/-- what bytes a list is in a form -/
inductive EncIs (ls : List ByteArray) : Int → List UInt8 → Prop
  | plain : EncIs ls 0 (0 :: laidL ls)
  | table (t : List (List UInt8)) (w : Nat) (ht : IsRise (ls.map bl) t) (hw : IsLen (orL (placesL t ls)) w) : EncIs ls 1 ((1 :: digitsL t.length) ++ (laidL (t.map sof) ++ (UInt8.ofNat w :: packL (placesL t ls) w)))
theorem EncIs.one {ls : List ByteArray} {f : Int} {b c : List UInt8} (h : EncIs ls f b) (h' : EncIs ls f c) : b = c := by
  cases h with
  | plain => cases h'; rfl
  | table t w ht hw =>
    cases h' with
    | table t' w' ht' hw' =>
      have := ht.one ht'
      subst this
      rw [hw.one hw']
/-- a list that may be laid in a form -/
def encOk (f : Int) (ls : List ByteArray) : Prop := 0 ≤ f ∧ f ≤ 1 ∧ ls.length ≤ 4096 ∧ longB ls = false
instance (f : Int) (ls : List ByteArray) : Decidable (encOk f ls) := by unfold encOk; infer_instance
/-- what Encode hands back -/
def EncV (f : Int) (ls : List ByteArray) (w w' : World) (r : Value) : Prop :=
  (¬ encOk f ls ∧ r = .tuple #[.slice none 0 0, .int .i64 2] ∧ Below w.heap.size w w') ∨ (encOk f ls ∧ ∃ b a c, EncIs ls f b ∧ r = .tuple #[.slice a b.length c, .int .i64 0] ∧ NewB w w' b a c)
end Go.Proofs.YtbkffpcgppecgaaGreat

/-
  Encode, by the program.
-/
namespace Go.Proofs.YtbkffpcgppecgaaGreat
open Go.Dn Go.Proofs
open Go.RowKit (Below)
set_option linter.unusedVariables false
set_option maxRecDepth 20000

theorem nodup_len {α : Type} [DecidableEq α] : ∀ {t l : List α}, t.Nodup → (∀ x ∈ t, x ∈ l) → t.length ≤ l.length
  | [], _, _, _ => by simp
  | x :: t, l, hn, hs => by
    have hx := hs x (List.mem_cons_self ..)
    obtain ⟨h1, h2⟩ := List.nodup_cons.1 hn
    have := nodup_len (t := t) (l := l.erase x) h2 fun y hy => (List.mem_erase_of_ne (a := y) (b := x) (by rintro rfl; exact h1 hy)).2 (hs y (List.mem_cons_of_mem _ hy))
    rw [List.length_erase_of_mem hx] at this
    have : 0 < l.length := List.length_pos_of_mem hx
    simp only [List.length_cons]
    omega
theorem make_map {w : World} {f : Value → World → Prop} (hf : ∀ b w', w.heap.size ≤ b → Below w.heap.size w w' → MapS w' b 0 (fun _ => none) → f (.map (some b)) w') : OPR Tryz.prog (Instr.makeMap ty.map_string_uint64 none) f w := by
  unfold OPR
  rw [show (Instr.makeMap ty.map_string_uint64 none).run Tryz.prog w = .ok (.map (some w.heap.size)) (w.alloc (.map #[] 0)) from rfl]
  refine hf _ _ (Nat.le_refl _) ((Below.refl _ w).alloc (Nat.le_refl _) _) ⟨_, World.ownsMap_made _ _ _ _, Maps.tidy_empty, fun x => ⟨rfl, rfl⟩⟩
theorem und_map : Tryz.prog.underlying ty.map_string_uint64 = some (.map ty.string ty.uint64) := by kernel_rfl
theorem tU : slT Tryz.prog ty.L_uint64 = some (ty.uint64, 1, 8, .int .u64 0) := by kernel_rfl
theorem zero_u64 (w : World) : (zeroValue ty.uint64).run Tryz.prog w = .ok (.int .u64 0) w := by
  have h : (Tryz.prog.info? ty.uint64).bind (·.zero) = some (.int .u64 0) := by kernel_rfl
  cases hi : Tryz.prog.info? ty.uint64 with
  | none => rw [hi] at h; cases h
  | some i =>
    rw [hi] at h
    have hz : i.zero = some (.int .u64 0) := h
    simp [zeroValue, typeInfo, hi, hz]
theorem encStr_sof (x : List UInt8) : encStr x = .string (sof x) := rfl
theorem map_enc (t : List (List UInt8)) : t.map encStr = (t.map sof).map Value.string := by simp [encStr_sof]

section
variable {w : World} {a : Option Addr} {c : Nat} {ls : List ByteArray}
def g1 (l : List (List UInt8)) (x : List UInt8) : Option Int := if x ∈ l then some 0 else none
def g2 (l t : List (List UInt8)) (i : Nat) (x : List UInt8) : Option Int := if x ∈ t.take i then some (t.idxOf x : Int) else g1 l x

theorem g1_step {l : List ByteArray} {k : Nat} (hk : k < l.length) : (fun y => if y = bl l[k] then some 0 else g1 ((l.take k).map bl) y) = g1 ((l.take (k + 1)).map bl) := by
  funext y
  unfold g1
  rw [List.take_succ_eq_append_getElem hk, List.map_append]
  simp only [List.mem_append, List.map_cons, List.map_nil, List.mem_singleton]
  by_cases h1 : y = bl l[k]
  · simp [h1]
  · simp [h1]
theorem g2_step {l t : List (List UInt8)} (hnd : t.Nodup) {i : Nat} (hi : i < t.length) : (fun y => if y = t[i] then some (i : Int) else g2 l t i y) = g2 l t (i + 1) := by
  funext y
  unfold g2
  rw [List.take_succ_eq_append_getElem hi]
  simp only [List.mem_append, List.mem_singleton]
  by_cases h1 : y = t[i]
  · subst h1
    have : t.idxOf t[i] = i := hnd.idxOf_getElem i hi
    simp [this]
  · simp [h1]
theorem dict_Encode_ok (form : Int) (hl : Rd w a (ls.map Value.string)) (hn : ls.length ≤ 9223372036854775807) : Calls Tryz.prog f.dict_Encode #[.int .i64 form, .slice a ls.length c] w (Ret fun v w' => EncV form ls w w' v) := by
  apply R.dict_Encode_calls
  unfold R.dict_Encode
  have bad : ¬ encOk form ls → EncV form ls w w (.tuple #[.slice none 0 0, .int .i64 2]) := fun h => .inl ⟨h, rfl, .refl _ _⟩
  refine IFB_dec (fun h => bad fun hk => by have := hk.1; omega) (fun h1 => IFB_dec (fun h => bad fun hk => by have := hk.2.1; omega) (fun h2 => IFB_dec (fun h => bad fun hk => by have := hk.2.2.1; omega) (fun h3 => (ContainsFunc_ok hl hn).mono ?_)))
  rintro _ w ⟨_, rfl, rfl, rfl⟩
  refine ⟨_, rfl, IFB_of (fun h => bad fun hk => by have := hk.2.2.2; rw [h] at this; cases this) (fun hlong => ?_)⟩
  have hok : encOk form ls := ⟨by omega, by omega, by omega, hlong⟩
  have hz := longB_false hlong
  have hn4 : ls.length ≤ 4096 := by omega
  have hlen := laidL_len hz
  refine IFB_eq (fun h0 => ?_) (fun h0 => ?_)
  · subst h0
    refine (SH.start (fun _ => False) w).newB fun b5 w2 hb5 B2 S2 => (dict_laid_ok (hl.grown B2) hn4 hz).mono ?_
    rintro _ w3 ⟨_, rfl, a3, c3, rfl, h3⟩
    have S3 := S2.grown h3.bel
    refine ⟨_, _, _, rfl, S3.newB fun b8 w4 hb8 B4 S4 => ?_⟩
    have hp : Rd w4 (some ⟨b8, 0, none⟩) ([(some ⟨b5, 0, none⟩, 1, [0]), (a3, c3, laidL ls)].map partV1) := by
      have := Rd.of_block0 (S4.get 0 rfl)
      simpa [partV1] using this
    have hb5' : Rd w4 (some ⟨b5, 0, none⟩) ([0].map byteV) := by
      have := Rd.of_block0 (S4.get 1 rfl)
      simpa [byteV] using this
    refine (slices_Concat_ok (c := 2) [(some ⟨b5, 0, none⟩, 1, [0]), (a3, c3, laidL ls)] hp (fun p hp => ?_) (by simp) (by rw [flat2]; simp; omega)).mono ?_
    · simp only [List.mem_cons, List.not_mem_nil, or_false] at hp
      rcases hp with rfl | rfl
      · exact hb5'
      · exact (h3.grown B4).rd
    rintro _ w5 ⟨_, rfl, a5, c5, rfl, h5⟩
    refine ⟨_, _, _, rfl, .inr ⟨hok, 0 :: laidL ls, a5, c5, .plain, ?_, ?_⟩⟩
    · rw [flat2]; rfl
    · rw [flat2] at h5
      exact h5.before S4.below
  · have hf1 : form = 1 := by omega
    subst hf1
    have m4 : 8193 ≤ maxLen := by decide
    refine make_map fun b w6 hb B6 M6 => ⟨_, rfl, ?_⟩
    have M6' : MapS w6 b 0 (g1 ((ls.take 0).map bl)) := by
      have : g1 ((ls.take 0).map bl) = fun _ => none := by funext x; simp [g1]
      rw [this]; exact M6
    refine ⟨fun s w7 => ∃ k : Nat, k ≤ ls.length ∧ s = [.int .i64 (k : Int)] ∧ MapS w7 b k (g1 ((ls.take k).map bl)) ∧ Keeps (· = b) w6 w7, fun s _ => match s with
        | [.int _ i] => ls.length - i.toNat
        | _ => 0, ⟨0, by omega, rfl, M6', .refl _ _⟩, ?_⟩
    rintro _ w7 ⟨k, hk, hs, M7, K7⟩
    cases hs
    have B7 : Below w.heap.size w w7 := B6.trans (K7.below B6.size fun k hk he => by omega)
    refine IFB_dec (fun hlt => ⟨⟨by omega, hlt⟩, ?_⟩) (fun hge => ?_)
    · have hkl : k < ls.length := by omega
      obtain ⟨p, rfl, hc⟩ := str_at (hl.grown B7) hkl
      have hsz := hz _ (List.getElem_mem hkl)
      refine ⟨_, by rw [Int.toNat_natCast]; exact hc, M7.put und_str und_u64 und_map (by omega) (by omega) (by decide) fun w8 K8 M8 => ?_⟩
      rw [g1_step hkl] at M8
      rw [wrap_succ (by omega)]
      refine ⟨⟨k + 1, by omega, rfl, M8, K7.trans K8 (fun _ _ h => h)⟩, ?_⟩
      simp only [Int.toNat_natCast]
      omega
    have hkk : k = ls.length := by omega
    rw [hkk, List.take_length] at M7
    refine (sortedKeys_ok M7 hn4 (ls := ls.map bl) (fun x => by unfold g1; split <;> simp [*]) (k := fun v w' => ∃ a c t, v = .slice a t.length c ∧ IsRise (ls.map bl) t ∧ Row w' ty.string 1 a t.length c (t.map encStr) ∧ (∀ k, rowB a = some k → w7.heap.size ≤ k) ∧ Below w7.heap.size w7 w')
      (fun a c t w' q1 q2 q3 q4 => ⟨a, c, t, rfl, q1, q2, q3, q4⟩)).mono ?_
    rintro _ w9 ⟨fn, fi, ca, rfl, hS⟩
    refine ⟨_, _, _, rfl, hS.mono ?_⟩
    rintro _ w10 ⟨aT, lT, cT, rfl, aT2, cT2, t, ht, hr, hRow, hnew, B10⟩
    obtain ⟨rfl, rfl, rfl⟩ : aT = aT2 ∧ lT = t.length ∧ cT = cT2 := by cases ht; exact ⟨rfl, rfl, rfl⟩
    refine ⟨_, _, _, rfl, ?_⟩
    have hbl := M7.lt
    have M10 := M7.kept (Keeps.of_below (F := fun _ => False) B10) (by simp)
    have hnd := lt_nodup hr.up
    have htl : t.length ≤ ls.length := by
      have := nodup_len hnd (fun x hx => (hr.mem x).1 hx)
      simpa using this
    have htz : ∀ s ∈ t.map sof, s.size ≤ 1024 := by
      intro s hs
      obtain ⟨x, hx, rfl⟩ := List.mem_map.1 hs
      obtain ⟨s', hs', rfl⟩ := List.mem_map.1 ((hr.mem x).1 hx)
      rw [sof_bl]
      exact hz s' hs'
    rw [map_enc] at hRow
    have hlT : (t.map sof).length = t.length := by simp
    have M10' : MapS w10 b (ls.length + 0) (g2 (ls.map bl) t 0) := by
      have : g2 (ls.map bl) t 0 = g1 (ls.map bl) := by funext x; simp [g2]
      rw [this]; exact M10
    have far : ∀ p, aT = some p → ¬ p.block = b := by
      intro p hp he
      have := hnew p.block (by rw [hp]; rfl)
      omega
    refine ⟨fun s w11 => ∃ i : Nat, i ≤ t.length ∧ s = [.int .i64 (i : Int)] ∧ MapS w11 b (ls.length + i) (g2 (ls.map bl) t i) ∧ Keeps (· = b) w10 w11, fun s _ => match s with
        | [.int _ i] => t.length - i.toNat
        | _ => 0, ⟨0, by omega, rfl, M10', .refl _ _⟩, ?_⟩
    rintro _ w11 ⟨i, hi, hs, M11, K11⟩
    cases hs
    have hRd11 : Rd w11 aT ((t.map sof).map Value.string) := hRow.rd.keeps K11 far
    refine IFB_dec (fun hlt => ⟨⟨by omega, hlt⟩, ?_⟩) (fun hge => ?_)
    · have hil : i < t.length := by omega
      obtain ⟨p, hp, hc⟩ := str_at hRd11 (by rw [hlT]; exact hil)
      subst hp
      have hsz : (sof t[i]).size ≤ 1024 := htz _ (List.mem_map.2 ⟨_, List.getElem_mem hil, rfl⟩)
      rw [List.getElem_map] at hc
      refine ⟨_, by rw [Int.toNat_natCast]; exact hc, ?_⟩
      rw [wrap_u64_id (by omega) (by omega)]
      refine M11.put und_str und_u64 und_map (by omega) (by omega) (by simp [Lit.wf, IntKind.min, IntKind.max, IntKind.signed, IntKind.bits]; omega) fun w12 K12 M12 => ?_
      rw [bl_sof, g2_step hnd hil] at M12
      rw [wrap_succ (by omega)]
      refine ⟨⟨i + 1, by omega, rfl, M12, K11.trans K12 (fun _ _ h => h)⟩, ?_⟩
      simp only [Int.toNat_natCast]
      omega
    have hii : i = t.length := by omega
    rw [hii] at M11
    have B11 : Below w.heap.size w w11 := by
      have B0 : Below w.heap.size w w10 := B7.trans (B10.mono B7.size)
      exact B0.trans (K11.below B0.size fun k hk he => by omega)
    refine ⟨fun s w13 => ∃ (kk : Nat) (pa : Option Addr) (pc : Nat), s = [.slice pa kk pc, .int .i64 (kk : Int)] ∧ kk ≤ ls.length ∧ Row w13 ty.uint64 1 pa kk pc ((placesL t (ls.take kk)).map u64V) ∧ (∀ k, rowB pa = some k → w11.heap.size ≤ k) ∧ Below w11.heap.size w11 w13, fun s _ => match s with
        | [_, .int _ i] => ls.length - i.toNat
        | _ => 0, ⟨0, none, 0, rfl, by omega, Row.nil _ _ _, by simp [rowB], .refl _ _⟩, ?_⟩
    rintro pa kk pc _ w13 ⟨_, _, _, hs, hkl, hR13, hnw13, B13⟩
    cases hs
    have Bw13 : Below w.heap.size w w13 := B11.trans (B13.mono B11.size)
    have M13 := M11.kept (Keeps.of_below (F := fun _ => False) B13) (by simp)
    refine IFB_dec (fun hlt => ⟨⟨by omega, hlt⟩, ?_⟩) (fun hge => ?_)
    · have hkl' : kk < ls.length := by omega
      obtain ⟨p, hp, hc⟩ := str_at (hl.grown Bw13) hkl'
      subst hp
      have hsz := hz _ (List.getElem_mem hkl')
      have hin : bl ls[kk] ∈ t := (hr.mem _).2 (List.mem_map.2 ⟨_, List.getElem_mem hkl', rfl⟩)
      have hgv : (g2 (ls.map bl) t t.length (bl ls[kk])).getD 0 = (t.idxOf (bl ls[kk]) : Int) := by
        unfold g2
        rw [List.take_length, if_pos hin]
        rfl
      refine ⟨_, by rw [Int.toNat_natCast]; exact hc, M13.get und_str und_u64 und_map (zero_u64 _) (by omega) ?_⟩
      rw [hgv]
      refine ⟨_, rfl, (SH.start (fun _ => False) w13).newB fun b32 w15 hb32 B15 S15 => ?_⟩
      have hsrc : Rd w15 (some ⟨b32, 0, none⟩) [u64V (t.idxOf (bl ls[kk]))] := by
        have := Rd.of_block0 (S15.get 0 rfl)
        simpa [u64V] using this
      obtain ⟨a5, c5, w16, hrun, hrow, hk5, hnw⟩ := append_row (ty := ty.L_uint64) (mc := 1) tU rfl (by omega) (by omega) (hR13.grown B15) hsrc (m := 1) rfl (by simp [u64V]; rfl) (by omega)
      unfold OPR
      rw [hrun]
      refine ⟨_, _, _, rfl, ?_⟩
      have B15' : Below w11.heap.size w11 w15 := B13.trans (B15.mono B13.size)
      rw [wrap_succ (by omega)]
      refine ⟨⟨kk + 1, a5, c5, rfl, by omega, ?_, fun k hk => ?_, B15'.trans (hk5.below B15'.size fun k hk he => by have := hnw13 k he; omega)⟩, ?_⟩
      · have : placesL t (ls.take (kk + 1)) = placesL t (ls.take kk) ++ [t.idxOf (bl ls[kk])] := by
          unfold placesL
          rw [List.take_succ_eq_append_getElem hkl', List.map_append]
          rfl
        rw [this, List.map_append]
        exact hrow
      · rcases hnw k hk with h | h
        · exact hnw13 k h
        · exact Nat.le_trans B15'.size h
      · simp only [Int.toNat_natCast]
        omega
    have hke : kk = ls.length := by omega
    subst hke
    rw [List.take_length] at hR13
    have hpl : (placesL t ls).length = ls.length := by simp [placesL]
    have hpx : ∀ x ∈ placesL t ls, x < 4097 := by
      intro x hx
      obtain ⟨s, hs, rfl⟩ := List.mem_map.1 hx
      have := List.idxOf_le_length (l := t) (a := bl s)
      omega
    have hRp := hR13.rd
    rw [← hpl]
    refine (pack_Width_ok hRp (by omega) (fun x hx => by have := hpx x hx; omega)).mono ?_
    rintro _ w17 ⟨_, rfl, wd, rfl, hwd, hwd64, rfl⟩
    refine ⟨_, rfl, (pack_Pack_ok hRp (by omega) hwd64 ((orL_lt _ _).1 hwd.1)).mono ?_⟩
    rintro _ w18 ⟨_, rfl, a18, c18, rfl, h18⟩
    refine ⟨_, _, _, _, rfl, (SH.start (fun _ => False) w18).newB fun b40 w19 hb40 B19 S19 => ?_⟩
    have hb40' : Rd w19 (some ⟨b40, 0, none⟩) ([1].map byteV) := by
      have := Rd.of_block0 (S19.get 0 rfl)
      simpa [byteV] using this
    rw [wrap_u64_id (by omega) (by omega)]
    refine (wire_Number_ok (c := 1) [1] hb40' t.length (by omega) (by simp)).mono ?_
    rintro _ w20 ⟨_, rfl, a20, c20, rfl, h20⟩
    have T20 : Below w11.heap.size w11 w20 := by
      refine B13.trans ((h18.bel.mono B13.size).trans ?_)
      exact (B19.mono (Nat.le_trans B13.size h18.bel.size)).trans (h20.bel.mono (Nat.le_trans B13.size (Nat.le_trans h18.bel.size B19.size)))
    have hRT20 := hRd11.grown T20
    refine ⟨_, _, _, rfl, ?_⟩
    rw [← hlT]
    refine (dict_laid_ok (c := cT) hRT20 (by omega) htz).mono ?_
    rintro _ w21 ⟨_, rfl, a21, c21, rfl, h21⟩
    refine ⟨_, _, _, rfl, (SH.start (fun _ => False) w21).newB fun b45 w22 hb45 B22 S22 => S22.newB fun b46 w23 hb46 B23 S23 => ?_⟩
    rw [wrap_u8_id (by omega) (by omega)] at S22 S23
    obtain ⟨ps, hps⟩ : ∃ ps : List PartB, ps = [(a20, c20, [1] ++ digitsL t.length), (a21, c21, laidL (t.map sof)), (some ⟨b45, 0, none⟩, 1, [UInt8.ofNat wd]), (a18, c18, packL (placesL t ls) wd)] := ⟨_, rfl⟩
    have hp : Rd w23 (some ⟨b46, 0, none⟩) (ps.map partV1) := by
      have := Rd.of_block0 (S23.get 0 rfl)
      rw [hps]
      simpa [partV1] using this
    have n23 := below_trans B22 B23
    have hpb : ∀ p ∈ ps, Rd w23 p.1 (p.2.2.map byteV) := by
      intro p hp
      rw [hps] at hp
      simp only [List.mem_cons, List.not_mem_nil, or_false] at hp
      rcases hp with rfl | rfl | rfl | rfl
      · exact (h20.rd.grown h21.bel).grown n23
      · exact h21.rd.grown n23
      · have := Rd.of_block0 (S23.get 1 rfl)
        simpa [byteV_of (show wd < 256 by omega)] using this
      · exact ((((h18.rd.grown B19).grown h20.bel).grown h21.bel).grown n23)
    have hfl : flatB ps = (1 :: digitsL t.length) ++ (laidL (t.map sof) ++ (UInt8.ofNat wd :: packL (placesL t ls) wd)) := by
      rw [hps]
      simp [flatB]
    have l1 := digitsL_len10 (n := t.length) (by omega)
    have l2 := laidL_len htz
    have l3 := packL_len (placesL t ls) wd
    have l4 : sizeN (placesL t ls).length wd ≤ 4096 * 64 + 7 := by
      unfold sizeN
      have : (placesL t ls).length * wd ≤ 4096 * 64 := Nat.mul_le_mul (by omega) hwd64
      omega
    have hps4 : ps.length = 4 := by rw [hps]; rfl
    have hcc := slices_Concat_ok (c := 4) ps hp hpb (by omega) (by rw [hfl]; simp only [List.length_append, List.length_cons]; omega)
    rw [hps4] at hcc
    refine hcc.mono ?_
    rintro _ w24 ⟨_, rfl, a24, c24, rfl, h24⟩
    rw [hfl] at h24 ⊢
    refine ⟨_, _, _, rfl, .inr ⟨hok, _, a24, c24, .table t wd hr hwd, rfl, h24.before ?_⟩⟩
    exact (B11.trans (T20.mono B11.size)).trans (((h21.bel).mono (Nat.le_trans B11.size T20.size)).trans (n23.mono (Nat.le_trans (Nat.le_trans B11.size T20.size) h21.bel.size)))
end
end Go.Proofs.YtbkffpcgppecgaaGreat

/-
  Lists of numbers in few bytes: the document's way.
-/
namespace Go.Proofs.YtbkffpcgppecgaaGreat
open Go.Dn Go.Proofs
open Go.RowKit (Below)
set_option linter.unusedVariables false
set_option maxRecDepth 20000

/-- a new row of numbers -/
structure NewU (w w' : World) (xs : List Nat) (a : Option Addr) (c : Nat) : Prop where
  row : Row w' ty.uint64 1 a xs.length c (xs.map u64V)
  new : ∀ k, rowB a = some k → w.heap.size ≤ k
  bel : Below w.heap.size w w'
theorem NewU.nil (w : World) : NewU w w [] none 0 := ⟨Row.nil _ _ _, by simp [rowB], .refl _ _⟩
theorem NewU.grown {w w1 w2 : World} {xs : List Nat} {a : Option Addr} {c : Nat} (h : NewU w w1 xs a c) (hb : Below w1.heap.size w1 w2) : NewU w w2 xs a c := ⟨h.row.grown hb, h.new, below_trans h.bel hb⟩
theorem append_u64 {w w1 : World} {a : Option Addr} {c : Nat} {xs : List Nat} (h : NewU w w1 xs a c) (hl : xs.length + 1 ≤ 1000000) {x : Nat} {v : Value} (hv : v = u64V x) {b : Nat} {t : TypeId} (hb : w1.heap[b]? = some (.cells #[v] t (0, 0))) {f : Value → World → Prop}
    (hf : ∀ a' c' w', NewU w w' (xs ++ [x]) a' c' → f (.slice a' (xs ++ [x]).length c') w') : OPR Tryz.prog (Builtin.append_ #[ty.L_uint64, ty.L_uint64] ty.L_uint64 #[.slice a xs.length c, .slice (some ⟨b, 0, none⟩) 1 1]) f w1 := by
  subst hv
  have hsrc : Rd w1 (some ⟨b, 0, none⟩) ([x].map u64V) := by
    have := Rd.of_block0 hb
    simpa using this
  obtain ⟨a5, c5, w2, hrun, hrow, hk5, hnw⟩ := append_row (ty := ty.L_uint64) (mc := 1) tU rfl (by omega) (by omega) h.row hsrc (m := 1) rfl (by simp [u64V]; rfl) (by omega)
  unfold OPR
  rw [hrun]
  have e : xs.length + 1 = (xs ++ [x]).length := by simp
  rw [e] at hrow ⊢
  refine hf a5 c5 w2 ⟨by rw [List.map_append]; exact hrow, fun k hk => ?_, h.bel.trans (hk5.below h.bel.size fun k hk he => by have := h.new k he; omega)⟩
  rcases hnw k hk with h1 | h1
  · exact h.new k h1
  · exact Nat.le_trans h.bel.size h1
theorem int_at {w : World} {a : Option Addr} {l : List Int} (hl : Rd w a (l.map i64V)) {i : Nat} (hi : i < l.length) : ∃ p, a = some p ∧ w.cell? (p.add (i * 1)) = some (.int .i64 l[i]) := by
  obtain ⟨p, hp, hc⟩ := hl i (i64V l[i]) (by simp [hi])
  exact ⟨p, hp, by rw [Nat.mul_one]; exact hc⟩
theorem int_head {w : World} {a : Option Addr} {l : List Int} (hl : Rd w a (l.map i64V)) (h0 : 0 < l.length) : ∃ p, a = some p ∧ w.cell? p = some (.int .i64 (l.headD 0)) := by
  obtain ⟨p, hp, hc⟩ := int_at hl h0
  rw [Nat.zero_mul, addr_add_zero] at hc
  refine ⟨p, hp, ?_⟩
  rw [hc]
  cases l with
  | nil => simp at h0
  | cons y l => rfl
theorem getD_int {l : List Int} {i : Nat} (h : i < l.length) : l.getD i 0 = l[i] := by simp [h]
theorem ref_packed_ok {w0 w : World} {a a2 : Option Addr} {c c2 : Nat} {l : List UInt8} {s : List Nat} (h : NewB w0 w l a c) (hl : l.length ≤ 1000000) (hs : Rd w a2 (s.map u64V)) (hn : s.length ≤ 4096) (hx : ∀ x ∈ s, x < 18446744073709551616) :
    Calls Tryz.prog f.ref06_packed #[.slice a l.length c, .slice a2 s.length c2] w (Ret fun v w' => ∃ a' c', v = .slice a' (l ++ (UInt8.ofNat (lenN (orL s)) :: packL s (lenN (orL s)))).length c' ∧ NewB w0 w' (l ++ (UInt8.ofNat (lenN (orL s)) :: packL s (lenN (orL s)))) a' c') := by
  apply R.ref06_packed_calls
  unfold R.ref06_packed
  refine (ref_Width_ok hs (by omega) hx).mono ?_
  rintro _ w ⟨_, rfl, wd, rfl, hwd, hwd64, rfl⟩
  obtain rfl := hwd.one (lenN_is _)
  refine ⟨_, rfl, (ref_Pack_ok hs hn hwd64 ((orL_lt _ _).1 hwd.1)).mono ?_⟩
  rintro _ w14 ⟨_, rfl, a14, c14, rfl, h14⟩
  obtain ⟨wd, hwdd⟩ : ∃ wd, wd = lenN (orL s) := ⟨_, rfl⟩
  rw [← hwdd] at h14 hwd hwd64 ⊢
  have l3 := packL_len s wd
  have l4 : sizeN s.length wd ≤ 4096 * 64 + 7 := by
    unfold sizeN
    have : s.length * wd ≤ 4096 * 64 := Nat.mul_le_mul (by omega) hwd64
    omega
  refine ⟨_, _, _, _, rfl, (SH.start (fun _ => False) w14).newB fun b39 w15 hb39 B15 S15 => ?_⟩
  rw [wrap_u8_id (by omega) (by omega)] at S15
  have B6 : Below w.heap.size w w15 := below_trans h14.bel B15
  have h15 := h.grown B6
  refine append_byte h15.row (by omega) (x := UInt8.ofNat wd) (byteV_of (by omega)) (S15.get 0 rfl) fun a16 c16 w16 R16 K16 N16 => ⟨_, _, _, rfl, ?_⟩
  have h16 := h.appended B6 R16 K16 N16
  have hr16 : Rd w16 a14 ((packL s wd).map byteV) := (h14.rd.grown B15).keeps K16 fun p hp hF => by
    have e1 := h14.new p.block (by rw [hp]; rfl)
    have e2 := h.row.lt hF
    omega
  refine append_bytes h16.row hr16 (by simp; omega) fun a17 c17 w17 R17 K17 N17 => ⟨_, _, _, rfl, a17, c17, ?_, ?_⟩
  · simp
  · have h17 := h16.appended (.refl _ _) R17 K17 N17
    have el : (l ++ [UInt8.ofNat wd]) ++ packL s wd = l ++ (UInt8.ofNat wd :: packL s wd) := by simp
    rw [el] at h17
    exact h17
section
variable {w0 w : World} {ba a : Option Addr} {bc c : Nat} {bs : List UInt8} {l : List Int}
theorem ref_runs_ok (h : NewB w0 w bs ba bc) (hbs : bs.length ≤ 10) (hl : Rd w0 a (l.map i64V)) (hn : l.length ≤ 4096) (hx : ∀ x ∈ l, I64 x) :
    Calls Tryz.prog f.ref06_runs #[.slice ba bs.length bc, .slice a l.length c] w (Ret fun v w' => ∃ a' c', v = .slice a' (bs ++ runsL l).length c' ∧ NewB w0 w' (bs ++ runsL l) a' c') := by
  apply R.ref06_runs_calls
  unfold R.ref06_runs
  have hlen := runsL_len 4096 l hn (by omega) hx
  refine ⟨fun s w1 => ∃ (k i : Nat) (b : List UInt8) (a1 : Option Addr) (c1 : Nat), s = [.slice a1 b.length c1, .int .i64 (k : Int), .int .i64 (i : Int)] ∧ NewB w0 w1 b a1 c1 ∧ bs ++ runsL l = b ++ runsL (l.drop k) ∧ (i ≤ l.length → k < i) ∧ (i ≤ l.length ∨ (i = l.length + 1 ∧ l.length ≤ k)) ∧ (∀ j, k + j < i → i ≤ l.length → l[k + j]? = l[k]?) ∧ 0 < i, fun s _ => match s with
      | [_, _, .int _ i] => l.length + 1 - i.toNat
      | _ => 0, ⟨0, 1, bs, ba, bc, rfl, h, by simp, by omega, by omega, fun j hj _ => by simp at hj; subst hj; rfl, by omega⟩, ?_⟩
  rintro a1 _ c1 _ _ w1 ⟨k, i, b, _, _, hst, h1, hE, hki, hcase, hall, hi0⟩
  cases hst
  have hbl : b.length ≤ 10 + 4096 * 20 := by
    have := congrArg List.length hE
    simp only [List.length_append] at this
    omega
  refine IFB_dec (fun hle => ?_) (fun hgt => ?_)
  · have hil : i ≤ l.length := by omega
    have hk := hki hil
    refine ⟨fun s w3 => ∃ t : Bool, s = [.bool t] ∧ Below w1.heap.size w1 w3 ∧ (t = true ↔ IsRun l k (i - k)) ∧ (t = false → i < l.length ∧ l[i]? = l[k]?), ?_, ?_⟩
    · refine (SH.start (fun _ => False) w1).drawB fun w2 B2 _ => ?_
      have hbase : ∀ j, j < i - k → l[k + j]? = l[k]? := fun j hj => hall j (by omega) hil
      refine IFB_eq (fun he => ?_) (fun hne => ?_)
      · refine ⟨true, rfl, B2, ⟨fun _ => ⟨by omega, by omega, hbase, .inl (by omega)⟩, fun _ => rfl⟩, fun h => by cases h⟩
      · have hlt : i < l.length := by omega
        have hkl : k < l.length := by omega
        have C2 := below_trans h1.bel B2
        obtain ⟨p, rfl, hc1⟩ := int_at (hl.grown C2) hlt
        obtain ⟨p', hp', hc2⟩ := int_at (hl.grown C2) hkl
        cases hp'
        refine ⟨⟨by omega, by omega⟩, ⟨by omega, by omega⟩, _, by rw [Int.toNat_natCast]; exact hc1, _, by rw [Int.toNat_natCast]; exact hc2, _, rfl, B2, ?_, ?_⟩
        · simp only [bne_iff_ne, ne_eq]
          constructor
          · intro hd
            refine ⟨by omega, by omega, hbase, .inr ?_⟩
            rw [show k + (i - k) = i by omega, List.getElem?_eq_getElem hlt, List.getElem?_eq_getElem hkl]
            simpa using hd
          · intro hr
            rcases hr.stop with h | h
            · omega
            · rw [show k + (i - k) = i by omega, List.getElem?_eq_getElem hlt, List.getElem?_eq_getElem hkl] at h
              simpa using h
        · intro hd
          refine ⟨hlt, ?_⟩
          rw [List.getElem?_eq_getElem hlt, List.getElem?_eq_getElem hkl]
          have : l[i] = l[k] := by simpa using hd
          rw [this]
    rintro _ w3 ⟨t, hst, B3, ht1, ht2⟩
    cases hst
    have C3 := below_trans h1.bel B3
    have hkl : k < l.length := by omega
    refine IFB_of (fun ht => ?_) (fun hf => ?_)
    · have hrun := ht1.1 ht
      refine (SH.start (fun _ => False) w3).drawB fun w4 B4 _ => ⟨⟨by omega, by omega⟩, ?_⟩
      have C4 := below_trans C3 B4
      obtain ⟨p, rfl, hcell⟩ := int_at (hl.grown C4) hkl
      refine ⟨_, by rw [Int.toNat_natCast]; exact hcell, ?_⟩
      have ek : IntKind.u64.wrap (IntKind.i64.wrap ((i : Int) - (k : Int))) = ((i - k : Nat) : Int) := by
        rw [wrap_i64 (by omega) (by omega), wrap_u64_id (by omega) (by omega)]
        omega
      rw [ek]
      have hxk := hx _ (List.getElem_mem hkl)
      have h4 := (h1.grown B3).grown B4
      refine (ref_Number_ok b h4.rd (i - k) (by omega) (by omega)).mono ?_
      rintro _ w5 ⟨_, rfl, a5, c5, rfl, h5⟩
      have C5 := below_trans C4 h5.bel
      have d10 := digitsL_len10 (n := i - k) (by omega)
      refine ⟨_, _, _, rfl, ?_, (ref_Signed_ok _ h5.rd l[k] hxk.1 hxk.2 (by simp; omega)).mono ?_⟩
      · obtain ⟨p', hp', hc'⟩ := int_at (hl.grown C5) hkl
        cases hp'
        rw [Int.toNat_natCast]; exact hc'
      rintro _ w6 ⟨_, rfl, a6, c6, rfl, h6⟩
      rw [wrap_succ (by omega)]
      refine ⟨_, _, _, rfl, ⟨i, i + 1, _, a6, c6, rfl, h6.before (below_trans h4.bel h5.bel), ?_, by omega, by omega, fun j hj _ => ?_, by omega⟩, ?_⟩
      · rw [hE, runs_cut hrun, show k + (i - k) = i by omega, getD_int hkl]
        simp [sigL]
      · have : j = 0 := by omega
        subst this
        rfl
      · simp only [Int.toNat_natCast]
        omega
    · obtain ⟨hlt, heq⟩ := ht2 hf
      rw [wrap_succ (by omega)]
      refine ⟨⟨k, i + 1, b, a1, c1, rfl, h1.grown B3, hE, by omega, by omega, fun j hj _ => ?_, by omega⟩, ?_⟩
      · rcases Nat.lt_or_ge (k + j) i with h | h
        · exact hall j h hil
        · have : k + j = i := by omega
          rw [this]; exact heq
      · simp only [Int.toNat_natCast]
        omega
  · have hk : l.length ≤ k := by omega
    have hd : l.drop k = [] := List.drop_of_length_le hk
    rw [hd, runsL_nil, List.append_nil] at hE
    rw [hE]
    exact ⟨a1, c1, rfl, h1⟩
theorem stepsN_take {l : List Int} {i : Nat} (hi : i + 1 < l.length) : (stepsN l).take (i + 1) = (stepsN l).take i ++ [zigN (IntKind.i64.wrap (l[i + 1] - l[i]))] := by
  have hl : i < (stepsN l).length := by simp [stepsN]; omega
  rw [List.take_succ_eq_append_getElem hl]
  congr 2
  simp only [stepsN, List.getElem_map, List.getElem_range]
  rw [getD_int hi, getD_int (by omega)]
theorem ref_steps_ok (h : NewB w0 w bs ba bc) (hbs : bs.length ≤ 10) (hl : Rd w0 a (l.map i64V)) (hn : l.length ≤ 4096) (hx : ∀ x ∈ l, I64 x) :
    Calls Tryz.prog f.ref06_steps #[.slice ba bs.length bc, .slice a l.length c] w (Ret fun v w' => ∃ a' c', v = .slice a' (bs ++ (if l = [] then [] else packedL (l.headD 0) (stepsN l))).length c' ∧ NewB w0 w' (bs ++ (if l = [] then [] else packedL (l.headD 0) (stepsN l))) a' c') := by
  apply R.ref06_steps_calls
  unfold R.ref06_steps
  refine IFB_eq (fun h0 => ?_) (fun hne => ?_)
  · have : l = [] := List.eq_nil_of_length_eq_zero (by omega)
    rw [if_pos this, List.append_nil]
    exact ⟨ba, bc, rfl, h⟩
  have hp : 0 < l.length := by omega
  have hne' : l ≠ [] := List.length_pos_iff.1 hp
  rw [if_neg hne']
  have hsl : (stepsN l).length = l.length - 1 := by simp [stepsN]
  refine ⟨fun s w1 => ∃ (i : Nat) (a1 : Option Addr) (c1 : Nat), s = [.slice a1 ((stepsN l).take i).length c1, .int .i64 ((i + 1 : Nat) : Int)] ∧ i + 1 ≤ l.length ∧ NewU w w1 ((stepsN l).take i) a1 c1, fun s _ => match s with
      | [_, .int _ i] => l.length - i.toNat
      | _ => 0, ⟨0, none, 0, rfl, by omega, NewU.nil w⟩, ?_⟩
  rintro a1 _ c1 _ w1 ⟨i, _, _, hst, hi, h1⟩
  cases hst
  have C1 := below_trans h.bel h1.bel
  refine IFB_dec (fun hlt => ?_) (fun hge => ?_)
  · have hi1 : i + 1 < l.length := by omega
    have hi0 : i < l.length := by omega
    refine (SH.start (fun _ => False) w1).drawB fun w4 B4 _ => ⟨⟨by omega, by omega⟩, ?_⟩
    have C4 := below_trans C1 B4
    rw [wrap_i64 (n := (((i + 1 : Nat) : Int)) - 1) (by omega) (by omega), show ((((i + 1 : Nat) : Int)) - 1) = (i : Int) by omega]
    obtain ⟨p, rfl, hc1⟩ := int_at (hl.grown C4) hi1
    obtain ⟨p', hp', hc2⟩ := int_at (hl.grown C4) hi0
    cases hp'
    refine ⟨⟨by omega, by omega⟩, _, by rw [Int.toNat_natCast]; exact hc1, _, by rw [Int.toNat_natCast]; exact hc2, ?_⟩
    have hw := wrap_I64 (l[i + 1] - l[i])
    refine (ref_Zig_ok _ hw.1 hw.2).mono ?_
    rintro _ w5 ⟨_, rfl, rfl, rfl⟩
    refine ⟨_, rfl, (SH.start (fun _ => False) w5).newB fun b6 w6 hb6 B6 S6 => ?_⟩
    refine append_u64 ((h1.grown B4).grown B6) (by rw [List.length_take]; omega) rfl (S6.get 0 rfl) fun a7 c7 w7 h7 => ⟨_, _, _, rfl, ?_⟩
    rw [← stepsN_take hi1] at h7 ⊢
    rw [wrap_succ (by omega)]
    refine ⟨⟨i + 1, a7, c7, rfl, by omega, h7⟩, ?_⟩
    simp only [Int.toNat_natCast]
    omega
  · have hie : (stepsN l).take i = stepsN l := List.take_of_length_le (by omega)
    rw [hie] at h1 ⊢
    obtain ⟨p, rfl, hcell⟩ := int_head (hl.grown C1) hp
    have hh : I64 (l.headD 0) := by
      have := minTo_I64 hx hp 0
      simpa [minTo] using this
    refine ⟨⟨by omega, by omega⟩, _, hcell, (ref_Signed_ok bs (h.grown h1.bel).rd (l.headD 0) hh.1 hh.2 (by omega)).mono ?_⟩
    rintro _ w2 ⟨_, rfl, a2, c2, rfl, h2⟩
    have hd := digitsL_len10 (zigN_lt hh.1 hh.2)
    refine ⟨_, _, _, rfl, (ref_packed_ok (h2.before C1) (by rw [List.length_append]; omega) (h1.row.rd.grown h2.bel) (by omega) stepsN_lt).mono ?_⟩
    rintro _ w3 ⟨_, rfl, a3, c3, rfl, h3⟩
    refine ⟨_, _, _, rfl, a3, c3, ?_, ?_⟩
    · simp [packedL, sigL]
    · have e : bs ++ digitsL (zigN (l.headD 0)) ++ (UInt8.ofNat (lenN (orL (stepsN l))) :: packL (stepsN l) (lenN (orL (stepsN l)))) = bs ++ packedL (l.headD 0) (stepsN l) := by simp [packedL, sigL]
      rw [e] at h3
      exact h3
theorem frameN_take {l : List Int} {i : Nat} (hi : i < l.length) : (frameN l).take (i + 1) = (frameN l).take i ++ [(l[i] - minL l).toNat] := by
  have hl : i < (frameN l).length := by simpa [frameN] using hi
  rw [List.take_succ_eq_append_getElem hl]
  congr 2
  simp [frameN]
theorem frame_word {x m : Int} (hx : I64 x) (hm : I64 m) (hle : m ≤ x) : IntKind.u64.wrap (IntKind.u64.wrap x - IntKind.u64.wrap m) = ((x - m).toNat : Int) := by
  unfold I64 at hx hm
  rw [wrap_u64, wrap_u64, wrap_u64, ← Int.sub_emod]
  omega
theorem minTo_one {l : List Int} (h0 : 0 < l.length) : minTo l 1 = l.headD 0 := by
  cases l with
  | nil => simp at h0
  | cons y l => simp [minTo]
theorem ref_frame_ok (h : NewB w0 w bs ba bc) (hbs : bs.length ≤ 10) (hl : Rd w0 a (l.map i64V)) (hn : l.length ≤ 4096) (hx : ∀ x ∈ l, I64 x) :
    Calls Tryz.prog f.ref06_frame #[.slice ba bs.length bc, .slice a l.length c] w (Ret fun v w' => ∃ a' c', v = .slice a' (bs ++ (if l = [] then [] else packedL (minL l) (frameN l))).length c' ∧ NewB w0 w' (bs ++ (if l = [] then [] else packedL (minL l) (frameN l))) a' c') := by
  apply R.ref06_frame_calls
  unfold R.ref06_frame
  refine IFB_eq (fun h0 => ?_) (fun hne => ?_)
  · have : l = [] := List.eq_nil_of_length_eq_zero (by omega)
    rw [if_pos this, List.append_nil]
    exact ⟨ba, bc, rfl, h⟩
  have hp : 0 < l.length := by omega
  have hne' : l ≠ [] := List.length_pos_iff.1 hp
  rw [if_neg hne']
  have hsl : (frameN l).length = l.length := by simp [frameN]
  obtain ⟨p, rfl, hcell⟩ := int_head (hl.grown h.bel) hp
  refine ⟨⟨by omega, by omega⟩, _, hcell, ?_⟩
  refine ⟨fun s w1 => w1 = w ∧ ∃ i : Nat, i ≤ l.length ∧ s = [.int .i64 (minTo l i), .int .i64 (i : Int)], fun s _ => match s with
      | [_, .int _ i] => l.length - i.toNat
      | _ => 0, ⟨rfl, 0, by omega, by simp [minTo]⟩, ?_⟩
  rintro _ _ w1 ⟨rfl, i, hi, hst⟩
  cases hst
  refine IFB_dec (fun hlt => ⟨⟨by omega, hlt⟩, ?_⟩) (fun hge => ?_)
  · have hil : i < l.length := by omega
    obtain ⟨p', hp', hc⟩ := int_at (hl.grown h.bel) hil
    cases hp'
    refine ⟨_, by rw [Int.toNat_natCast]; exact hc, ?_⟩
    rw [wrap_succ (by omega), ← minTo_succ hil]
    refine ⟨⟨rfl, i + 1, by omega, rfl⟩, ?_⟩
    simp only [Int.toNat_natCast]
    omega
  have hil : i = l.length := by omega
  subst hil
  have hmI := minTo_I64 hx hp l.length
  have hm : minTo l l.length = minL l := rfl
  rw [hm] at hmI ⊢
  refine ⟨fun s w2 => ∃ (i : Nat) (a1 : Option Addr) (c1 : Nat), s = [.slice a1 ((frameN l).take i).length c1, .int .i64 (i : Int)] ∧ i ≤ l.length ∧ NewU w1 w2 ((frameN l).take i) a1 c1, fun s _ => match s with
      | [_, .int _ i] => l.length - i.toNat
      | _ => 0, ⟨0, none, 0, rfl, by omega, NewU.nil w1⟩, ?_⟩
  rintro a1 _ c1 _ w2 ⟨i, _, _, hst, hi, h1⟩
  cases hst
  have C1 := below_trans h.bel h1.bel
  refine IFB_dec (fun hlt => ⟨⟨by omega, hlt⟩, ?_⟩) (fun hge => ?_)
  · have hi0 : i < l.length := by omega
    obtain ⟨p', hp', hc2⟩ := int_at (hl.grown C1) hi0
    cases hp'
    have hmem := List.getElem_mem hi0
    refine ⟨_, by rw [Int.toNat_natCast]; exact hc2, (SH.start (fun _ => False) w2).newB fun b6 w6 hb6 B6 S6 => ?_⟩
    rw [frame_word (hx _ hmem) hmI (minL_le hmem)] at S6
    refine append_u64 (h1.grown B6) (by rw [List.length_take]; omega) rfl (S6.get 0 rfl) fun a7 c7 w7 h7 => ⟨_, _, _, rfl, ?_⟩
    rw [← frameN_take hi0] at h7 ⊢
    rw [wrap_succ (by omega)]
    refine ⟨⟨i + 1, a7, c7, rfl, by omega, h7⟩, ?_⟩
    simp only [Int.toNat_natCast]
    omega
  · have hie : (frameN l).take i = frameN l := List.take_of_length_le (by omega)
    rw [hie] at h1 ⊢
    refine (ref_Signed_ok bs (h.grown h1.bel).rd (minL l) hmI.1 hmI.2 (by omega)).mono ?_
    rintro _ w3 ⟨_, rfl, a2, c2, rfl, h2⟩
    have hd := digitsL_len10 (zigN_lt hmI.1 hmI.2)
    refine ⟨_, _, _, rfl, (ref_packed_ok (h2.before C1) (by rw [List.length_append]; omega) (h1.row.rd.grown h2.bel) (by omega) (frameN_lt hx)).mono ?_⟩
    rintro _ w4 ⟨_, rfl, a3, c3, rfl, h3⟩
    refine ⟨_, _, _, rfl, a3, c3, ?_, ?_⟩
    · simp [packedL, sigL]
    · have e : bs ++ digitsL (zigN (minL l)) ++ (UInt8.ofNat (lenN (orL (frameN l))) :: packL (frameN l) (lenN (orL (frameN l)))) = bs ++ packedL (minL l) (frameN l) := by simp [packedL, sigL]
      rw [e] at h3
      exact h3
end
def intsOk (f : Int) (l : List Int) : Prop := 0 ≤ f ∧ f ≤ 3 ∧ l.length ≤ 4096
instance (f : Int) (l : List Int) : Decidable (intsOk f l) := by unfold intsOk; infer_instance
/-- what Encode hands back -/
def IntsV (f : Int) (l : List Int) (w w' : World) (r : Value) : Prop :=
  (¬ intsOk f l ∧ r = .tuple #[.slice none 0 0, .int .i64 2] ∧ Below w.heap.size w w') ∨ (intsOk f l ∧ ∃ a c, r = .tuple #[.slice a (intsL f.toNat l).length c, .int .i64 0] ∧ NewB w w' (intsL f.toNat l) a c)
theorem flatSig_take {l : List Int} {k : Nat} (hk : k < l.length) : (l.take (k + 1)).flatMap sigL = (l.take k).flatMap sigL ++ sigL l[k] := by
  rw [List.take_succ_eq_append_getElem hk, List.flatMap_append]
  simp
theorem ref_ints_Encode_ok {w : World} {a : Option Addr} {c : Nat} {l : List Int} (form : Int) (hl : Rd w a (l.map i64V)) (hx : ∀ x ∈ l, I64 x) :
    Calls Tryz.prog f.ref06_Encode #[.int .i64 form, .slice a l.length c] w (Ret fun v w' => IntsV form l w w' v) := by
  apply R.ref06_Encode_calls
  unfold R.ref06_Encode
  have bad : ¬ intsOk form l → IntsV form l w w (.tuple #[.slice none 0 0, .int .i64 2]) := fun h => .inl ⟨h, rfl, .refl _ _⟩
  refine IFB_dec (fun h => bad fun hk => by have := hk.1; omega) (fun h1 => IFB_dec (fun h => bad fun hk => by have := hk.2.1; omega) (fun h2 => IFB_dec (fun h => bad fun hk => by have := hk.2.2; omega) (fun h3 => ?_)))
  have hok : intsOk form l := ⟨by omega, by omega, by omega⟩
  have hn : l.length ≤ 4096 := by omega
  obtain ⟨fm, rfl⟩ : ∃ m : Nat, form = (m : Int) := ⟨form.toNat, by omega⟩
  rw [wrap_u8_id (by omega) (by omega)]
  refine (SH.start (fun _ => False) w).newB fun b3 w1 hb3 B1 S1 => ?_
  have hN : NewB w w1 [UInt8.ofNat fm] (some ⟨b3, 0, none⟩) 1 := by
    refine ⟨⟨rfl, .inr ⟨b3, _, rfl, S1.get 0 rfl, by simp, by omega, rfl, ?_⟩⟩, fun k hk => ?_, B1⟩
    · simp [byteV_of (show fm < 256 by omega)]
    · cases hk; exact hb3
  refine IFB_eq (fun hf => ?_) (fun hf1 => IFB_eq (fun hf => ?_) (fun hf2 => IFB_eq (fun hf => ?_) (fun hf3 => ?_)))
  · have : fm = 1 := by omega
    subst this
    refine (ref_runs_ok (c := c) hN (by simp) hl hn hx).mono ?_
    rintro _ w2 ⟨_, rfl, a2, c2, rfl, h2⟩
    exact ⟨_, _, _, rfl, .inr ⟨hok, a2, c2, rfl, h2⟩⟩
  · have : fm = 2 := by omega
    subst this
    refine (ref_steps_ok (c := c) hN (by simp) hl hn hx).mono ?_
    rintro _ w2 ⟨_, rfl, a2, c2, rfl, h2⟩
    exact ⟨_, _, _, rfl, .inr ⟨hok, a2, c2, rfl, h2⟩⟩
  · have : fm = 3 := by omega
    subst this
    refine (ref_frame_ok (c := c) hN (by simp) hl hn hx).mono ?_
    rintro _ w2 ⟨_, rfl, a2, c2, rfl, h2⟩
    exact ⟨_, _, _, rfl, .inr ⟨hok, a2, c2, rfl, h2⟩⟩
  · have : fm = 0 := by omega
    subst this
    refine ⟨fun s w5 => ∃ (i : Nat) (b : List UInt8) (a5 : Option Addr) (c5 : Nat), s = [.slice a5 b.length c5, .int .i64 (i : Int)] ∧ i ≤ l.length ∧ b = 0 :: (l.take i).flatMap sigL ∧ NewB w w5 b a5 c5, fun s _ => match s with
        | [_, .int _ i] => l.length - i.toNat
        | _ => 0, ⟨0, [0], _, _, rfl, by omega, by simp, hN⟩, ?_⟩
    rintro a5 _ c5 _ w5 ⟨i, b, _, _, hst, hi, hb, h5⟩
    cases hst
    have hbl : b.length ≤ 1 + 4096 * 10 := by
      have := flatSig_len (l := l.take i) fun x h => hx x (List.mem_of_mem_take h)
      rw [List.length_take] at this
      rw [hb, List.length_cons]
      omega
    refine IFB_dec (fun hlt => ⟨⟨by omega, hlt⟩, ?_⟩) (fun hge => ?_)
    · have hil : i < l.length := by omega
      obtain ⟨p, rfl, hc⟩ := int_at (hl.grown h5.bel) hil
      have hxi := hx _ (List.getElem_mem hil)
      refine ⟨_, by rw [Int.toNat_natCast]; exact hc, (ref_Signed_ok b h5.rd l[i] hxi.1 hxi.2 (by omega)).mono ?_⟩
      rintro _ w6 ⟨_, rfl, a6, c6, rfl, h6⟩
      rw [wrap_succ (by omega)]
      refine ⟨_, _, _, rfl, ⟨i + 1, _, a6, c6, rfl, by omega, ?_, h6.before h5.bel⟩, ?_⟩
      · rw [flatSig_take hil, hb]; rfl
      · simp only [Int.toNat_natCast]
        omega
    · have hie : l.take i = l := List.take_of_length_le (by omega)
      rw [hie] at hb
      subst hb
      exact .inr ⟨hok, a5, c5, rfl, h5⟩
end Go.Proofs.YtbkffpcgppecgaaGreat

/-
  Lists of numbers in few bytes: the program's way.
-/
namespace Go.Proofs.YtbkffpcgppecgaaGreat
open Go.Dn Go.Proofs
open Go.RowKit (Below)
set_option linter.unusedVariables false
set_option maxRecDepth 20000

theorem ints_zig_ok (w : World) {d : Int} (h : I64 d) : Calls Tryz.prog f.ints_zig #[.int .i64 d] w (Ret fun v w' => w' = w ∧ v = .int .u64 (zigN d : Int)) := by
  apply R.ints_zig_calls
  unfold R.ints_zig
  rw [zig_prog h.1 h.2]
  exact ⟨rfl, rfl⟩
theorem ints_packed_ok {w : World} {a : Option Addr} {c : Nat} {s : List Nat} {fm : Nat} (hf : fm < 256) {first : Int} (hfi : I64 first) (hs : Rd w a (s.map u64V)) (hn : s.length ≤ 4096) (hx : ∀ x ∈ s, x < 18446744073709551616) :
    Calls Tryz.prog f.ints_packed #[.int .u8 (fm : Int), .int .i64 first, .slice a s.length c] w (Ret fun v w' => ∃ a' c', v = .slice a' (UInt8.ofNat fm :: packedL first s).length c' ∧ NewB w w' (UInt8.ofNat fm :: packedL first s) a' c') := by
  apply R.ints_packed_calls
  unfold R.ints_packed
  refine (pack_Width_ok hs (by omega) hx).mono ?_
  rintro _ w ⟨_, rfl, wd, rfl, hwd, hwd64, rfl⟩
  obtain rfl := hwd.one (lenN_is _)
  refine ⟨_, rfl, (pack_Pack_ok hs hn hwd64 ((orL_lt _ _).1 hwd.1)).mono ?_⟩
  rintro _ w2 ⟨_, rfl, a2, c2, rfl, h2⟩
  obtain ⟨wd, hwdd⟩ : ∃ wd, wd = lenN (orL s) := ⟨_, rfl⟩
  rw [← hwdd] at h2 hwd hwd64 ⊢
  have l3 := packL_len s wd
  have l4 : sizeN s.length wd ≤ 4096 * 64 + 7 := by
    unfold sizeN
    have : s.length * wd ≤ 4096 * 64 := Nat.mul_le_mul (by omega) hwd64
    omega
  refine ⟨_, _, _, _, rfl, (SH.start (fun _ => False) w2).newB fun b3 w3 hb3 B3 S3 => ?_⟩
  have hr3 : Rd w3 (some ⟨b3, 0, none⟩) ([UInt8.ofNat fm].map byteV) := by
    have := Rd.of_block0 (S3.get 0 rfl)
    simpa [byteV_of hf] using this
  refine (wire_Signed_ok (c := 1) [UInt8.ofNat fm] hr3 first hfi.1 hfi.2 (by simp)).mono ?_
  rintro _ w4 ⟨_, rfl, a4, c4, rfl, h4⟩
  rw [wrap_u8_id (by omega) (by omega)]
  refine ⟨_, _, _, rfl, (SH.start (fun _ => False) w4).newB fun b5 w5 hb5 B5 S5 => S5.newB fun b6 w6 hb6 B6 S6 => ?_⟩
  have hd := digitsL_len10 (zigN_lt hfi.1 hfi.2)
  have hc := slices_Concat_ok (w := w6) (a := some ⟨b6, 0, none⟩) (c := 3) [(a4, c4, [UInt8.ofNat fm] ++ digitsL (zigN first)), (some ⟨b5, 0, none⟩, 1, [UInt8.ofNat wd]), (a2, c2, packL s wd)] (by
      have := Rd.of_block0 (S6.get 0 rfl)
      simpa [partV1] using this) (by
      intro p hp
      simp only [List.mem_cons, List.not_mem_nil, or_false] at hp
      rcases hp with rfl | rfl | rfl
      · exact (h4.rd.grown B5).grown B6
      · have := Rd.of_block0 (S6.get 1 rfl)
        simpa [byteV_of (show wd < 256 by omega)] using this
      · exact (((h2.rd.grown B3).grown h4.bel).grown B5).grown B6) (by simp) (by rw [flat3]; simp; omega)
  refine hc.mono ?_
  rintro _ w7 ⟨_, rfl, a7, c7, rfl, h7⟩
  rw [flat3] at h7 ⊢
  have e : [UInt8.ofNat fm] ++ digitsL (zigN first) ++ ([UInt8.ofNat wd] ++ packL s wd) = UInt8.ofNat fm :: packedL first s := by simp [packedL, sigL, hwdd]
  simp only at h7 ⊢
  rw [e] at h7 ⊢
  exact ⟨_, _, _, rfl, a7, c7, rfl, h7.before (below_trans (below_trans (below_trans (below_trans h2.bel B3) h4.bel) B5) B6)⟩
section
variable {w : World} {a : Option Addr} {c : Nat} {l : List Int}
theorem slices_Min_ok (hl : Rd w a (l.map i64V)) (h0 : 0 < l.length) (hn : l.length ≤ 1000000) :
    Calls Tryz.prog f.slices_Min_int64_int64 #[.slice a l.length c] w (Ret fun v w' => w' = w ∧ v = .int .i64 (minL l)) := by
  apply R.slices_Min_int64_int64_calls
  unfold R.slices_Min_int64_int64
  obtain ⟨p, rfl, hcell⟩ := int_head hl h0
  refine IFB_dec (fun h => by omega) (fun _ => ⟨⟨by omega, by omega⟩, _, hcell, ?_⟩)
  refine ⟨fun s w1 => w1 = w ∧ ∃ i : Nat, i ≤ l.length ∧ s = [.int .i64 (minTo l i), .int .i64 (i : Int)], fun s _ => match s with
      | [_, .int _ i] => l.length - i.toNat
      | _ => 0, ⟨rfl, 1, by omega, by rw [minTo_one h0]; rfl⟩, ?_⟩
  rintro _ _ w1 ⟨rfl, i, hi, hst⟩
  cases hst
  refine IFB_dec (fun hlt => ⟨⟨by omega, hlt⟩, ?_⟩) (fun hge => ⟨rfl, ?_⟩)
  · have hil : i < l.length := by omega
    obtain ⟨p', hp', hc⟩ := int_at hl hil
    cases hp'
    refine ⟨_, by rw [Int.toNat_natCast]; exact hc, ?_⟩
    rw [wrap_succ (by omega), ← minTo_succ hil]
    refine ⟨⟨rfl, i + 1, by omega, rfl⟩, ?_⟩
    simp only [Int.toNat_natCast]
    omega
  · have : i = l.length := by omega
    subst this
    rfl
theorem rd_drop {q : Nat} {vs : List Value} (h : Rd w a vs) (hc : vs.length ≤ c) : Rd w (SLA a q c 1) (vs.drop q) := by
  have h := h.sla q vs.length c 1 hc
  rw [Nat.mul_one, Nat.mul_one] at h
  have e : (vs.drop q).take (vs.length - q) = vs.drop q := List.take_of_length_le (by simp)
  rwa [e] at h
theorem ints_inRuns_ok : Calls Tryz.prog f.ints_inRuns #[.slice a l.length c] w (Ret fun v w' => ∃ b, v = .func (.func f.ints_inRuns_c1) #[] #[.pointer (some ⟨b, 0, none⟩)] ∧ SH (fun _ => False) w w' [(b, #[.slice a l.length c], ty.L_int64)]) := by
  apply R.ints_inRuns_calls
  unfold R.ints_inRuns
  exact (SH.start (fun _ => False) w).newB fun b1 w1 _ _ S1 => ⟨b1, rfl, S1⟩
theorem inRuns_c1_ok {L b : Nat} (hc : l.length ≤ c) (hn : l.length ≤ 1000000) (J : Nat → World → Prop) (hrd : ∀ k w, J k w → Rd w a (l.map i64V)) (hkeep : ∀ k w w', J k w → Keeps (· = b) w w' → J k w')
    (hstep : ∀ k n w, k < l.length → IsRun l k n → J k w → YLD Tryz.prog L #[.int .i64 (n : Int), .int .i64 (l.getD k 0)] (fun y w' => y = true ∧ J (k + n) w' ∧ w'.heap[b]? = w.heap[b]?) w)
    (h0 : J 0 w) (hb : w.heap[b]? = some (.cells #[.slice a l.length c] ty.L_int64 (0, 0))) :
    Calls Tryz.prog f.ints_inRuns_c1 #[.func (.yield L) #[] #[], .pointer (some ⟨b, 0, none⟩)] w (Ret fun _ w' => J l.length w') := by
  apply R.ints_inRuns_c1_calls
  unfold R.ints_inRuns_c1
  have cell_of : ∀ {w' : World} {v : Value}, w'.heap[b]? = some (.cells #[v] ty.L_int64 (0, 0)) → w'.cell? ⟨b, 0, none⟩ = some v := fun h => by simp [World.cell?, h]
  refine ⟨fun s w1 => s = [] ∧ ∃ (k : Nat) (ak : Option Addr) (ck : Nat), k ≤ l.length ∧ J k w1 ∧ w1.heap[b]? = some (.cells #[.slice ak (l.length - k) ck] ty.L_int64 (0, 0)) ∧ l.length - k ≤ ck ∧ (∀ w, Rd w a (l.map i64V) → Rd w ak ((l.drop k).map i64V)), fun _ w => match w.cell? ⟨b, 0, none⟩ with
      | some (.slice _ n _) => n
      | _ => 0, ⟨rfl, 0, a, c, by omega, h0, by simpa using hb, by omega, fun w h => by simpa using h⟩, ?_⟩
  rintro w1 ⟨_, k, ak, ck, hk, hj, hb1, hck, hr⟩
  refine ⟨_, _, _, cell_of hb1, IFB_dec (fun hpos => ?_) (fun hz => ?_)⟩
  · have hkl : k < l.length := by omega
    refine ⟨fun s w4 => ∃ n : Nat, s = [.int .i64 (n : Int)] ∧ IsRun l k n ∧ J k w4 ∧ w4.heap[b]? = some (.cells #[.slice ak (l.length - k) ck] ty.L_int64 (0, 0)), ?_, ?_⟩
    · have one : ∀ j, j < 1 → l[k + j]? = l[k]? := by
        intro j hj
        have : j = 0 := by omega
        subst this
        rfl
      refine ⟨fun s w2 => ∃ n : Nat, s = [.int .i64 (n : Int)] ∧ 0 < n ∧ k + n ≤ l.length ∧ (∀ j, j < n → l[k + j]? = l[k]?) ∧ J k w2 ∧ w2.heap[b]? = some (.cells #[.slice ak (l.length - k) ck] ty.L_int64 (0, 0)), fun s _ => match s with
          | [.int _ i] => l.length - i.toNat
          | _ => 0, ⟨1, rfl, by omega, by omega, one, hj, hb1⟩, ?_⟩
      rintro _ w2 ⟨n, hst, hn0, hnl, hall, hj2, hb2⟩
      cases hst
      unfold DRAW
      have hj3 : J k w2.drew := hkeep _ _ _ hj2 ((Keeps.refl _ _).drew)
      have hb3 : w2.drew.heap[b]? = some (.cells #[.slice ak (l.length - k) ck] ty.L_int64 (0, 0)) := hb2
      refine ⟨_, _, _, cell_of hb3, IFB_dec (fun hlt => ?_) (fun hge => ⟨n, rfl, ⟨hn0, hnl, hall, .inl (by omega)⟩, hj3, hb3⟩)⟩
      have hrk := hr _ (hrd _ _ hj3)
      have hnl2 : k + n < l.length := by omega
      have hd1 : n < (l.drop k).length := by rw [List.length_drop]; omega
      have hd0 : 0 < (l.drop k).length := by omega
      obtain ⟨p, rfl, hc1⟩ := int_at hrk hd1
      obtain ⟨p', hp', hc2⟩ := int_at hrk hd0
      cases hp'
      rw [Nat.zero_mul, addr_add_zero] at hc2
      refine ⟨_, _, _, cell_of hb3, ⟨by omega, by omega⟩, _, by rw [Int.toNat_natCast]; exact hc1, _, _, _, cell_of hb3, ⟨by omega, by omega⟩, _, hc2, ?_⟩
      have e1 : (l.drop k)[n] = l[k + n] := by simp
      have e2 : (l.drop k)[0] = l[k] := by simp
      rw [e1, e2]
      refine IFB_eq (fun he => ?_) (fun hne => ⟨n, rfl, ⟨hn0, hnl, hall, .inr ?_⟩, hj3, hb3⟩)
      · rw [wrap_succ (by omega)]
        refine ⟨⟨n + 1, rfl, by omega, by omega, fun j hj => ?_, hj3, hb3⟩, ?_⟩
        · rcases Nat.lt_or_ge j n with h | h
          · exact hall j h
          · have : j = n := by omega
            subst this
            rw [List.getElem?_eq_getElem hnl2, List.getElem?_eq_getElem hkl, he]
        · simp only [Int.toNat_natCast]
          omega
      · rw [List.getElem?_eq_getElem hnl2, List.getElem?_eq_getElem hkl]
        simpa using hne
    rintro _ w4 ⟨n, hst, hrun, hj4, hb4⟩
    cases hst
    have hn1 := hrun.pos
    have hn2 := hrun.le
    have hrk := hr _ (hrd _ _ hj4)
    have hd0 : 0 < (l.drop k).length := by rw [List.length_drop]; omega
    obtain ⟨p', hp', hc2⟩ := int_at hrk hd0
    subst hp'
    rw [Nat.zero_mul, addr_add_zero] at hc2
    have e2 : (l.drop k)[0] = l.getD k 0 := by simp [hkl]
    rw [e2] at hc2
    refine ⟨_, _, _, cell_of hb4, ⟨by omega, by omega⟩, _, hc2, ?_⟩
    obtain ⟨fn, tm, asg, bo, hy, hrr⟩ := hstep k n w4 hkl hrun hj4
    refine ⟨fn, tm, asg, bo, hy, hrr.mono ?_⟩
    rintro e w5 ⟨y, he, rfl, hj5, hb5⟩
    rw [hb4] at hb5
    refine ⟨true, he, IFB_false ⟨_, _, _, cell_of hb5, ⟨by omega, by omega, by omega⟩, ?_⟩⟩
    rw [Int.toNat_natCast]
    refine sto_blk hb5 (by simp) fun w6 K6 hb6 => ?_
    have hb6' : w6.heap[b]? = some (.cells #[.slice (SLA (some p') n ck 1) (l.length - k - n) (ck - n)] ty.L_int64 (0, 0)) := hb6
    have ek : l.length - k - n = l.length - (k + n) := by omega
    rw [ek] at hb6'
    refine ⟨⟨rfl, k + n, _, _, by omega, hkeep _ _ _ hj5 K6, hb6', by omega, fun w h => ?_⟩, ?_⟩
    · have := rd_drop (q := n) (c := ck) (hr w h) (by simp; omega)
      rwa [← List.map_drop, List.drop_drop] at this
    · show (match w6.cell? ⟨b, 0, none⟩ with | some (.slice _ n _) => n | _ => 0) < (match w1.cell? ⟨b, 0, none⟩ with | some (.slice _ n _) => n | _ => 0)
      rw [cell_of hb6', cell_of hb1]
      simp only
      omega
  · have : k = l.length := by omega
    subst this
    exact hj
end
end Go.Proofs.YtbkffpcgppecgaaGreat

/-
  Encode and Best of lists of numbers: the program's way.
-/
namespace Go.Proofs.YtbkffpcgppecgaaGreat
open Go.Dn Go.Proofs
open Go.RowKit (Below)
set_option linter.unusedVariables false
set_option maxRecDepth 20000
theorem cell0 {w : World} {b : Nat} {v : Value} {t : TypeId} {f : Nat × Nat} (h : w.heap[b]? = some (.cells #[v] t f)) : w.cell? ⟨b, 0, none⟩ = some v := by simp [World.cell?, h]
section
variable {w : World} {a : Option Addr} {c : Nat} {l : List Int}
/-- the bytes so far lie under a cell, far from other blocks -/
structure Held (w : World) (b4 : Nat) (F : Nat → Prop) (wx : World) (bs : List UInt8) : Prop where
  ex : ∃ (ba : Option Addr) (bc : Nat), wx.heap[b4]? = some (.cells #[.slice ba bs.length bc] ty.L_uint8 (0, 0)) ∧ Row wx ty.uint8 1 ba bs.length bc (bs.map byteV) ∧ ∀ x, rowB ba = some x → w.heap.size ≤ x ∧ x ≠ b4 ∧ ¬ F x
theorem Held.keeps {w wx wy : World} {b4 : Nat} {F G : Nat → Prop} {bs : List UInt8} (h : Held w b4 F wx bs) (K : Keeps G wx wy) (h4 : ¬ G b4) (hG : ∀ x, G x → F x ∨ wx.heap.size ≤ x) : Held w b4 F wy bs := by
  obtain ⟨ba, bc, h1, h2, h3⟩ := h.ex
  refine ⟨ba, bc, K.at h1 h4, h2.keeps K fun x hx hg => ?_, h3⟩
  rcases hG x hg with h | h
  · exact (h3 x hx).2.2 h
  · have := h2.lt hx
    omega
theorem ints_runs_ok {w w3 : World} {b4 : Nat} (hl : Rd w a (l.map i64V)) (hc : l.length ≤ c) (hn : l.length ≤ 4096) (hx : ∀ x ∈ l, I64 x) (B : Below w.heap.size w w3) (hb40 : w.heap.size ≤ b4)
    (hH : Held w b4 (fun _ => False) w3 [1]) {k : Value → World → Prop} (hk : ∀ w', Below w.heap.size w w' → Held w b4 (fun _ => False) w' (intsL 1 l) → ∀ ba bc, w'.cell? ⟨b4, 0, none⟩ = some (.slice ba (intsL 1 l).length bc) → k (.tuple #[.slice ba (intsL 1 l).length bc, .int .i64 0]) w') :
    Calls Tryz.prog f.ints_inRuns #[.slice a l.length c] w3 (fun e_15 w7 => ∃ (t52_14 : FuncId) (t52_14f t52_14c : Array Value), e_15 = .returned (.func (.func t52_14) t52_14f t52_14c) ∧ enters Tryz.prog t52_14 = true ∧ ∀ rr_16 : Loop, rr_16.state = .ready → rr_16.pending = none → (∀ (t53_17 : Int), ∀ (t54_18 : Int), ∀ (k_16 : Bool → World → Prop) (w8 : World), w8.heap[(w7.heap.size + 1)]? = some (.loop rr_16) → (BEGR rr_16 (w7.heap.size + 1) (fun w9 => ∃ (t55_19 : Option Addr) (t55_19l t55_19c : Nat), w9.cell? ⟨b4, 0, none⟩ = some (.slice t55_19 t55_19l t55_19c) ∧
      Calls Tryz.prog f.wire_Number #[.slice t55_19 t55_19l t55_19c, .int .u64 (IntKind.u64.wrap (t53_17))] w9 (fun e_21 w10 => ∃ (t58_20 : Option Addr) (t58_20l t58_20c : Nat), e_21 = .returned (.slice t58_20 t58_20l t58_20c) ∧ Calls Tryz.prog f.wire_Signed #[.slice t58_20 t58_20l t58_20c, .int .i64 t54_18] w10 (fun e_23 w11 => ∃ (t60_22 : Option Addr) (t60_22l t60_22c : Nat), e_23 = .returned (.slice t60_22 t60_22l t60_22c) ∧ STO ⟨b4, 0, none⟩ (.slice t60_22 t60_22l t60_22c) (fun w12 => ENDR rr_16 (w7.heap.size + 1) k_16 none w12) w11))) w8) → YLD Tryz.prog (w7.heap.size + 1) #[.int .i64 t53_17, .int .i64 t54_18] k_16 w8) →
      Calls Tryz.prog t52_14 ⟨t52_14f.toList ++ [.func (.yield (w7.heap.size + 1)) #[] #[]] ++ t52_14c.toList⟩ ((w7.alloc (.deferred (some []))).alloc (.loop rr_16)) (fun e_24 w13 => (∃ v, e_24 = .returned v) ∧ ENDL rr_16 (w7.heap.size + 1) (fun j_24 w14 => (j_24 = none ∧ ∃ (t112_25 : Option Addr) (t112_25l t112_25c : Nat), w14.cell? ⟨b4, 0, none⟩ = some (.slice t112_25 t112_25l t112_25c) ∧ w14.heap[w7.heap.size]? = some (.deferred (some [])) ∧ k (.tuple #[.slice t112_25 t112_25l t112_25c, .int .i64 0]) (w14.putObj w7.heap.size (.deferred none)))) w13)) := by
  have hlen := runsL_len 4096 l hn (by omega) hx
  refine ints_inRuns_ok.mono ?_
  rintro _ w9 ⟨_, rfl, bI, rfl, S9⟩
  refine ⟨_, _, _, rfl, by kernel_rfl, fun rr hst hpe hy => ?_⟩
  obtain ⟨W1, hW1⟩ : ∃ W1, W1 = (w9.alloc (.deferred (some []))).alloc (.loop rr) := ⟨_, rfl⟩
  rw [← hW1]
  have B91 : Below w9.heap.size w9 W1 := by rw [hW1]; exact (((Below.refl _ w9).alloc (Nat.le_refl _) _).alloc (by simp) _)
  have sz1 : W1.heap.size = w9.heap.size + 2 := by rw [hW1]; simp
  have hL1 : W1.heap[w9.heap.size + 1]? = some (.loop rr) := by
    rw [hW1]; have := World.alloc_heap_new (w9.alloc (.deferred (some []))) (.loop rr); rwa [World.size_alloc] at this
  have hD1 : W1.heap[w9.heap.size]? = some (.deferred (some [])) := by
    rw [hW1]; exact (Below.heap_alloc _ _ _ (by simp)).trans (World.alloc_heap_new w9 _)
  have K91 := Keeps.of_below (F := fun _ => False) B91
  obtain ⟨L, hLd⟩ : ∃ L, L = w9.heap.size + 1 := ⟨_, rfl⟩
  rw [← hLd] at hL1 hy ⊢
  obtain ⟨ba0, bc0, e1, e2, e3⟩ := hH.ex
  have hb4 : b4 < w3.heap.size := (Array.getElem?_eq_some_iff.1 e1).1
  have hbI : w3.heap.size ≤ bI := by simpa using S9.own (bI, _, _) (List.mem_cons_self ..)
  have hbI9 : bI < w9.heap.size := S9.lt (x := (bI, _, _)) (List.mem_cons_self ..)
  have hB39 := S9.below
  have Bw1 : Below w.heap.size w W1 := (below_trans B hB39).trans (B91.mono (below_trans B hB39).size)
  have w03 := B.size
  have w39 := hB39.size
  have hI1 : W1.heap[bI]? = some (.cells #[.slice a l.length c] ty.L_int64 (0, 0)) := K91.at (S9.get 0 rfl) (by simp)
  -- what holds through the rounds
  let F : Nat → Prop := fun x => x = L ∨ x = bI ∨ x = w9.heap.size
  have hJ0 : Held w b4 F W1 [1] := by
    refine ⟨ba0, bc0, K91.at ((Keeps.of_below (F := fun _ => False) hB39).at e1 (by simp)) (by simp), (e2.grown hB39).grown B91, fun x hx => ⟨(e3 x hx).1, (e3 x hx).2.1, ?_⟩⟩
    have := e2.lt hx
    show ¬ (x = L ∨ x = bI ∨ x = w9.heap.size)
    omega
  let J : Nat → World → Prop := fun q wx => Keeps (fun x => x = b4 ∨ x = L ∨ x = bI) W1 wx ∧ wx.heap[L]? = some (.loop rr) ∧ ∃ bs, Held w b4 F wx bs ∧ 1 :: runsL l = bs ++ runsL (l.drop q)
  have low : ∀ {w' : World}, Keeps (fun x => x = b4 ∨ x = L ∨ x = bI) W1 w' → Below w.heap.size w w' := fun K => Bw1.trans (K.below Bw1.size fun k hk h => by omega)
  have hcall := inRuns_c1_ok (w := W1) (L := L) (b := bI) hc (by omega) J (fun q wx hj => hl.grown (low hj.1)) (fun q wx wy hj K => by
      obtain ⟨j1, j2, bs, j3, j4⟩ := hj
      exact ⟨j1.trans K (fun x _ h => .inr (.inr h)), K.at j2 (by show ¬ L = bI; omega), bs, j3.keeps K (by show ¬ b4 = bI; omega) (fun x h => .inl (.inr (.inl h))), j4⟩) (by
    rintro q n wx hq hrun ⟨K, hL, bs, hHd, hE⟩
    obtain ⟨ba, bc, f1, f2, f3⟩ := hHd.ex
    have hbl : bs.length ≤ 1 + 4096 * 20 := by
      have := congrArg List.length hE
      simp only [List.length_append, List.length_cons] at this
      omega
    have hnn := hrun.le
    have hn0 := hrun.pos
    refine hy _ _ _ wx hL ⟨hL, ?_⟩
    obtain ⟨w11, hw11⟩ : ∃ w11, w11 = wx.putObj L (.loop { rr with state := .busy }) := ⟨_, rfl⟩
    rw [← hw11]
    have hLlt : L < wx.heap.size := (Array.getElem?_eq_some_iff.1 hL).1
    have K11 : Keeps (fun k => k = L) wx w11 := by rw [hw11]; exact keeps_putObj _ _ _
    have hL11 : w11.heap[L]? = some (.loop { rr with state := .busy }) := by rw [hw11]; exact World.putObj_heap_same hLlt
    have g1 := K11.at f1 (show ¬ b4 = L by omega)
    have g2 := f2.keeps K11 fun x hx he => (f3 x hx).2.2 (.inl he)
    rw [wrap_u64_id (by omega) (by omega)]
    refine ⟨_, _, _, cell0 g1, (wire_Number_ok bs g2.rd n (by omega) (by omega)).mono ?_⟩
    rintro _ w12 ⟨_, rfl, a12, c12, rfl, h12⟩
    have d10 := digitsL_len10 (n := n) (by omega)
    have hxq : I64 (l.getD q 0) := by rw [getD_int hq]; exact hx _ (List.getElem_mem hq)
    refine ⟨_, _, _, rfl, (wire_Signed_ok _ h12.rd _ hxq.1 hxq.2 (by rw [List.length_append]; omega)).mono ?_⟩
    rintro _ w13 ⟨_, rfl, a13, c13, rfl, h13⟩
    have B13 := below_trans h12.bel h13.bel
    have K13 := Keeps.of_below (F := fun _ => False) B13
    have g3 := K13.at g1 (by simp)
    refine ⟨_, _, _, rfl, sto_blk g3 (by simp) fun w14 K14 hb14 => ?_⟩
    have s11 : w11.heap.size = wx.heap.size := by rw [hw11]; simp
    have sx := K.size
    have sz12 := h12.bel.size
    have hL14 : w14.heap[L]? = some (.loop { rr with state := .busy }) := K14.at (K13.at hL11 (by simp)) (by show ¬ L = b4; omega)
    refine ⟨hL14, rfl, ?_⟩
    rw [rr_eta hst hpe]
    have hlt14 : L < w14.heap.size := (Array.getElem?_eq_some_iff.1 hL14).1
    have KP := keeps_putObj w14 L (.loop rr)
    have KK : Keeps (fun x => x = b4 ∨ x = L) wx (w14.putObj L (.loop rr)) :=
      (((K11.mono (G := fun x => x = b4 ∨ x = L) (fun x _ h => .inr h)).trans K13 (fun x _ h => h.elim)).trans K14 (fun x _ h => .inl h)).trans KP (fun x _ h => .inr h)
    have new13 : ∀ x, rowB a13 = some x → wx.heap.size ≤ x := fun x hx => by have := h13.new x hx; omega
    have R14 : Row (w14.putObj L (.loop rr)) ty.uint8 1 a13 (bs ++ digitsL n ++ digitsL (zigN (l.getD q 0))).length c13 ((bs ++ digitsL n ++ digitsL (zigN (l.getD q 0))).map byteV) :=
      (h13.row.keeps K14 fun x hx he => by have := new13 x hx; have := (Array.getElem?_eq_some_iff.1 f1).1; omega).keeps KP fun x hx he => by have := new13 x hx; omega
    refine ⟨⟨K.trans KK (fun x _ h => by rcases h with h | h <;> simp [h]), World.putObj_heap_same hlt14, _, ⟨a13, c13, ?_, R14, fun x hx => ?_⟩, ?_⟩, ?_⟩
    · exact KP.at hb14 (by show ¬ b4 = L; omega)
    · have := new13 x hx
      have := Bw1.size
      refine ⟨by omega, by omega, ?_⟩
      show ¬ (x = L ∨ x = bI ∨ x = w9.heap.size)
      omega
    · rw [hE, runs_cut hrun]
      simp [sigL]
    · exact KK.block bI (by omega) (by show ¬ (bI = b4 ∨ bI = L); omega)) ⟨.refl _ _, hL1, [1], hJ0, by simp⟩ hI1
  refine hcall.mono ?_
  rintro _ w14 ⟨_, rfl, K14, hL14, bs, hHd, hE⟩
  have hd : l.drop l.length = [] := by simp
  rw [hd, runsL_nil, List.append_nil] at hE
  subst hE
  refine ⟨⟨_, rfl⟩, none, by rw [rr_eta hst hpe]; exact hL14, rfl, ?_⟩
  obtain ⟨w15, hw15⟩ : ∃ w15, w15 = w14.putObj L (.loop { rr with state := .exhausted, pending := none }) := ⟨_, rfl⟩
  rw [← hw15]
  have K15 : Keeps (fun k => k = L) w14 w15 := by rw [hw15]; exact keeps_putObj _ _ _
  have H15 := hHd.keeps K15 (show ¬ b4 = L by omega) (fun x h => .inl (.inl h))
  have KF := K14.trans K15 (fun x _ h => .inr (.inl h))
  have hD15 : w15.heap[w9.heap.size]? = some (.deferred (some [])) := KF.at hD1 (by show ¬ (w9.heap.size = b4 ∨ w9.heap.size = L ∨ w9.heap.size = bI); omega)
  have KD := keeps_putObj w15 w9.heap.size (.deferred none)
  have H16 := H15.keeps KD (show ¬ b4 = w9.heap.size by omega) (fun x h => .inl (.inr (.inr h)))
  have B15 := low KF
  obtain ⟨ba, bc, f1, f2, f3⟩ := H15.ex
  obtain ⟨ba', bc', f1', f2', f3'⟩ := H16.ex
  refine ⟨_, _, _, cell0 f1, hD15, hk _ (B15.trans (KD.below B15.size fun k hk he => by omega)) ⟨ba', bc', f1', f2', fun x hx => ⟨(f3' x hx).1, (f3' x hx).2.1, fun h => h⟩⟩ ba bc ?_⟩
  have := KD.at f1 (show ¬ b4 = w9.heap.size by omega)
  exact cell0 this
theorem ints_Encode_ok (form : Int) (hl : Rd w a (l.map i64V)) (hc : l.length ≤ c) (hx : ∀ x ∈ l, I64 x) :
    Calls Tryz.prog f.ints_Encode #[.int .i64 form, .slice a l.length c] w (Ret fun v w' => IntsV form l w w' v) := by
  apply R.ints_Encode_calls
  unfold R.ints_Encode
  have bad : ¬ intsOk form l → IntsV form l w w (.tuple #[.slice none 0 0, .int .i64 2]) := fun h => .inl ⟨h, rfl, .refl _ _⟩
  refine IFB_dec (fun h => bad fun hk => by have := hk.1; omega) (fun h1 => IFB_dec (fun h => bad fun hk => by have := hk.2.1; omega) (fun h2 => IFB_dec (fun h => bad fun hk => by have := hk.2.2; omega) (fun h3 => ?_)))
  have hok : intsOk form l := ⟨by omega, by omega, by omega⟩
  have hn : l.length ≤ 4096 := by omega
  obtain ⟨fm, rfl⟩ : ∃ m : Nat, form = (m : Int) := ⟨form.toNat, by omega⟩
  rw [wrap_u8_id (by omega) (by omega)]
  refine (SH.start (fun _ => False) w).newB fun b3 w1 hb3 B1 S1 => S1.newB fun b4 w2 hb4 B2 S2 => S2.stoK 0 rfl (show 0 < 1 by decide) fun w3 K3 S3 => ?_
  have hfb : fm < 256 := by omega
  have B3 := S3.below
  have hb34 : b3 ≠ b4 := S3.ne 1 0 rfl rfl (by decide)
  have hb3w : w.heap.size ≤ b3 := hb3
  have hb4w : w.heap.size ≤ b4 := by have := B1.size; omega
  have hN : NewB w w3 [UInt8.ofNat fm] (some ⟨b3, 0, none⟩) 1 := by
    refine ⟨⟨rfl, .inr ⟨b3, _, rfl, S3.get 1 rfl, by simp, by omega, rfl, ?_⟩⟩, fun k hk => ?_, B3⟩
    · simp [byteV_of hfb]
    · cases hk; exact hb3
  have hg3 : w3.heap[b4]? = some (.cells #[.slice (some ⟨b3, 0, none⟩) 1 1] ty.L_uint8 (0, 0)) := S3.get 0 rfl
  -- a new slice under the cell: what is handed back
  have fin : ∀ {wx : World} {bs : List UInt8} {ba : Option Addr} {bc : Nat}, NewB w wx bs ba bc → bs = intsL fm l → IntsV (fm : Int) l w wx (.tuple #[.slice ba bs.length bc, .int .i64 0]) := by
    rintro wx bs ba bc h rfl
    exact .inr ⟨hok, ba, bc, by rw [Int.toNat_natCast], by rw [Int.toNat_natCast]; exact h⟩
  refine IFB_eq (fun hz => ⟨_, _, _, cell0 hg3, ?_⟩) (fun hnz => ?_)
  · have hl0 : l = [] := List.eq_nil_of_length_eq_zero (by omega)
    refine fin hN ?_
    subst hl0
    rcases (by omega : fm = 0 ∨ fm = 1 ∨ fm = 2 ∨ fm = 3) with rfl | rfl | rfl | rfl
    · rfl
    · show _ = 1 :: runsL []
      rw [runsL_nil]; rfl
    · rfl
    · rfl
  have hp : 0 < l.length := by omega
  have hne' : l ≠ [] := List.length_pos_iff.1 hp
  refine IFB_eq (fun hf => ?_) (fun hf0 => IFB_eq (fun hf => ?_) (fun hf1 => IFB_eq (fun hf => ?_) (fun hf2 => IFB_eq (fun hf => ?_) (fun hf3 => by omega))))
  · have : fm = 0 := by omega
    subst this
    refine ⟨fun s w5 => ∃ (i : Nat) (b : List UInt8) (a5 : Option Addr) (c5 : Nat), s = [.int .i64 (i : Int)] ∧ i ≤ l.length ∧ b = 0 :: (l.take i).flatMap sigL ∧ NewB w w5 b a5 c5 ∧ w5.heap[b4]? = some (.cells #[.slice a5 b.length c5] ty.L_uint8 (0, 0)) ∧ (∀ x, rowB a5 = some x → x ≠ b4), fun s _ => match s with
        | [.int _ i] => l.length - i.toNat
        | _ => 0, ⟨0, [0], _, _, rfl, by omega, by simp, hN, hg3, fun x hx => by cases hx; exact hb34⟩, ?_⟩
    rintro _ w5 ⟨i, b, a5, c5, hst, hi, hb, h5, g5, n5⟩
    cases hst
    have hbl : b.length ≤ 1 + 4096 * 10 := by
      have := flatSig_len (l := l.take i) fun x h => hx x (List.mem_of_mem_take h)
      rw [List.length_take] at this
      rw [hb, List.length_cons]
      omega
    refine IFB_dec (fun hlt => ⟨⟨by omega, hlt⟩, ?_⟩) (fun hge => ⟨_, _, _, cell0 g5, ?_⟩)
    · have hil : i < l.length := by omega
      obtain ⟨p, rfl, hc⟩ := int_at (hl.grown h5.bel) hil
      have hxi := hx _ (List.getElem_mem hil)
      refine ⟨_, by rw [Int.toNat_natCast]; exact hc, _, _, _, cell0 g5, (wire_Signed_ok b h5.rd l[i] hxi.1 hxi.2 (by omega)).mono ?_⟩
      rintro _ w6 ⟨_, rfl, a6, c6, rfl, h6⟩
      have g6 := (Keeps.of_below (F := fun _ => False) h6.bel).at g5 (by simp)
      have l5 : b4 < w5.heap.size := (Array.getElem?_eq_some_iff.1 g5).1
      refine ⟨_, _, _, rfl, sto_blk g6 (by simp) fun w7 K7 g7 => ?_⟩
      rw [wrap_succ (by omega)]
      have h6' := h6.before h5.bel
      have n6 : ∀ x, rowB a6 = some x → x ≠ b4 := fun x hx => by have := h6.new x hx; omega
      refine ⟨⟨i + 1, _, a6, c6, rfl, by omega, ?_, ⟨h6'.row.keeps K7 fun x hx he => n6 x hx he, h6'.new, h6'.bel.trans (K7.below h6'.bel.size fun k hk he => by omega)⟩, g7, n6⟩, ?_⟩
      · rw [flatSig_take hil, hb]; rfl
      · simp only [Int.toNat_natCast]
        omega
    · have hie : l.take i = l := List.take_of_length_le (by omega)
      rw [hie] at hb
      exact fin h5 hb
  · have : fm = 1 := by omega
    subst this
    refine ints_runs_ok (k := fun v w' => IntsV ((1 : Nat) : Int) l w w' v) hl hc hn hx B3 hb4w ⟨_, _, hg3, hN.row, fun x hx => by cases hx; exact ⟨hb3, hb34, fun h => h⟩⟩ ?_
    rintro w' B' ⟨ba', bc', f1, f2, f3⟩ ba bc hcell
    have e := (cell0 f1).symm.trans hcell
    simp only [Option.some.injEq, Value.slice.injEq, true_and] at e
    obtain ⟨rfl, rfl⟩ := e
    exact fin ⟨f2, fun k hk => (f3 k hk).1, B'⟩ rfl
  · have : fm = 2 := by omega
    subst this
    have hsl : (stepsN l).length = l.length - 1 := by simp [stepsN]
    refine ⟨⟨by omega, by omega, by omega⟩, fun s w1 => ∃ (i : Nat) (a1 : Option Addr) (c1 : Nat), s = [.slice a1 ((stepsN l).take i).length c1, .int .i64 (i : Int)] ∧ i + 1 ≤ l.length ∧ NewU w3 w1 ((stepsN l).take i) a1 c1, fun s _ => match s with
      | [_, .int _ i] => l.length - i.toNat
      | _ => 0, ⟨0, none, 0, rfl, by omega, NewU.nil w3⟩, ?_⟩
    rintro a1 _ c1 _ w15 ⟨i, _, _, hst, hi, h1⟩
    cases hst
    have C1 := below_trans B3 h1.bel
    refine IFB_dec (fun hlt => ⟨⟨by omega, by omega⟩, ?_⟩) (fun hge => ?_)
    · have hi1 : i + 1 < l.length := by omega
      have hi0 : i < l.length := by omega
      have hrd1 := rd_drop (q := 1) (hl.grown C1) (by rw [List.length_map]; exact hc)
      rw [← List.map_drop] at hrd1
      have hd1 : i < (l.drop 1).length := by rw [List.length_drop]; omega
      obtain ⟨p1, hp1, hc1⟩ := int_at hrd1 hd1
      rw [hp1]
      have e1 : (l.drop 1)[i] = l[i + 1] := by simp
      rw [e1] at hc1
      obtain ⟨p, rfl, hc2⟩ := int_at (hl.grown C1) hi0
      refine ⟨_, by rw [Int.toNat_natCast]; exact hc1, ⟨by omega, by omega⟩, _, by rw [Int.toNat_natCast]; exact hc2, ?_⟩
      refine (ints_zig_ok w15 (wrap_I64 (l[i + 1] - l[i]))).mono ?_
      rintro _ w5 ⟨_, rfl, rfl, rfl⟩
      refine ⟨_, rfl, (SH.start (fun _ => False) w5).newB fun b6 w6 hb6 B6 S6 => ?_⟩
      refine append_u64 (h1.grown B6) (by rw [List.length_take]; omega) rfl (S6.get 0 rfl) fun a7 c7 w7 h7 => ⟨_, _, _, rfl, ?_⟩
      rw [← stepsN_take hi1] at h7 ⊢
      rw [wrap_succ (by omega)]
      refine ⟨⟨i + 1, a7, c7, rfl, by omega, h7⟩, ?_⟩
      simp only [Int.toNat_natCast]
      omega
    · have hie : (stepsN l).take i = stepsN l := List.take_of_length_le (by omega)
      rw [hie] at h1 ⊢
      obtain ⟨p, rfl, hcell⟩ := int_head (hl.grown C1) hp
      have hh : I64 (l.headD 0) := by
        have := minTo_I64 hx hp 0
        simpa [minTo] using this
      refine ⟨⟨by omega, by omega⟩, _, hcell, (ints_packed_ok (fm := 2) (by omega) hh h1.row.rd (by omega) stepsN_lt).mono ?_⟩
      rintro _ w6 ⟨_, rfl, a6, c6, rfl, h6⟩
      have g6 := (Keeps.of_below (F := fun _ => False) (below_trans h1.bel h6.bel)).at hg3 (by simp)
      have l3 : b4 < w3.heap.size := (Array.getElem?_eq_some_iff.1 hg3).1
      have s13 := h1.bel.size
      refine ⟨_, _, _, rfl, sto_blk g6 (by simp) fun w7 K7 g7 => ⟨_, _, _, cell0 g7, ?_⟩⟩
      have h6' := h6.before C1
      exact fin ⟨h6'.row.keeps K7 fun x hx he => by have := h6.new x hx; omega, h6'.new, h6'.bel.trans (K7.below h6'.bel.size fun k hk he => by omega)⟩ (by simp only [intsL]; rw [if_neg hne']; rfl)
  · have : fm = 3 := by omega
    subst this
    have hsl : (frameN l).length = l.length := by simp [frameN]
    have hmI := minTo_I64 hx hp l.length
    have hm : minTo l l.length = minL l := rfl
    rw [hm] at hmI
    refine (slices_Min_ok (hl.grown B3) hp (by omega)).mono ?_
    rintro _ w3 ⟨_, rfl, rfl, rfl⟩
    refine ⟨_, rfl, fun s w1 => ∃ (i : Nat) (a1 : Option Addr) (c1 : Nat), s = [.slice a1 ((frameN l).take i).length c1, .int .i64 (i : Int)] ∧ i ≤ l.length ∧ NewU w3 w1 ((frameN l).take i) a1 c1, fun s _ => match s with
      | [_, .int _ i] => l.length - i.toNat
      | _ => 0, ⟨0, none, 0, rfl, by omega, NewU.nil w3⟩, ?_⟩
    rintro a1 _ c1 _ w15 ⟨i, _, _, hst, hi, h1⟩
    cases hst
    have C1 := below_trans B3 h1.bel
    refine IFB_dec (fun hlt => ⟨⟨by omega, by omega⟩, ?_⟩) (fun hge => ?_)
    · have hi0 : i < l.length := by omega
      obtain ⟨p, rfl, hc2⟩ := int_at (hl.grown C1) hi0
      have hmem := List.getElem_mem hi0
      refine ⟨_, by rw [Int.toNat_natCast]; exact hc2, (SH.start (fun _ => False) w15).newB fun b6 w6 hb6 B6 S6 => ?_⟩
      have ew : IntKind.u64.wrap (IntKind.i64.wrap (l[i] - minL l)) = ((l[i] - minL l).toNat : Int) := by
        have q1 := hx _ hmem
        have q2 := minL_le hmem
        unfold I64 at q1 hmI
        rw [wrap_u64, wrap_i64_def]
        split <;> omega
      rw [ew] at S6
      refine append_u64 (h1.grown B6) (by rw [List.length_take]; omega) rfl (S6.get 0 rfl) fun a7 c7 w7 h7 => ⟨_, _, _, rfl, ?_⟩
      rw [← frameN_take hi0] at h7 ⊢
      rw [wrap_succ (by omega)]
      refine ⟨⟨i + 1, a7, c7, rfl, by omega, h7⟩, ?_⟩
      simp only [Int.toNat_natCast]
      omega
    · have hie : (frameN l).take i = frameN l := List.take_of_length_le (by omega)
      rw [hie] at h1 ⊢
      refine (ints_packed_ok (fm := 3) (by omega) hmI h1.row.rd (by omega) (frameN_lt hx)).mono ?_
      rintro _ w6 ⟨_, rfl, a6, c6, rfl, h6⟩
      have g6 := (Keeps.of_below (F := fun _ => False) (below_trans h1.bel h6.bel)).at hg3 (by simp)
      have l3 : b4 < w3.heap.size := (Array.getElem?_eq_some_iff.1 hg3).1
      have s13 := h1.bel.size
      refine ⟨_, _, _, rfl, sto_blk g6 (by simp) fun w7 K7 g7 => ⟨_, _, _, cell0 g7, ?_⟩⟩
      have h6' := h6.before C1
      exact fin ⟨h6'.row.keeps K7 fun x hx he => by have := h6.new x hx; omega, h6'.new, h6'.bel.trans (K7.below h6'.bel.size fun k hk he => by omega)⟩ (by simp only [intsL]; rw [if_neg hne']; rfl)
end
end Go.Proofs.YtbkffpcgppecgaaGreat
