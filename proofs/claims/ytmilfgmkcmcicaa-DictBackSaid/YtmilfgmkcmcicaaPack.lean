/-
  Numbers of few bits as bytes: both sides.
-/
import Derived.Test.YtmilfgmkcmcicaaWidth
namespace Go.Proofs.Ytmilfgmkcmcicaa
open Go.Dn Go.Proofs
open Go.RowKit (Below)
set_option linter.unusedVariables false
set_option maxRecDepth 20000

theorem keeps_putObj (w : World) (l : Nat) (o : Obj) : Keeps (· = l) w (w.putObj l o) :=
  ⟨rfl, rfl, rfl, by simp, fun k _ hn => World.putObj_heap_other hn⟩

/-- the bytes behind t bits -/
def stB (f : Nat → Bool) : Nat → Nat → Nat
  | 0, _ => 0
  | t + 1, j => if j = t / 8 ∧ f t = true then stB f t j ||| 2 ^ (t % 8) else stB f t j
theorem stB_lt (f : Nat → Bool) (t j : Nat) : stB f t j < 256 := by
  induction t with
  | zero => simp [stB]
  | succ t ih =>
    unfold stB
    split
    · exact (or_lt (w := 8)).2 ⟨ih, Nat.pow_lt_pow_right (by omega) (by omega)⟩
    · exact ih
def bitA (xs : List Nat) (w t : Nat) : Bool := (xs.getD (t / w) 0).testBit (t % w)
def sizeN (n w : Nat) : Nat := (n * w + 7) / 8
def packL (xs : List Nat) (w : Nat) : List UInt8 := (List.range (sizeN xs.length w)).map fun j => UInt8.ofNat (stB (bitA xs w) (xs.length * w) j)
theorem packL_len (xs : List Nat) (w : Nat) : (packL xs w).length = sizeN xs.length w := by simp [packL]
def rowC (f : Nat → Bool) (m t : Nat) : Array Value := ⟨(List.range m).map fun j => .int .u8 (stB f t j : Int)⟩
theorem rowC_size (f : Nat → Bool) (m t : Nat) : (rowC f m t).size = m := by simp [rowC]
theorem rowC_get {f : Nat → Bool} {m t j : Nat} (h : j < m) : (rowC f m t)[j]? = some (.int .u8 (stB f t j : Int)) := by simp [rowC, h]
theorem rowC_set {f : Nat → Bool} {m t : Nat} (v : Nat) (hv : v = stB f (t + 1) (t / 8)) : (rowC f m t).setIfInBounds (t / 8) (.int .u8 (v : Int)) = rowC f m (t + 1) := by
  apply Array.ext'
  apply List.ext_getElem?
  intro i
  simp only [Array.toList_setIfInBounds, rowC, List.getElem?_set, List.length_map, List.length_range]
  by_cases h : t / 8 = i
  · subst h
    by_cases h2 : t / 8 < m
    · simp [h2, hv]
    · simp [h2]
  · have e : stB f (t + 1) i = stB f t i := by
      conv => lhs; unfold stB
      rw [if_neg (by omega)]
    by_cases h2 : i < m
    · simp [h, h2, e]
    · simp [h, h2]
theorem rowC_zero (f : Nat → Bool) (m : Nat) : madeCells (Value.int .u8 0).cells (m * 1) = rowC f m 0 := by
  apply Array.ext'
  rw [madeCells_one _ rfl]
  simp [rowC, stB, List.map_const']
theorem rowC_end (xs : List Nat) (w : Nat) : (rowC (bitA xs w) (sizeN xs.length w) (xs.length * w)).toList = (packL xs w).map byteV := by
  simp only [rowC, packL, List.map_map]
  apply List.map_congr_left
  intro j _
  have := stB_lt (bitA xs w) (xs.length * w) j
  exact byteV_of this

/-! ### words of the program -/
theorem bit_prog {x k : Nat} (hx : x < 18446744073709551616) (hk : k < 64) : IntKind.u8.wrap (IntKind.u64.wrap (((BitVec.ofInt 64 (Int.fdiv (x : Int) (2 ^ (min k 64))) &&& BitVec.ofInt 64 1).toNat : Int))) = ((x.testBit k).toNat : Int) := by
  rw [show min k 64 = k by omega, fdiv_pow]
  have hle : x / 2 ^ k ≤ x := Nat.div_le_self _ _
  have e : (BitVec.ofInt 64 ((x / 2 ^ k : Nat) : Int) &&& BitVec.ofInt 64 1).toNat = x / 2 ^ k % 2 := by
    rw [BitVec.toNat_and, BitVec.ofInt_natCast, BitVec.toNat_ofNat, Nat.mod_eq_of_lt (by omega)]
    exact Nat.and_two_pow_sub_one_eq_mod _ 1
  rw [e]
  have hm : x / 2 ^ k % 2 < 2 := Nat.mod_lt _ (by omega)
  rw [Nat.testBit_eq_decide_div_mod_eq]
  generalize x / 2 ^ k % 2 = y at hm
  rw [wrap_u64_id (by omega) (by omega), wrap_u8_id (by omega) (by omega)]
  rcases (by omega : y = 0 ∨ y = 1) with rfl | rfl <;> rfl
theorem and7 {t : Nat} (ht : t < 9223372036854775808) : IntKind.i64.wrap (((BitVec.ofInt 64 (t : Int) &&& BitVec.ofInt 64 7).toNat : Int)) = ((t % 8 : Nat) : Int) := by
  have e : (BitVec.ofInt 64 (t : Int) &&& BitVec.ofInt 64 7).toNat = t % 8 := by
    rw [BitVec.toNat_and, BitVec.ofInt_natCast, BitVec.toNat_ofNat, Nat.mod_eq_of_lt (by omega)]
    exact Nat.and_two_pow_sub_one_eq_mod _ 3
  rw [e, wrap_i64 (by omega) (by omega)]
theorem or8 {a b : Nat} (ha : a < 256) (hb : b < 256) : IntKind.u8.wrap (((BitVec.ofInt 8 (a : Int) ||| BitVec.ofInt 8 (b : Int)).toNat : Int)) = ((a ||| b : Nat) : Int) := by
  have e : (BitVec.ofInt 8 (a : Int) ||| BitVec.ofInt 8 (b : Int)).toNat = a ||| b := by
    rw [BitVec.toNat_or, BitVec.ofInt_natCast, BitVec.ofInt_natCast, BitVec.toNat_ofNat, BitVec.toNat_ofNat, Nat.mod_eq_of_lt (by omega), Nat.mod_eq_of_lt (by omega)]
  have := (or_lt (w := 8)).2 ⟨ha, hb⟩
  rw [e, wrap_u8_id (by omega) (by omega)]
theorem shl_bit {b : Bool} {s : Nat} (hs : s < 8) : IntKind.u8.wrap ((b.toNat : Int) * 2 ^ (min s 8)) = ((b.toNat * 2 ^ s : Nat) : Int) := by
  have hp : 2 ^ s < 2 ^ 8 := Nat.pow_lt_pow_right (by omega) hs
  rw [show min s 8 = s by omega]
  have e : ((b.toNat : Int) * 2 ^ s) = ((b.toNat * 2 ^ s : Nat) : Int) := by norm_cast
  rw [e]
  cases b
  · simp; decide
  · simp only [Bool.toNat_true, Nat.one_mul]
    generalize 2 ^ s = y at hp
    rw [wrap_u8_id (by omega) (by omega)]
theorem stB_step (f : Nat → Bool) (t : Nat) : stB f t (t / 8) ||| (f t).toNat * 2 ^ (t % 8) = stB f (t + 1) (t / 8) := by
  conv => rhs; unfold stB
  cases h : f t
  · simp
  · simp

/-! ### the iterator -/
theorem pack_places_ok (w : World) (n wd : Int) : Calls Try.prog f.pack_places #[.int .i64 n, .int .i64 wd] w (Ret fun v w' => ∃ b1 b2, v = .func (.func f.pack_places_c1) #[] #[.pointer (some ⟨b1, 0, none⟩), .pointer (some ⟨b2, 0, none⟩)] ∧ SH (fun _ => False) w w' [(b2, #[.int .i64 wd], ty.int), (b1, #[.int .i64 n], ty.int)]) := by
  apply R.pack_places_calls
  unfold R.pack_places
  exact (SH.start (fun _ => False) w).newB fun b1 w1 _ _ S1 => S1.newB fun b2 w2 _ _ S2 => ⟨b1, b2, rfl, S2⟩
theorem places_ok {n wd l b1 b2 : Nat} (hn : n ≤ 4096) (hw : wd ≤ 64) (J : Nat → World → Prop)
    (hcell : ∀ t w, J t w → w.cell? ⟨b1, 0, none⟩ = some (.int .i64 (n : Int)) ∧ w.cell? ⟨b2, 0, none⟩ = some (.int .i64 (wd : Int))) (hdrew : ∀ t w, J t w → J t w.drew)
    (hstep : ∀ t, t < n * wd → ∀ w, J t w → YLD Try.prog l #[.int .i64 ((t / wd : Nat) : Int), .int .i64 ((t % wd : Nat) : Int)] (fun y w' => y = true ∧ J (t + 1) w') w)
    {w : World} (h0 : J 0 w) : Calls Try.prog f.pack_places_c1 #[.func (.yield l) #[] #[], .pointer (some ⟨b1, 0, none⟩), .pointer (some ⟨b2, 0, none⟩)] w (Ret fun _ w' => J (n * wd) w') := by
  have hm : n * wd ≤ 4096 * 64 := Nat.mul_le_mul hn hw
  apply R.pack_places_c1_calls
  unfold R.pack_places_c1
  refine ⟨fun s w1 => ∃ t : Nat, t ≤ n * wd ∧ s = [.int .i64 (t : Int)] ∧ J t w1, fun s _ => match s with
      | [.int _ i] => n * wd - i.toNat
      | _ => 0, ⟨0, by omega, rfl, h0⟩, ?_⟩
  rintro _ w1 ⟨t, ht, hs, hj⟩
  cases hs
  obtain ⟨c1, c2⟩ := hcell t w1 hj
  refine ⟨_, c1, _, c2, ?_⟩
  have em : IntKind.i64.wrap ((n : Int) * (wd : Int)) = ((n * wd : Nat) : Int) := by rw [← Int.natCast_mul, wrap_i64 (by omega) (by omega)]
  rw [em]
  refine IFB_dec (fun hlt => ?_) (fun hge => ?_)
  · have hlt' : t < n * wd := by omega
    have hw0 : wd ≠ 0 := by rintro rfl; simp at hlt'
    have hj2 := hdrew t w1 hj
    obtain ⟨d1, d2⟩ := hcell t _ hj2
    refine ⟨_, d2, by omega, _, d2, by omega, ?_⟩
    have e1 : IntKind.i64.wrap (Int.tdiv (t : Int) (wd : Int)) = ((t / wd : Nat) : Int) := by
      have hle : t / wd ≤ t := Nat.div_le_self _ _
      have : Int.tdiv (t : Int) (wd : Int) = ((t / wd : Nat) : Int) := by rw [Int.tdiv_eq_ediv_of_nonneg (by omega)]; norm_cast
      rw [this]
      generalize t / wd = q at hle
      rw [wrap_i64 (by omega) (by omega)]
    have e2 : Int.tmod (t : Int) (wd : Int) = ((t % wd : Nat) : Int) := by rw [Int.tmod_eq_emod_of_nonneg (by omega)]; norm_cast
    rw [e1, e2]
    obtain ⟨fn, tm, asg, bo, hy, hr⟩ := hstep t hlt' _ hj2
    refine ⟨fn, tm, asg, bo, hy, hr.mono ?_⟩
    rintro e w3 ⟨y, he, rfl, hj3⟩
    refine ⟨true, he, IFB_false ?_⟩
    rw [wrap_succ (by omega)]
    refine ⟨⟨t + 1, by omega, rfl, hj3⟩, ?_⟩
    simp only [Int.toNat_natCast]
    omega
  · have : t = n * wd := by omega
    rw [this] at hj
    exact hj
end Go.Proofs.Ytmilfgmkcmcicaa
