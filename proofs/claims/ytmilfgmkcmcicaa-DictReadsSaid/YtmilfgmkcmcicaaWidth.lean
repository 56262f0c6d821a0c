/-
  Sizes and widths of lists of numbers: both sides.
-/
import Derived.Test.YtmilfgmkcmcicaaLen
namespace Go.Proofs.Ytmilfgmkcmcicaa
open Go.Dn Go.Proofs
open Go.RowKit (Below)
set_option linter.unusedVariables false
set_option maxRecDepth 20000

def u64V (x : Nat) : Value := .int .u64 (x : Int)
def orL (xs : List Nat) : Nat := xs.foldl (· ||| ·) 0
theorem or_lt {a b w : Nat} : a ||| b < 2 ^ w ↔ a < 2 ^ w ∧ b < 2 ^ w :=
  ⟨fun h => ⟨Nat.lt_of_le_of_lt Nat.left_le_or h, Nat.lt_of_le_of_lt Nat.right_le_or h⟩, fun h => Nat.or_lt_two_pow h.1 h.2⟩
theorem foldl_or (xs : List Nat) (a w : Nat) : xs.foldl (· ||| ·) a < 2 ^ w ↔ a < 2 ^ w ∧ ∀ x ∈ xs, x < 2 ^ w := by
  induction xs generalizing a with
  | nil => simp
  | cons x xs ih => rw [List.foldl_cons, ih, or_lt]; simp [and_assoc]
theorem orL_lt (xs : List Nat) (w : Nat) : orL xs < 2 ^ w ↔ ∀ x ∈ xs, x < 2 ^ w := by
  unfold orL
  rw [foldl_or]
  simp [Nat.two_pow_pos]
theorem orL_take {xs : List Nat} {k : Nat} (hk : k < xs.length) : orL (xs.take (k + 1)) = orL (xs.take k) ||| xs[k] := by
  unfold orL
  rw [List.take_succ_eq_append_getElem hk, List.foldl_append]
  rfl
theorem or64 {a b : Nat} (ha : a < 18446744073709551616) (hb : b < 18446744073709551616) : IntKind.u64.wrap (((BitVec.ofInt 64 (a : Int) ||| BitVec.ofInt 64 (b : Int)).toNat : Int)) = ((a ||| b : Nat) : Int) := by
  have e : (BitVec.ofInt 64 (a : Int) ||| BitVec.ofInt 64 (b : Int)).toNat = a ||| b := by
    rw [BitVec.toNat_or, BitVec.ofInt_natCast, BitVec.ofInt_natCast, BitVec.toNat_ofNat, BitVec.toNat_ofNat, Nat.mod_eq_of_lt (by omega), Nat.mod_eq_of_lt (by omega)]
  have := (or_lt (w := 64)).2 ⟨ha, hb⟩
  rw [e, wrap_u64_id (by omega) (by omega)]
theorem num_at {w : World} {a : Option Addr} {xs : List Nat} (hl : Rd w a (xs.map u64V)) {i : Nat} (hi : i < xs.length) : ∃ p, a = some p ∧ w.cell? (p.add (i * 1)) = some (.int .u64 (xs[i] : Int)) := by
  obtain ⟨p, hp, hc⟩ := hl i (u64V xs[i]) (by simp [hi])
  exact ⟨p, hp, by rw [Nat.mul_one]; exact hc⟩

section
variable {w : World} {a : Option Addr} {c : Nat} {xs : List Nat}
theorem pack_Width_ok (hl : Rd w a (xs.map u64V)) (hn : xs.length ≤ 140737488355328) (hx : ∀ x ∈ xs, x < 18446744073709551616) :
    Calls Try.prog f.pack_Width #[.slice a xs.length c] w (Ret fun v w' => ∃ r : Nat, v = .int .i64 (r : Int) ∧ IsLen (orL xs) r ∧ r ≤ 64 ∧ w' = w) := by
  apply R.pack_Width_calls
  unfold R.pack_Width
  refine ⟨fun s w1 => w1 = w ∧ ∃ k : Nat, k ≤ xs.length ∧ s = [.int .u64 (orL (xs.take k) : Int), .int .i64 (k : Int)], fun s _ => match s with
      | [_, .int _ i] => xs.length - i.toNat
      | _ => 0, ⟨rfl, 0, by omega, rfl⟩, ?_⟩
  rintro _ _ w1 ⟨rfl, k, hk, hs⟩
  cases hs
  have hall : orL (xs.take k) < 18446744073709551616 := (orL_lt (xs.take k) 64).2 fun x h => hx x (List.mem_of_mem_take h)
  refine IFB_dec (fun hlt => ⟨⟨by omega, hlt⟩, ?_⟩) (fun hge => ?_)
  · have hkl : k < xs.length := by omega
    obtain ⟨p, rfl, hc⟩ := num_at hl hkl
    refine ⟨_, by rw [Int.toNat_natCast]; exact hc, ?_⟩
    have hxk := hx _ (List.getElem_mem hkl)
    rw [or64 hall hxk, wrap_succ (by omega), ← orL_take hkl]
    refine ⟨⟨rfl, k + 1, by omega, rfl⟩, ?_⟩
    simp only [Int.toNat_natCast]
    omega
  · have hkk : xs.take k = xs := List.take_of_length_le (by omega)
    rw [hkk] at hall ⊢
    refine (Len64_ok w1 (orL xs) hall).mono ?_
    rintro _ w2 ⟨_, rfl, r, rfl, h1, h2, rfl⟩
    exact ⟨_, rfl, r, rfl, h1, h2, rfl⟩
end

theorem pack_Size_ok (w : World) (n wd : Int) : Calls Try.prog f.pack_Size #[.int .i64 n, .int .i64 wd] w (Ret fun v w' => w' = w ∧ v = (if 0 ≤ n ∧ n ≤ 4096 ∧ 0 ≤ wd ∧ wd ≤ 64 then .tuple #[.int .i64 ((n * wd + 7) / 8), .int .i64 0] else .tuple #[.int .i64 0, .int .i64 2])) := by
  apply R.pack_Size_calls
  unfold R.pack_Size
  refine IFB_dec (fun h => ⟨rfl, by rw [if_neg (by omega)]⟩) (fun h1 => IFB_dec (fun h => ⟨rfl, by rw [if_neg (by omega)]⟩) (fun h2 => IFB_dec (fun h => ⟨rfl, by rw [if_neg (by omega)]⟩) (fun h3 => IFB_dec (fun h => ⟨rfl, by rw [if_neg (by omega)]⟩) (fun h4 => ⟨rfl, ?_⟩))))
  have hm : 0 ≤ n * wd := Int.mul_nonneg (by omega) (by omega)
  have hm2 : n * wd ≤ 4096 * 64 := Int.mul_le_mul (by omega) (by omega) (by omega) (by omega)
  rw [if_pos (by omega), wrap_i64 (n := n * wd) (by omega) (by omega), wrap_i64 (n := n * wd + 7) (by omega) (by omega), Int.tdiv_eq_ediv_of_nonneg (by omega), wrap_i64 (by omega) (by omega)]
theorem ref_Size_ok (w : World) (n wd : Int) : Calls Try.prog f.ref01_Size #[.int .i64 n, .int .i64 wd] w (Ret fun v w' => w' = w ∧ v = (if 0 ≤ n ∧ n ≤ 4096 ∧ 0 ≤ wd ∧ wd ≤ 64 then .tuple #[.int .i64 ((n * wd + 7) / 8), .int .i64 0] else .tuple #[.int .i64 0, .int .i64 2])) := by
  apply R.ref01_Size_calls
  unfold R.ref01_Size
  have hw : Calls Try.prog f.ref01_isWidth #[.int .i64 wd] w (Ret fun v w' => w' = w ∧ v = .bool (decide (0 ≤ wd ∧ wd ≤ 64))) := by
    apply R.ref01_isWidth_calls
    unfold R.ref01_isWidth
    refine IFB_dec (fun h => ⟨rfl, ?_⟩) (fun h => ⟨rfl, ?_⟩)
    · congr 1
      simp
      omega
    · congr 1
      simp
      omega
  refine hw.mono ?_
  rintro _ w1 ⟨_, rfl, rfl, rfl⟩
  refine ⟨_, rfl, IFB_not (IFB_dec (fun h0 => ?_) (fun h => ⟨rfl, by rw [if_neg (by omega)]⟩))⟩
  refine IFB_dec (fun h => ⟨rfl, by rw [if_neg (by omega)]⟩) (fun h1 => IFB_dec (fun h => ⟨rfl, by rw [if_neg (by omega)]⟩) (fun h2 => ⟨rfl, ?_⟩))
  have hm : 0 ≤ n * wd := Int.mul_nonneg (by omega) (by omega)
  have hm2 : n * wd ≤ 4096 * 64 := Int.mul_le_mul (by omega) (by omega) (by omega) (by omega)
  rw [if_pos (by omega), wrap_i64 (n := n * wd) (by omega) (by omega), wrap_i64 (n := n * wd + 7) (by omega) (by omega), Int.tdiv_eq_ediv_of_nonneg (by omega), wrap_i64 (by omega) (by omega)]

theorem ref_Of_ok (w : World) (x wd : Nat) (hx : x < 18446744073709551616) (hw : wd ≤ 64) : Calls Try.prog f.ref01_Of #[.int .u64 (x : Int), .int .i64 (wd : Int)] w (Ret fun v w' => w' = w ∧ v = .bool (decide (x < 2 ^ wd))) := by
  apply R.ref01_Of_calls
  unfold R.ref01_Of
  refine ⟨fun s w1 => w1 = w ∧ ∃ k : Nat, k ≤ wd ∧ s = [.int .u64 ((x / 2 ^ k : Nat) : Int), .int .i64 (k : Int)], fun s _ => match s with
      | [_, .int _ i] => wd - i.toNat
      | _ => 0, ⟨rfl, 0, by omega, by simp⟩, ?_⟩
  rintro _ _ w1 ⟨rfl, k, hk, hs⟩
  cases hs
  have hle : x / 2 ^ k ≤ x := Nat.div_le_self _ _
  refine IFB_dec (fun hlt => ?_) (fun hge => ⟨rfl, ?_⟩)
  · have e : IntKind.u64.wrap (Int.tdiv ((x / 2 ^ k : Nat) : Int) 2) = ((x / 2 ^ k / 2 : Nat) : Int) := by
      generalize x / 2 ^ k = y at hle
      rw [Int.tdiv_eq_ediv_of_nonneg (by omega), wrap_u64_id (by omega) (by omega)]
      omega
    rw [e, wrap_succ (by omega)]
    refine ⟨⟨rfl, k + 1, by omega, ?_⟩, ?_⟩
    · rw [Nat.pow_succ, ← Nat.div_div_eq_div_mul]
    · simp only [Int.toNat_natCast]
      omega
  · have : k = wd := by omega
    subst this
    congr 1
    rw [Bool.eq_iff_iff]
    simp only [beq_iff_eq, decide_eq_true_eq]
    have hp : 0 < 2 ^ k := Nat.two_pow_pos k
    constructor
    · intro h
      have h0 : x / 2 ^ k = 0 := by omega
      exact (Nat.div_eq_zero_iff_lt hp).1 h0
    · intro h
      have h0 := (Nat.div_eq_zero_iff_lt hp).2 h
      omega

section
variable {w : World} {a : Option Addr} {c : Nat} {xs : List Nat}
theorem ref_Width_ok (hl : Rd w a (xs.map u64V)) (hn : xs.length ≤ 140737488355328) (hx : ∀ x ∈ xs, x < 18446744073709551616) :
    Calls Try.prog f.ref01_Width #[.slice a xs.length c] w (Ret fun v w' => ∃ r : Nat, v = .int .i64 (r : Int) ∧ IsLen (orL xs) r ∧ r ≤ 64 ∧ w' = w) := by
  apply R.ref01_Width_calls
  unfold R.ref01_Width
  refine ⟨fun s w1 => w1 = w ∧ ∃ k r : Nat, k ≤ xs.length ∧ r ≤ 64 ∧ IsLen (orL (xs.take k)) r ∧ s = [.int .i64 (r : Int), .int .i64 (k : Int)], fun s _ => match s with
      | [_, .int _ i] => xs.length - i.toNat
      | _ => 0, ⟨rfl, 0, 0, by omega, by omega, ⟨by simp [orL], .inl rfl⟩, rfl⟩, ?_⟩
  rintro _ _ w1 ⟨rfl, k, r, hk, hr, hlen, hs⟩
  cases hs
  refine IFB_dec (fun hlt => ⟨⟨by omega, hlt⟩, ?_⟩) (fun hge => ?_)
  · have hkl : k < xs.length := by omega
    have hxk := hx _ (List.getElem_mem hkl)
    obtain ⟨p, rfl, hc⟩ := num_at hl hkl
    refine ⟨_, by rw [Int.toNat_natCast]; exact hc, (ref_Of_ok w1 xs[k] r hxk hr).mono ?_⟩
    rintro _ w2 ⟨_, rfl, rfl, rfl⟩
    refine ⟨_, rfl, ?_⟩
    refine ⟨fun s w3 => w3 = w2 ∧ ∃ q : Nat, r ≤ q ∧ q ≤ 64 ∧ (q = r ∨ ¬ xs[k] < 2 ^ (q - 1)) ∧ s = [.int .i64 (q : Int), .bool (decide (xs[k] < 2 ^ q))], fun s _ => match s with
        | [.int _ i, _] => 64 - i.toNat
        | _ => 0, ⟨rfl, r, by omega, by omega, .inl rfl, rfl⟩, ?_⟩
    rintro _ _ w3 ⟨rfl, q, hq1, hq2, hq3, hs⟩
    cases hs
    refine IFB_not (IFB_dec (fun hok => ?_) (fun hno => ⟨⟨by omega, hlt⟩, _, by rw [Int.toNat_natCast]; exact hc, ?_⟩))
    · rw [wrap_succ (by omega)]
      refine ⟨⟨rfl, k + 1, q, by omega, hq2, ?_, rfl⟩, ?_⟩
      · rw [orL_take hkl]
        refine IsLen.of_le fun wd => ?_
        rw [or_lt, ← hlen.le (w := wd)]
        constructor
        · intro h
          exact ⟨by omega, Nat.lt_of_lt_of_le hok (Nat.pow_le_pow_right (by omega) h)⟩
        · rintro ⟨h1, h2⟩
          rcases hq3 with h | h
          · omega
          · rcases Nat.lt_or_ge wd q with hlt2 | hge
            · exact absurd (Nat.lt_of_lt_of_le h2 (Nat.pow_le_pow_right (by omega) (by omega))) h
            · exact hge
      · simp only [Int.toNat_natCast]
        omega
    · have hq64 : q < 64 := by
        rcases Nat.lt_or_ge q 64 with h | h
        · exact h
        · have : q = 64 := by omega
          subst this
          exact absurd hxk hno
      rw [wrap_succ (by omega)]
      refine (ref_Of_ok w3 xs[k] (q + 1) hxk (by omega)).mono ?_
      rintro _ w4 ⟨_, rfl, rfl, rfl⟩
      refine ⟨_, rfl, ⟨rfl, q + 1, by omega, by omega, .inr hno, rfl⟩, ?_⟩
      simp only [Int.toNat_natCast]
      omega
  · have hkk : xs.take k = xs := List.take_of_length_le (by omega)
    rw [hkk] at hlen
    exact ⟨r, rfl, hlen, hr, rfl⟩
end
end Go.Proofs.Ytmilfgmkcmcicaa
