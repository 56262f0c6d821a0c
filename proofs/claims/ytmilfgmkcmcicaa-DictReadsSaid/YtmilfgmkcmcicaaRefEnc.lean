/-
  The document's list: which may be; a text's place among rising ones.
-/
import Derived.Test.YtmilfgmkcmcicaaEnc2
import Derived.Sort.Walk0
namespace Go.Proofs.Ytmilfgmkcmcicaa
open Go.Dn Go.Proofs
open Go.RowKit (Below)
set_option linter.unusedVariables false
set_option maxRecDepth 20000

theorem bytesLt_bl (a b : ByteArray) : bytesLt a b = decide (bl a < bl b) := by
  unfold bytesLt
  rw [ByteArray.toList_eq, ByteArray.toList_eq, bytesLess_eq]
  rfl
section
variable {w : World} {a : Option Addr} {c : Nat} {ls : List ByteArray}
theorem ref_Right_ok (hl : Rd w a (ls.map Value.string)) (hn : ls.length ≤ 9223372036854775807) : Calls Try.prog f.ref07_Right #[.slice a ls.length c] w (Ret fun v w' => w' = w ∧ v = .bool (decide (ls.length ≤ 4096 ∧ longB ls = false))) := by
  apply R.ref07_Right_calls
  unfold R.ref07_Right
  refine ⟨fun s w1 => w1 = w ∧ ∃ k : Nat, k ≤ ls.length ∧ s = [.int .i64 (k : Int)] ∧ longB (ls.take k) = false, fun s _ => match s with
      | [.int _ i] => ls.length - i.toNat
      | _ => 0, ⟨rfl, 0, by omega, rfl, rfl⟩, ?_⟩
  rintro _ w1 ⟨rfl, k, hk, hs, hlo⟩
  cases hs
  refine IFB_dec (fun hlt => ⟨⟨by omega, hlt⟩, ?_⟩) (fun hge => ?_)
  · have hkl : k < ls.length := by omega
    obtain ⟨p, rfl, hc⟩ := str_at hl hkl
    refine ⟨_, by rw [Int.toNat_natCast]; exact hc, IFB_dec (fun h => ⟨rfl, ?_⟩) (fun h => ?_)⟩
    · have : longB ls = true := List.any_eq_true.2 ⟨ls[k], List.getElem_mem hkl, by simp; omega⟩
      rw [this]
      simp
    · rw [wrap_succ (by omega)]
      refine ⟨⟨rfl, k + 1, by omega, rfl, ?_⟩, ?_⟩
      · unfold longB at hlo ⊢
        rw [List.take_succ_eq_append_getElem hkl, List.any_append, hlo]
        simp
        omega
      · simp only [Int.toNat_natCast]
        omega
  · have hkk : ls.take k = ls := List.take_of_length_le (by omega)
    rw [hkk] at hlo
    refine ⟨rfl, ?_⟩
    rw [hlo]
    congr 1
    rw [Bool.eq_iff_iff]
    simp
    omega
end
/-- where a text stands, or would stand, among rising ones -/
structure PlaceIs (t : List (List UInt8)) (x : List UInt8) (lo : Nat) : Prop where
  le : lo ≤ t.length
  below : ∀ y ∈ t.take lo, y < x
  above : ∀ y ∈ t.drop lo, ¬ y < x
theorem up_get {t : List (List UInt8)} (h : t.Pairwise (· < ·)) {i j : Nat} (hij : i < j) (hj : j < t.length) : t[i] < t[j] := List.pairwise_iff_getElem.1 h i j (by omega) hj hij
section
variable {w : World} {a : Option Addr} {c : Nat} {t : List (List UInt8)}
theorem ref_place_ok (hl : Rd w a ((t.map sof).map Value.string)) (hn : t.length ≤ 140737488355328) (hup : t.Pairwise (· < ·)) (s : ByteArray) :
    Calls Try.prog f.ref07_place #[.slice a t.length c, .string s] w (Ret fun v w' => ∃ lo : Nat, v = .tuple #[.int .i64 (lo : Int), .bool (decide (t[lo]? = some (bl s)))] ∧ PlaceIs t (bl s) lo ∧ Below w.heap.size w w') := by
  have hlT : (t.map sof).length = t.length := by simp
  apply R.ref07_place_calls
  unfold R.ref07_place
  refine ⟨fun st w1 => w1 = w ∧ ∃ lo hi : Nat, st = [.int .i64 (lo : Int), .int .i64 (hi : Int)] ∧ lo ≤ hi ∧ hi ≤ t.length ∧ (∀ j, (hj : j < t.length) → j < lo → t[j] < bl s) ∧ (∀ j, (hj : j < t.length) → hi ≤ j → ¬ t[j] < bl s), fun st _ => match st with
      | [.int _ i, .int _ j] => j.toNat - i.toNat
      | _ => 0, ⟨rfl, 0, t.length, rfl, by omega, by omega, fun j hj h => by omega, fun j hj h => by omega⟩, ?_⟩
  rintro _ _ w1 ⟨rfl, lo, hi, hs, h1, h2, h3, h4⟩
  cases hs
  refine IFB_dec (fun hlt => ?_) (fun hge => ?_)
  · have em : IntKind.i64.wrap (Int.tdiv (IntKind.i64.wrap ((lo : Int) + (hi : Int))) 2) = (((lo + hi) / 2 : Nat) : Int) := by
      rw [wrap_i64 (n := (lo : Int) + (hi : Int)) (by omega) (by omega), Int.tdiv_eq_ediv_of_nonneg (by omega), wrap_i64 (by omega) (by omega)]
      omega
    rw [em]
    have hmid : (lo + hi) / 2 < t.length := by omega
    obtain ⟨p, hp, hc⟩ := str_at hl (by rw [hlT]; exact hmid)
    subst hp
    rw [List.getElem_map] at hc
    refine ⟨⟨by omega, by omega⟩, _, by rw [Int.toNat_natCast]; exact hc, ?_⟩
    rw [bytesLt_bl, bl_sof]
    refine IFB_dec (fun hless => ?_) (fun hno => ?_)
    · rw [wrap_succ (by omega)]
      refine ⟨⟨rfl, (lo + hi) / 2 + 1, hi, rfl, by omega, h2, fun j hj h => ?_, h4⟩, ?_⟩
      · rcases Nat.lt_or_ge j ((lo + hi) / 2) with hh | hh
        · exact List.lt_trans (up_get hup hh hmid) hless
        · have : j = (lo + hi) / 2 := by omega
          subst this
          exact hless
      · simp only [Int.toNat_natCast]
        omega
    · refine ⟨⟨rfl, lo, (lo + hi) / 2, rfl, by omega, by omega, h3, fun j hj h => ?_⟩, ?_⟩
      · intro hjs
        rcases Nat.lt_or_ge ((lo + hi) / 2) j with hh | hh
        · exact hno (List.lt_trans (up_get hup hh hj) hjs)
        · have : j = (lo + hi) / 2 := by omega
          subst this
          exact hno hjs
      · simp only [Int.toNat_natCast]
        omega
  · have : lo = hi := by omega
    subst this
    have hP : PlaceIs t (bl s) lo := by
      refine ⟨h2, fun y hy => ?_, fun y hy => ?_⟩
      · obtain ⟨j, hj, rfl⟩ := List.mem_iff_getElem.1 hy
        rw [List.length_take] at hj
        rw [List.getElem_take]
        exact h3 j (by omega) (by omega)
      · obtain ⟨j, hj, rfl⟩ := List.mem_iff_getElem.1 hy
        rw [List.length_drop] at hj
        rw [List.getElem_drop]
        exact h4 _ (by omega) (by omega)
    have Bd : Below w1.heap.size w1 w1.drew := (Below.refl _ w1).drew
    unfold DRAW
    refine IFB_dec (fun hlt => ?_) (fun hge2 => ?_)
    · have hlo : lo < t.length := by omega
      obtain ⟨p, hp, hc⟩ := str_at (hl.grown Bd) (by rw [hlT]; exact hlo)
      subst hp
      rw [List.getElem_map] at hc
      refine ⟨⟨by omega, by omega⟩, _, by rw [Int.toNat_natCast]; exact hc, lo, ?_, hP, Bd⟩
      rw [bytesEq_iff, List.getElem?_eq_getElem hlo]
      congr 4
      congr 1
      rw [Bool.eq_iff_iff]
      simp only [decide_eq_true_eq, Option.some.injEq]
      constructor
      · intro h; rw [← h, bl_sof]
      · intro h; rw [h, sof_bl]
    · refine ⟨lo, ?_, hP, Bd⟩
      rw [List.getElem?_eq_none (by omega)]
      simp
end
end Go.Proofs.Ytmilfgmkcmcicaa
