/-
  Texts of this claim, laid one behind the other by a program of mine (install.py): E.IntsB, Dn.Open, E.Val, E.ValB, E.ValA, E.RefEnc, E.RefEnc2, E.RefEnc3, Dn.Fin, Dn.Fin2, E.Best, Dn.Crc, E.Sum, E.Ch1, E.Ch2, E.Ch3, E.Sum2.
-/
import Derived.Test.YtbkffpcgppecgaaGreatM4
import Derived.Test.YtbkffpcgppecgaaGreatM3
import Derived.ChangeArms
import Derived.Deep.Slices
import Derived.OpenShut
import GoSem.Claim
import Derived.Handed
import Derived.SizedLaws
import Derived.HandedShaped
import Derived.LaidSub
import Derived.Lib.LaidTab
import Derived.Shelf.Vars
import Derived.MakeChecks
/-
  The best form of a list of numbers: both sides.
-/
namespace Go.Proofs.YtbkffpcgppecgaaGreat
open Go.Dn Go.Proofs
open Go.RowKit (Below)
set_option linter.unusedVariables false
set_option maxRecDepth 20000
def bestTo (s : Nat → Nat) : Nat → Nat
  | 0 => 0
  | f + 1 => if f = 0 then 0 else if s f < s (bestTo s f) then f else bestTo s f
def sizeI (l : List Int) (f : Nat) : Nat := (intsL f l).length
def bestN (l : List Int) : Nat := bestTo (sizeI l) 4
theorem bestTo_spec (s : Nat → Nat) : ∀ f, 0 < f → bestTo s f < f ∧ (∀ j, j < f → s (bestTo s f) ≤ s j) ∧ (∀ j, j < bestTo s f → s (bestTo s f) < s j)
  | 0, h => by omega
  | f + 1, _ => by
    by_cases h0 : f = 0
    · subst h0
      have e : bestTo s (0 + 1) = 0 := by simp [bestTo]
      rw [e]
      refine ⟨by omega, fun j hj => ?_, fun j hj => by omega⟩
      have : j = 0 := by omega
      subst this
      exact Nat.le_refl _
    · obtain ⟨h1, h2, h3⟩ := bestTo_spec s f (by omega)
      by_cases hs : s f < s (bestTo s f)
      · have e : bestTo s (f + 1) = f := by simp only [bestTo]; rw [if_neg h0, if_pos hs]
        rw [e]
        refine ⟨by omega, fun j hj => ?_, fun j hj => ?_⟩
        · rcases Nat.lt_or_ge j f with h | h
          · have := h2 j h; omega
          · have : j = f := by omega
            subst this; exact Nat.le_refl _
        · have := h2 j hj; omega
      · have e : bestTo s (f + 1) = bestTo s f := by simp only [bestTo]; rw [if_neg h0, if_neg hs]
        rw [e]
        refine ⟨by omega, fun j hj => ?_, h3⟩
        rcases Nat.lt_or_ge j f with h | h
        · exact h2 j h
        · have : j = f := by omega
          subst this; omega
theorem bestN_le (l : List Int) : bestN l ≤ 3 := by
  have := (bestTo_spec (sizeI l) 4 (by omega)).1
  unfold bestN
  omega
theorem ints_ok {f : Nat} {l : List Int} (hf : f ≤ 3) (hn : l.length ≤ 4096) : intsOk (f : Int) l := ⟨by omega, by omega, by omega⟩
section
variable {w : World} {a : Option Addr} {c : Nat} {l : List Int}
theorem IntsV.good {f : Nat} {w' : World} {r : Value} (hf : f ≤ 3) (hn : l.length ≤ 4096) (h : IntsV (f : Int) l w w' r) : ∃ a c, r = .tuple #[.slice a (sizeI l f) c, .int .i64 0] ∧ NewB w w' (intsL f l) a c := by
  rcases h with ⟨h, _⟩ | ⟨_, a, c, rfl, h⟩
  · exact absurd (ints_ok hf hn) h
  · rw [Int.toNat_natCast] at h ⊢
    exact ⟨a, c, rfl, h⟩
theorem ref_ints_Best_ok (hl : Rd w a (l.map i64V)) (hn : l.length ≤ 4096) (hx : ∀ x ∈ l, I64 x) :
    Calls Tryz.prog f.ref06_Best #[.slice a l.length c] w (Ret fun v w' => v = .tuple #[.int .i64 (bestN l : Int), .int .i64 0] ∧ Below w.heap.size w w') := by
  apply R.ref06_Best_calls
  unfold R.ref06_Best
  refine IFB_dec (fun h => by omega) (fun _ => ?_)
  refine ⟨fun s w1 => ∃ f : Nat, f ≤ 4 ∧ s = [.int .i64 (bestTo (sizeI l) f : Int), .int .i64 ((if f = 0 then 0 else sizeI l (bestTo (sizeI l) f) : Nat) : Int), .int .i64 (f : Int)] ∧ Below w.heap.size w w1, fun s _ => match s with
      | [_, _, .int _ i] => 4 - i.toNat
      | _ => 0, ⟨0, by omega, rfl, .refl _ _⟩, ?_⟩
  rintro _ _ _ w1 ⟨f, hf, hst, B1⟩
  cases hst
  refine IFB_dec (fun hlt => ?_) (fun hge => ?_)
  · refine (ref_ints_Encode_ok (f : Int) (hl.grown B1) hx).mono ?_
    rintro _ w2 ⟨_, rfl, h2⟩
    obtain ⟨a2, c2, rfl, h2'⟩ := h2.good (by omega) hn
    clear h2
    have h2 := h2'
    have C2 := below_trans B1 h2.bel
    refine ⟨_, _, _, _, rfl, ?_⟩
    rw [wrap_succ (by omega)]
    refine IFB_eq (fun h0 => ?_) (fun hne => IFB_dec (fun hs => ?_) (fun hs => ?_))
    · have : f = 0 := by omega
      subst this
      exact ⟨⟨1, by omega, by simp [bestTo], C2⟩, by simp⟩
    · have hf0 : f ≠ 0 := by omega
      rw [if_neg hf0] at hs
      refine ⟨⟨f + 1, by omega, ?_, C2⟩, by simp only [Int.toNat_natCast]; omega⟩
      have e : bestTo (sizeI l) (f + 1) = f := by simp only [bestTo]; rw [if_neg hf0, if_pos (by omega)]
      rw [e, if_neg (by omega)]
    · have hf0 : f ≠ 0 := by omega
      rw [if_neg hf0] at hs
      refine ⟨⟨f + 1, by omega, ?_, C2⟩, by simp only [Int.toNat_natCast]; omega⟩
      have e : bestTo (sizeI l) (f + 1) = bestTo (sizeI l) f := by simp only [bestTo]; rw [if_neg hf0, if_neg (by omega)]
      simp [e, hf0]
  · have : f = 4 := by omega
    subst this
    exact ⟨rfl, B1⟩
theorem slices_MinI_ok (hl : Rd w a (l.map i64V)) (h0 : 0 < l.length) (hn : l.length ≤ 1000000) :
    Calls Tryz.prog f.slices_Min_int_int #[.slice a l.length c] w (Ret fun v w' => w' = w ∧ v = .int .i64 (minL l)) := by
  apply R.slices_Min_int_int_calls
  unfold R.slices_Min_int_int
  obtain ⟨p, rfl, hcell⟩ := int_head hl h0
  refine IFB_dec (fun h => by omega) (fun _ => ⟨⟨by omega, by omega⟩, _, hcell, ?_⟩)
  refine ⟨fun s w1 => w1 = w ∧ ∃ i : Nat, i ≤ l.length ∧ s = [.int .i64 (minTo l i), .int .i64 (i : Int)], fun s _ => match s with
      | [_, .int _ i] => l.length - i.toNat
      | _ => 0, ⟨rfl, 1, by omega, by rw [minTo_one h0]; rfl⟩, ?_⟩
  rintro _ _ w1 ⟨rfl, i, hi, hst⟩
  cases hst
  refine IFB_dec (fun hlt => ⟨⟨by omega, hlt⟩, ?_⟩) (fun hge => ⟨rfl, ?_⟩)
  · have hil : i < l.length := by omega
    obtain ⟨p', hp', hc⟩ := int_at hl hil
    cases hp'
    refine ⟨_, by rw [Int.toNat_natCast]; exact hc, ?_⟩
    rw [wrap_succ (by omega), ← minTo_succ hil]
    refine ⟨⟨rfl, i + 1, by omega, rfl⟩, ?_⟩
    simp only [Int.toNat_natCast]
    omega
  · have : i = l.length := by omega
    subst this
    rfl
theorem slices_Index_ok (x : Int) (hl : Rd w a (l.map i64V)) (hn : l.length ≤ 1000000) :
    Calls Tryz.prog f.slices_Index_int_int #[.slice a l.length c, .int .i64 x] w (Ret fun v w' => w' = w ∧ ∃ i : Int, v = .int .i64 i ∧ ((i = -1 ∧ x ∉ l) ∨ ∃ k : Nat, i = k ∧ l[k]? = some x ∧ ∀ j, j < k → l[j]? ≠ some x)) := by
  apply R.slices_Index_int_int_calls
  unfold R.slices_Index_int_int
  refine ⟨fun s w1 => w1 = w ∧ ∃ i : Nat, i ≤ l.length ∧ s = [.int .i64 (i : Int)] ∧ ∀ j, j < i → l[j]? ≠ some x, fun s _ => match s with
      | [.int _ i] => l.length - i.toNat
      | _ => 0, ⟨rfl, 0, by omega, rfl, by omega⟩, ?_⟩
  rintro _ w1 ⟨rfl, i, hi, hst, hall⟩
  cases hst
  refine IFB_dec (fun hlt => ⟨⟨by omega, hlt⟩, ?_⟩) (fun hge => ⟨rfl, _, rfl, .inl ⟨rfl, fun hx => ?_⟩⟩)
  · have hil : i < l.length := by omega
    obtain ⟨p, rfl, hc⟩ := int_at hl hil
    refine ⟨_, by rw [Int.toNat_natCast]; exact hc, IFB_eq (fun he => ⟨rfl, _, rfl, .inr ⟨i, rfl, ?_, hall⟩⟩) (fun hne => ?_)⟩
    · rw [List.getElem?_eq_getElem hil, he]
    · rw [wrap_succ (by omega)]
      refine ⟨⟨rfl, i + 1, by omega, rfl, fun j hj => ?_⟩, ?_⟩
      · rcases Nat.lt_or_ge j i with h | h
        · exact hall j h
        · have : j = i := by omega
          subst this
          rw [List.getElem?_eq_getElem hil]
          simpa using fun h => hne h.symm
      · simp only [Int.toNat_natCast]
        omega
  · obtain ⟨k, hk⟩ := List.mem_iff_getElem?.1 hx
    have hkl := (List.getElem?_eq_some_iff.1 hk).1
    exact hall k (by omega) hk
theorem tI : slT Tryz.prog ty.L_int = some (ty.int, 1, 8, .int .i64 0) := by kernel_rfl
theorem least_plain (s : Nat → Nat) {k : Nat} (h1 : [(s 0 : Int), s 1, s 2, s 3][k]? = some (minL [(s 0 : Int), s 1, s 2, s 3])) (h2 : ∀ j, j < k → [(s 0 : Int), s 1, s 2, s 3][j]? ≠ some (minL [(s 0 : Int), s 1, s 2, s 3])) : k = bestTo s 4 := by
  have hm : ∀ x ∈ [(s 0 : Int), s 1, s 2, s 3], minL [(s 0 : Int), s 1, s 2, s 3] ≤ x := fun x hx => minL_le hx
  obtain ⟨m, hmd⟩ : ∃ m, m = minL [(s 0 : Int), s 1, s 2, s 3] := ⟨_, rfl⟩
  rw [← hmd] at h1 h2 hm
  have m0 := hm (s 0) (by simp)
  have m1 := hm (s 1) (by simp)
  have m2 := hm (s 2) (by simp)
  have m3 := hm (s 3) (by simp)
  have hk : k < 4 := by
    have := (List.getElem?_eq_some_iff.1 h1).1
    simpa using this
  obtain ⟨q1, q2, q3⟩ := bestTo_spec s 4 (by omega)
  have get : ∀ j, j < 4 → [(s 0 : Int), s 1, s 2, s 3][j]? = some ((s j : Nat) : Int) := by
    intro j hj
    rcases (by omega : j = 0 ∨ j = 1 ∨ j = 2 ∨ j = 3) with rfl | rfl | rfl | rfl <;> rfl
  have mk : m = s k := by have := get k hk; rw [h1] at this; exact Option.some.inj this
  rcases Nat.lt_trichotomy k (bestTo s 4) with h | h | h
  · have := q3 k h
    have : m ≤ s (bestTo s 4) := by
      rcases (by omega : bestTo s 4 = 0 ∨ bestTo s 4 = 1 ∨ bestTo s 4 = 2 ∨ bestTo s 4 = 3) with e | e | e | e <;> rw [e] <;> assumption
    omega
  · exact h
  · exfalso
    have := q2 k hk
    apply h2 _ h
    rw [get _ q1]
    have : m ≤ s (bestTo s 4) := by
      rcases (by omega : bestTo s 4 = 0 ∨ bestTo s 4 = 1 ∨ bestTo s 4 = 2 ∨ bestTo s 4 = 3) with e | e | e | e <;> rw [e] <;> assumption
    congr 1
    omega
theorem ints_Best_ok (hl : Rd w a (l.map i64V)) (hc : l.length ≤ c) (hn : l.length ≤ 4096) (hx : ∀ x ∈ l, I64 x) :
    Calls Tryz.prog f.ints_Best #[.slice a l.length c] w (Ret fun v w' => v = .tuple #[.int .i64 (bestN l : Int), .int .i64 0] ∧ Below w.heap.size w w') := by
  apply R.ints_Best_calls
  unfold R.ints_Best
  let S : Nat → List Int := fun k => (List.range k).map fun f => ((sizeI l f : Nat) : Int)
  have hS : ∀ k, (S k).length = k := fun k => by simp [S]
  refine ⟨fun s w1 => ∃ (k : Nat) (a1 : Option Addr) (c1 : Nat), s = [.slice a1 k c1, .int .i64 (k : Int)] ∧ k ≤ 4 ∧ Row w1 ty.int 1 a1 k c1 ((S k).map i64V) ∧ (∀ x, rowB a1 = some x → w.heap.size ≤ x) ∧ Below w.heap.size w w1, fun s _ => match s with
      | [_, .int _ i] => 4 - i.toNat
      | _ => 0, ⟨0, none, 0, rfl, by omega, Row.nil _ _ _, by simp [rowB], .refl _ _⟩, ?_⟩
  rintro a1 k c1 _ w1 ⟨_, _, _, hst, hk, R1, N1, B1⟩
  cases hst
  refine IFB_dec (fun hlt => ?_) (fun hge => ?_)
  · refine (ints_Encode_ok (k : Int) (hl.grown B1) hc hx).mono ?_
    rintro _ w2 ⟨_, rfl, h2⟩
    obtain ⟨a2, c2, rfl, h2'⟩ := h2.good (by omega) hn
    clear h2
    have h2 := h2'
    refine ⟨_, _, _, _, rfl, IFB_ne (fun h => absurd rfl h) (fun _ => (SH.start (fun _ => False) w2).newB fun b3 w3 hb3 B3 S3 => ?_)⟩
    have hsrc : Rd w3 (some ⟨b3, 0, none⟩) [i64V (sizeI l k)] := by
      have := Rd.of_block0 (S3.get 0 rfl)
      simpa [i64V] using this
    have C3 := below_trans (below_trans B1 h2.bel) B3
    obtain ⟨a5, c5, w5, hrun, hrow, hk5, hnw⟩ := append_row (ty := ty.L_int) (mc := 1) tI rfl (by omega) (by omega) ((R1.grown h2.bel).grown B3) hsrc (m := 1) rfl (by simp [i64V]; rfl) (by omega)
    unfold OPR
    rw [hrun]
    refine ⟨_, _, _, rfl, ?_⟩
    rw [wrap_succ (by omega)]
    refine ⟨⟨k + 1, a5, c5, rfl, by omega, ?_, fun x hx => ?_, C3.trans (hk5.below C3.size fun x hx he => by have := N1 x he; omega)⟩, ?_⟩
    · have e : S (k + 1) = S k ++ [((sizeI l k : Nat) : Int)] := by simp [S, List.range_succ]
      rw [e, List.map_append]
      exact hrow
    · rcases hnw x hx with h | h
      · exact N1 x h
      · exact Nat.le_trans C3.size h
    · simp only [Int.toNat_natCast]
      omega
  · have : k = 4 := by omega
    subst this
    have hleast : Calls Tryz.prog f.ints_least_int #[.slice a1 4 c1] w1 (Ret fun v w' => w' = w1 ∧ v = .int .i64 (bestN l : Int)) := by
      apply R.ints_least_int_calls
      unfold R.ints_least_int
      have h4 : (4 : Nat) = (S 4).length := (hS 4).symm
      rw [h4]
      refine (slices_MinI_ok R1.rd (by rw [hS]; omega) (by rw [hS]; omega)).mono ?_
      rintro _ w1 ⟨_, rfl, rfl, rfl⟩
      refine ⟨_, rfl, (slices_Index_ok _ R1.rd (by rw [hS]; omega)).mono ?_⟩
      rintro _ w1 ⟨_, rfl, rfl, i, rfl, hcase⟩
      refine ⟨_, rfl, rfl, ?_⟩
      have hS4 : S 4 = [((sizeI l 0 : Nat) : Int), sizeI l 1, sizeI l 2, sizeI l 3] := rfl
      rcases hcase with ⟨_, hno⟩ | ⟨k, rfl, g1, g2⟩
      · exfalso
        apply hno
        rcases (foldl_min_le ((S 4).take (S 4).length) ((S 4).headD 0)).2.2 with e | e
        · unfold minL minTo
          rw [e, hS4]
          simp
        · unfold minL minTo
          exact List.mem_of_mem_take e
      · rw [hS4] at g1 g2
        rw [least_plain (sizeI l) g1 g2]
        rfl
    refine hleast.mono ?_
    rintro _ w2 ⟨_, rfl, rfl, rfl⟩
    exact ⟨_, rfl, rfl, B1⟩
end
end Go.Proofs.YtbkffpcgppecgaaGreat

/-
  Arguments, opened by their types: what the cells hold, slices down to their elements.
-/
namespace Go.Dn

/-- these cells hold a datum of the type -/
def Good (P : Program) (w : World) : Nat → TypeId → List Value → Prop
  | 0, _, _ => False
  | n + 1, t, cs =>
    match P.underlying t with
    | some .bool => ∃ b, cs = [.bool b]
    | some (.int k) => ∃ x, cs = [.int k x] ∧ (Lit.int k x).wf = true
    | some .string => ∃ s : ByteArray, cs = [.string s] ∧ s.size ≤ maxLen
    | some (.slice e) => ∃ a len cap, cs = [.slice a len cap] ∧ len ≤ cap ∧ cap ≤ maxLen ∧ (a = none → cap = 0) ∧
        ∃ rows : List (List Value), rows.length = len ∧ Rd w a rows.flatten ∧ ∀ r ∈ rows, r.length = P.cellsOf e ∧ Good P w n e r
    | some (.struct fs) => cs.length = P.cellsOf t ∧ ∀ f ∈ fs.toList, Good P w n f.type ((cs.drop f.offset).take (P.cellsOf f.type))
    | _ => True
section
variable {P : Program} {w : World}
theorem Good.bool {n : Nat} {t : TypeId} {cs : List Value} (h : Good P w n t cs) (ht : P.underlying t = some .bool) : ∃ b, cs = [.bool b] := by
  cases n with
  | zero => exact h.elim
  | succ n => unfold Good at h; rw [ht] at h; exact h
theorem Good.int {n : Nat} {t : TypeId} {cs : List Value} {k : IntKind} (h : Good P w n t cs) (ht : P.underlying t = some (.int k)) : ∃ x, cs = [.int k x] ∧ (Lit.int k x).wf = true := by
  cases n with
  | zero => exact h.elim
  | succ n => unfold Good at h; rw [ht] at h; exact h
theorem Good.str {n : Nat} {t : TypeId} {cs : List Value} (h : Good P w n t cs) (ht : P.underlying t = some .string) : ∃ s : ByteArray, cs = [.string s] ∧ s.size ≤ maxLen := by
  cases n with
  | zero => exact h.elim
  | succ n => unfold Good at h; rw [ht] at h; exact h
theorem Good.slice {n : Nat} {t e : TypeId} {cs : List Value} (h : Good P w n t cs) (ht : P.underlying t = some (.slice e)) : ∃ a len cap, cs = [.slice a len cap] ∧ len ≤ cap ∧ cap ≤ maxLen ∧ (a = none → cap = 0) ∧
        ∃ (m : Nat) (rows : List (List Value)), rows.length = len ∧ Rd w a rows.flatten ∧ ∀ r ∈ rows, r.length = P.cellsOf e ∧ Good P w m e r := by
  cases n with
  | zero => exact h.elim
  | succ n =>
    unfold Good at h
    rw [ht] at h
    obtain ⟨a, len, cap, h1, h2, h3, h4, rows, h5⟩ := h
    exact ⟨a, len, cap, h1, h2, h3, h4, n, rows, h5⟩
theorem Good.struct {n : Nat} {t : TypeId} {cs : List Value} {fs : Array Field} (h : Good P w n t cs) (ht : P.underlying t = some (.struct fs)) :
    cs.length = P.cellsOf t ∧ ∃ m, ∀ f ∈ fs.toList, Good P w m f.type ((cs.drop f.offset).take (P.cellsOf f.type)) := by
  cases n with
  | zero => exact h.elim
  | succ n =>
    unfold Good at h
    rw [ht] at h
    exact ⟨h.1, n, h.2⟩

/-- a struct's fields: types and places -/
def fieldsT (P : Program) (t : TypeId) : Option (List (TypeId × Nat)) :=
  match P.underlying t with
  | some (.struct fs) => some (fs.toList.map fun f => (f.type, f.offset))
  | _ => none
theorem Good.fields {n : Nat} {t : TypeId} {cs : List Value} {l : List (TypeId × Nat)} (h : Good P w n t cs) (ht : fieldsT P t = some l) :
    cs.length = P.cellsOf t ∧ ∃ m, ∀ x ∈ l, Good P w m x.1 ((cs.drop x.2).take (P.cellsOf x.1)) := by
  unfold fieldsT at ht
  split at ht
  · rename_i fs hu
    obtain ⟨h1, m, h2⟩ := h.struct hu
    cases ht
    refine ⟨h1, m, fun x hx => ?_⟩
    obtain ⟨f, hf, rfl⟩ := List.mem_map.1 hx
    exact h2 f hf
  · cases ht
theorem okWide_agg {t : TypeId} {v : Value} {r : Reach} {base : Nat} {l : List (TypeId × Nat)} (ht : fieldsT P t = some l) (h : Value.okWide P w r base t v) : ∃ cs, v = .agg cs := by
  unfold fieldsT at ht
  split at ht
  · rename_i fs hu
    unfold Value.okWide at h
    rw [hu] at h
    obtain ⟨cs, rfl, _⟩ := h
    exact ⟨cs, rfl⟩
  · cases ht

theorem flatten_get (sz : Nat) : ∀ (rows : List (List Value)), (∀ r ∈ rows, r.length = sz) → ∀ j v, rows.flatten[j]? = some v → 0 < sz ∧ j / sz < rows.length ∧ ∃ r, rows[j / sz]? = some r ∧ r[j % sz]? = some v
  | [], _, j, v, h => by simp at h
  | r :: rows, hl, j, v, h => by
    have hr : r.length = sz := hl r (by simp)
    rw [List.flatten_cons] at h
    by_cases hj : j < sz
    · rw [List.getElem?_append_left (by omega)] at h
      refine ⟨by omega, by rw [Nat.div_eq_of_lt hj]; simp, r, by rw [Nat.div_eq_of_lt hj]; rfl, by rw [Nat.mod_eq_of_lt hj]; exact h⟩
    · rw [List.getElem?_append_right (by omega), hr] at h
      obtain ⟨h0, h1, r', h2, h3⟩ := flatten_get sz rows (fun r hr => hl r (by simp [hr])) (j - sz) v h
      have e : j / sz = (j - sz) / sz + 1 := by
        have := Nat.add_div_right (j - sz) h0
        rw [show j - sz + sz = j by omega] at this
        exact this
      have e2 : j % sz = (j - sz) % sz := Nat.mod_eq_sub_mod (by omega)
      refine ⟨h0, by rw [e]; simp; exact h1, r', by rw [e]; simpa using h2, by rw [e2]; exact h3⟩

theorem good_of_trod {H : Type} {enc : TypeId × Value → H} {spare : Nat → Bool} {held : Bool} {base : Nat} : ∀ (n : Nat) (t : TypeId) (cs : List Value) (x : DataW H × List MemPlace), DataW.trod enc P w base spare held n t cs = some x → Good P w n t cs
  | 0, _, _, _, h => by simp [DataW.trod] at h
  | n + 1, t, cs, x, h => by
    unfold Good
    split
    · rename_i ht; obtain ⟨b, rfl, _⟩ := DataW.trod_bool ht h; exact ⟨b, rfl⟩
    · rename_i k ht; obtain ⟨z, rfl, _, hw⟩ := DataW.trod_int ht h; exact ⟨z, rfl, hw⟩
    · rename_i ht; obtain ⟨s, rfl, _, hw⟩ := DataW.trod_string ht h; exact ⟨s, rfl, hw⟩
    · rename_i e ht
      rcases DataW.trod_slice ht h with ⟨rfl, _⟩ | ⟨a, len, cap, elems, rest, m, hn, rfl, _, hb, hl, hm, hlen, hel, _, _⟩
      · exact ⟨none, 0, 0, rfl, Nat.le_refl _, Nat.zero_le _, fun _ => rfl, [], rfl, Rd.nil _ _, by simp⟩
      · have hnm : n = m := by omega
        subst hnm
        have hx : ∀ i, i < len → ∃ cs' : List Value, w.cells? base (a.add (i * P.cellsOf e)) (P.cellsOf e) = some cs' ∧ Good P w n e cs' := by
          intro i hi
          have := hel i hi
          rw [List.getElem?_eq_getElem (by omega)] at this
          obtain ⟨cs', h1, h2⟩ := Option.bind_eq_some_iff.1 this
          exact ⟨cs', h1, good_of_trod n e cs' _ h2⟩
        obtain ⟨V, hV⟩ := Deep.choose_lt (α := List Value) hx
        have hrows : ∀ r ∈ (List.range len).map V, r.length = P.cellsOf e ∧ Good P w n e r := by
          intro r hr
          obtain ⟨i, hi, rfl⟩ := List.mem_map.1 hr
          have := hV i (by simpa using hi)
          exact ⟨(World.cells?_some this.1).2.1, this.2⟩
        refine ⟨some a, len, cap, rfl, hl, hm, (fun h => nomatch h), (List.range len).map V, by simp, ?_, hrows⟩
        intro j v hv
        obtain ⟨h0, h1, r, h2, h3⟩ := flatten_get (P.cellsOf e) _ (fun r hr => (hrows r hr).1) j v hv
        refine ⟨a, rfl, ?_⟩
        simp only [List.length_map, List.length_range] at h1
        simp only [List.getElem?_map, List.getElem?_range h1, Option.map_some, Option.some.injEq] at h2
        subst h2
        obtain ⟨hc, hg⟩ := hV _ h1
        have hlt : j % P.cellsOf e < P.cellsOf e := Nat.mod_lt _ h0
        have := (World.cells?_some hc).2.2 _ hlt
        rw [addr_add_add, h3] at this
        rw [← this]
        congr 2
        rw [Nat.mul_comm]
        exact (Nat.div_add_mod j _).symm
    · rename_i fs ht
      unfold DataW.trod at h
      rw [ht] at h
      simp only at h
      split at h
      · rename_i hlen
        refine ⟨hlen, fun f hf => ?_⟩
        obtain ⟨xs, hxs, _⟩ := Option.map_eq_some_iff.1 h
        obtain ⟨i, hi⟩ := List.getElem?_of_mem hf
        have hl := mapM_some_length hxs
        have hlt := (List.getElem?_eq_some_iff.1 hi).1
        have hg := mapM_some_get hxs i f hi
        rw [List.getElem?_eq_getElem (by omega)] at hg
        exact good_of_trod n _ _ _ hg
      · cases h
    · trivial

/-- rows of one kind, as a list of what they hold -/
theorem rows_of {α : Type} {rows : List (List Value)} {g : α → List Value} {q : α → Prop} (h : ∀ r ∈ rows, ∃ x, r = g x ∧ q x) : ∃ xs : List α, rows = xs.map g ∧ ∀ x ∈ xs, q x := by
  induction rows with
  | nil => exact ⟨[], rfl, by simp⟩
  | cons r rows ih =>
    obtain ⟨x, rfl, hx⟩ := h r (by simp)
    obtain ⟨xs, rfl, hxs⟩ := ih fun r hr => h r (by simp [hr])
    exact ⟨x :: xs, rfl, by simpa using ⟨hx, hxs⟩⟩
/-- a slice's elements, as a list of what they hold -/
theorem Good.list {α : Type} {n : Nat} {t e : TypeId} {cs : List Value} (h : Good P w n t cs) (ht : P.underlying t = some (.slice e)) (g : α → List Value) (q : α → Prop) (hg : ∀ m r, r.length = P.cellsOf e → Good P w m e r → ∃ x, r = g x ∧ q x) :
    ∃ a cap, ∃ xs : List α, cs = [.slice a xs.length cap] ∧ xs.length ≤ cap ∧ cap ≤ maxLen ∧ (a = none → cap = 0) ∧ Rd w a (xs.flatMap g) ∧ ∀ x ∈ xs, q x := by
  obtain ⟨a, len, cap, rfl, h1, h2, h3, m, rows, rfl, hr, hrs⟩ := h.slice ht
  obtain ⟨xs, rfl, hq⟩ := rows_of (fun r hr => hg m r (hrs r hr).1 (hrs r hr).2)
  simp only [List.length_map] at h1 ⊢
  exact ⟨a, cap, xs, rfl, h1, h2, h3, by rw [List.flatMap_def]; exact hr, hq⟩
/-- a slice among the arguments: its elements as a list -/
def GL {α : Type} (w : World) (g : α → List Value) (q : α → Prop) (a : Option Addr) (xs : List α) (c : Nat) : Prop :=
  xs.length ≤ c ∧ c ≤ maxLen ∧ (a = none → c = 0) ∧ Rd w a (xs.flatMap g) ∧ ∀ x ∈ xs, q x
theorem Good.gl {α : Type} {n : Nat} {t e : TypeId} {a0 : Option Addr} {l0 c0 : Nat} (h : Good P w n t (Value.slice a0 l0 c0).cells.toList) (ht : P.underlying t = some (.slice e)) (g : α → List Value) (q : α → Prop) (hg : ∀ m r, r.length = P.cellsOf e → Good P w m e r → ∃ x, r = g x ∧ q x) :
    ∃ xs : List α, l0 = xs.length ∧ GL w g q a0 xs c0 := by
  obtain ⟨a, c, xs, he, h1⟩ := h.list ht g q hg
  have he' : [Value.slice a0 l0 c0] = [.slice a xs.length c] := he
  simp only [List.cons.injEq, Value.slice.injEq, and_true] at he'
  obtain ⟨rfl, rfl, rfl⟩ := he'
  exact ⟨xs, rfl, h1⟩
def strC (s : ByteArray) : List Value := [.string s]
def strQ (s : ByteArray) : Prop := s.size ≤ maxLen
def boolC (b : Bool) : List Value := [.bool b]
def boolQ (_ : Bool) : Prop := True
def intC (k : IntKind) (x : Int) : List Value := [.int k x]
def intQ (k : IntKind) (x : Int) : Prop := (Lit.int k x).wf = true
theorem good_str {e : TypeId} (he : P.underlying e = some .string) : ∀ m r, r.length = P.cellsOf e → Good P w m e r → ∃ x, r = strC x ∧ strQ x := fun _ _ _ h => h.str he
theorem good_bool {e : TypeId} (he : P.underlying e = some .bool) : ∀ m r, r.length = P.cellsOf e → Good P w m e r → ∃ x, r = boolC x ∧ boolQ x := fun _ _ _ h => (h.bool he).imp fun _ h => ⟨h, trivial⟩
theorem good_int {e : TypeId} {k : IntKind} (he : P.underlying e = some (.int k)) : ∀ m r, r.length = P.cellsOf e → Good P w m e r → ∃ x, r = intC k x ∧ intQ k x := fun _ _ _ h => h.int he
theorem flat1 {α β : Type} (f : α → β) : ∀ l : List α, (l.flatMap fun x => [f x]) = l.map f
  | [] => rfl
  | x :: l => by rw [List.flatMap_cons, flat1 f l]; rfl
end
end Go.Dn

/-
  Values: which may be, how two stand, which text one is.
-/
namespace Go.Proofs.YtbkffpcgppecgaaGreat
open Go.Dn Go.Proofs
open Go.RowKit (Below)
set_option linter.unusedVariables false
set_option maxRecDepth 20000

/-- kind, number, text -/
abbrev Val := Int × Int × ByteArray
def valV (v : Val) : Value := .agg #[.int .i64 v.1, .int .i64 v.2.1, .string v.2.2]
abbrev E0 : ByteArray := ⟨#[]⟩
def rightB (v : Val) : Bool :=
  if v.1 = 0 then decide (v.2.1 = 0 ∧ v.2.2 = E0) else if v.1 = 1 then decide (v.2.2 = E0) else if v.1 = 2 then decide ((v.2.1 = 0 ∨ v.2.1 = 1) ∧ v.2.2 = E0) else
  if v.1 = 3 then decide (v.2.1 = 0 ∧ v.2.2.size ≤ 1024) else false

theorem and1 (n : Int) : n = IntKind.i64.wrap (((BitVec.ofInt 64 n &&& BitVec.ofInt 64 1).toNat : Int)) ↔ (n = 0 ∨ n = 1) := by
  have h : (BitVec.ofInt 64 n &&& BitVec.ofInt 64 1).toNat = 0 ∨ (BitVec.ofInt 64 n &&& BitVec.ofInt 64 1).toNat = 1 := by
    rw [BitVec.toNat_and]
    have h1 : (BitVec.ofInt 64 1).toNat = 2 ^ 1 - 1 := by decide
    rw [h1, Nat.and_two_pow_sub_one_eq_mod]
    omega
  constructor
  · intro e
    rcases h with h | h
    · rw [h] at e; left; rw [e]; decide
    · rw [h] at e; right; rw [e]; decide
  · rintro (rfl | rfl) <;> decide

theorem value_Right_ok (w : World) (v : Val) : Calls Tryz.prog f.value_Right #[valV v] w (Ret fun r w' => r = .bool (rightB v) ∧ Below w.heap.size w w') := by
  obtain ⟨k, n, s⟩ := v
  apply R.value_Right_calls
  show R.value_Right k n s _ _
  unfold R.value_Right
  refine (SH.start (fun _ => False) w).newB fun b4 w1 hb4 B1 S1 => ⟨_, S1.cell 0 rfl rfl, S1.lit3 fun b6 w5 hb6 B5 S5 => ?_⟩
  refine ⟨fun _ w9 => ∃ p : Val, SH (fun _ => False) w w9 [(b6, #[.int .i64 p.1, .int .i64 p.2.1, .string p.2.2], ty.api_Value), (b4, #[.int .i64 k, .int .i64 n, .string s], ty.api_Value)] ∧ p.1 = k ∧
      (0 ≤ k → k < 4 → (((k, n, s) : Val) = p ∧ s.size ≤ 1024 ↔ rightB (k, n, s) = true)), ?_, ?_⟩
  · refine ⟨_, S5.cell 1 rfl rfl, IFB_eq (fun h => ?_) (fun h0 => IFB_eq (fun h => ⟨_, S5.cell 1 rfl rfl, ?_⟩) (fun h1 => IFB_eq (fun h => ⟨_, S5.cell 1 rfl rfl, ?_⟩) (fun h2 => IFB_eq (fun h => ⟨_, S5.cell 1 rfl rfl, ?_⟩) (fun h3 => ?_))))⟩
    · subst h
      refine ⟨(0, 0, E0), S5, rfl, fun _ _ => ?_⟩
      simp only [rightB, if_pos, decide_eq_true_eq, Prod.mk.injEq, true_and]
      constructor
      · rintro ⟨⟨h1, h2⟩, _⟩; exact ⟨h1, h2⟩
      · rintro ⟨h1, rfl⟩; exact ⟨⟨h1, rfl⟩, by decide⟩
    · subst h
      refine S5.sto 0 rfl (show 1 < 3 by decide) fun w6 S6 => ⟨(1, n, E0), S6, rfl, fun _ _ => ?_⟩
      simp only [rightB, if_neg (show ¬ (1 : Int) = 0 by decide), if_pos, decide_eq_true_eq, Prod.mk.injEq, true_and]
      constructor
      · rintro ⟨h1, _⟩; exact h1
      · rintro rfl; exact ⟨rfl, by decide⟩
    · subst h
      refine S5.sto 0 rfl (show 1 < 3 by decide) fun w6 S6 => ⟨(2, IntKind.i64.wrap (((BitVec.ofInt 64 n &&& BitVec.ofInt 64 1).toNat : Int)), E0), S6, rfl, fun _ _ => ?_⟩
      simp only [rightB, if_neg (show ¬ (2 : Int) = 0 by decide), if_neg (show ¬ (2 : Int) = 1 by decide), if_pos, decide_eq_true_eq, Prod.mk.injEq, true_and]
      rw [and1]
      constructor
      · rintro ⟨⟨h1, h2⟩, _⟩; exact ⟨h1, h2⟩
      · rintro ⟨h1, rfl⟩; exact ⟨⟨h1, rfl⟩, by decide⟩
    · subst h
      refine S5.sto 0 rfl (show 2 < 3 by decide) fun w6 S6 => ⟨(3, 0, s), S6, rfl, fun _ _ => ?_⟩
      simp only [rightB, if_neg (show ¬ (3 : Int) = 0 by decide), if_neg (show ¬ (3 : Int) = 1 by decide), if_neg (show ¬ (3 : Int) = 2 by decide), if_pos, decide_eq_true_eq, Prod.mk.injEq, true_and, and_true]
    · exact ⟨(k, 0, E0), S5, rfl, fun _ _ => by omega⟩
  · rintro w9 ⟨p, S9, hp, hiff⟩
    have no : ¬ (0 ≤ k ∧ k < 4) → Value.bool false = .bool (rightB (k, n, s)) := by
      intro hk
      simp only [rightB]
      rw [if_neg (by omega), if_neg (by omega), if_neg (by omega), if_neg (by omega)]
    refine ⟨_, S9.cell 1 rfl rfl, IFB_dec (fun h0 => ⟨_, S9.cell 1 rfl rfl, IFB_dec (fun h4 => ?_) (fun h4 => ⟨no (by omega), S9.below⟩)⟩) (fun h0 => ⟨no (by omega), S9.below⟩)⟩
    refine ⟨_, S9.cell 1 rfl rfl, _, S9.cell 1 rfl rfl, _, S9.cell 1 rfl rfl, _, S9.cell 0 rfl rfl, _, S9.cell 0 rfl rfl, _, S9.cell 0 rfl rfl, ?_⟩
    have hi := hiff h0 h4
    rw [beq_str]
    refine IFB_of (fun he => ⟨_, S9.cell 1 rfl rfl, ?_, S9.below⟩) (fun he => ⟨?_, S9.below⟩)
    · simp only [Bool.and_true, Bool.and_eq_true, beq_iff_eq, decide_eq_true_eq] at he
      have e : ((k, n, s) : Val) = p := by
        obtain ⟨p1, p2, p3⟩ := p
        simp only at he
        rw [he.1, he.2.1, he.2.2]
      congr 1
      rw [Bool.eq_iff_iff]
      rw [← hi]
      simp only [e, true_and, decide_eq_true_eq]
      omega
    · have hn : ¬ (rightB (k, n, s) = true) := by
        rw [← hi]
        rintro ⟨e, _⟩
        rw [← e] at he
        simp at he
      simp [Bool.eq_false_iff.2 hn]

theorem ref04_Right_ok (w : World) (v : Val) : Calls Tryz.prog f.ref04_Right #[valV v] w (Ret fun r w' => r = .bool (rightB v) ∧ Below w.heap.size w w') := by
  obtain ⟨k, n, s⟩ := v
  apply R.ref04_Right_calls
  show R.ref04_Right k n s _ _
  unfold R.ref04_Right
  refine (SH.start (fun _ => False) w).newB fun b4 w1 hb4 B1 S1 => ⟨_, S1.cell 0 rfl rfl, ?_⟩
  simp only [bytesEq_iff, rightB]
  refine IFB_eq (fun h => ⟨_, S1.cell 0 rfl rfl, IFB_eq (fun hn => ⟨_, S1.cell 0 rfl rfl, ?_, B1⟩) (fun hn => ⟨?_, B1⟩)⟩) (fun h0 => IFB_eq (fun h => ⟨_, S1.cell 0 rfl rfl, ?_, B1⟩) (fun h1 => IFB_eq (fun h => ⟨_, S1.cell 0 rfl rfl, ?_⟩) (fun h2 => IFB_eq (fun h => ⟨_, S1.cell 0 rfl rfl, IFB_eq (fun hn => ⟨_, S1.cell 0 rfl rfl, ?_, B1⟩) (fun hn => ⟨?_, B1⟩)⟩) (fun h3 => ⟨?_, B1⟩))))
  · simp [h, hn]
  · simp [h, hn]
  · simp [h]
  · refine IFB_eq (fun hn => ⟨_, S1.cell 0 rfl rfl, ?_, B1⟩) (fun hn => ⟨_, S1.cell 0 rfl rfl, IFB_eq (fun hn1 => ⟨_, S1.cell 0 rfl rfl, ?_, B1⟩) (fun hn1 => ⟨?_, B1⟩)⟩)
    · simp [h, hn]
    · simp [h, hn1]
    · simp [h, hn, hn1]
  · simp [h, hn]
    omega
  · simp [h, hn]
  · simp [h0, h1, h2, h3]

/-! ### the order -/
end Go.Proofs.YtbkffpcgppecgaaGreat

/-
  The bytes and the text of a value.
-/
namespace Go.Proofs.YtbkffpcgppecgaaGreat
open Go.Dn Go.Proofs
open Go.RowKit (Below)
set_option linter.unusedVariables false
set_option maxRecDepth 20000

/-! ### what package-level variables hold -/
/-! ### Number, Signed, Text -/
/-! ### Lay -/
structure ValOk (v : Val) : Prop where
  lo : -9223372036854775808 ≤ v.2.1
  hi : v.2.1 ≤ 9223372036854775807
theorem right_kind {v : Val} (h : rightB v = true) : v.1 = 0 ∨ v.1 = 1 ∨ (v.1 = 2 ∧ (v.2.1 = 0 ∨ v.2.1 = 1)) ∨ (v.1 = 3 ∧ v.2.2.size ≤ 1024) := by
  unfold rightB at h
  split at h
  · left; assumption
  · split at h
    · right; left; assumption
    · split at h
      · right; right; left; simp at h; exact ⟨by assumption, h.1⟩
      · split at h
        · right; right; right; simp at h; exact ⟨by assumption, h.2⟩
        · cases h
/-! ### Show -/
end Go.Proofs.YtbkffpcgppecgaaGreat

/-
  What the listed variables hold; an argument that is a value.
-/
namespace Go.Proofs.YtbkffpcgppecgaaGreat
open Go.Dn Go.Proofs
open Go.RowKit (Below)
set_option linter.unusedVariables false
set_option maxRecDepth 20000

def valC (v : Val) : List Value := [.int .i64 v.1, .int .i64 v.2.1, .string v.2.2]
def valQ (v : Val) : Prop := ValOk v ∧ v.2.2.size ≤ maxLen
theorem cells_int : Tryz.prog.cellsOf ty.int = 1 := by kernel_rfl
theorem cells_int64 : Tryz.prog.cellsOf ty.int64 = 1 := by kernel_rfl
theorem cells_str : Tryz.prog.cellsOf ty.string = 1 := by kernel_rfl
theorem und_val : fieldsT Tryz.prog ty.api_Value = some [(ty.int, 0), (ty.int64, 1), (ty.string, 2)] := by kernel_rfl
theorem und_int : Tryz.prog.underlying ty.int = some (.int .i64) := by kernel_rfl
theorem und_int64 : Tryz.prog.underlying ty.int64 = some (.int .i64) := by kernel_rfl
theorem cells_val : Tryz.prog.cellsOf ty.api_Value = 3 := by kernel_rfl
theorem good_api_Value {w : World} : ∀ m r, r.length = Tryz.prog.cellsOf ty.api_Value → Go.Dn.Good Tryz.prog w m ty.api_Value r → ∃ x, r = valC x ∧ valQ x := by
  intro m r hl h
  obtain ⟨_, n, hf⟩ := h.fields und_val
  rw [cells_val] at hl
  match r, hl with
  | [v0, v1, v2], _ =>
    simp only [List.mem_cons, List.not_mem_nil, or_false, forall_eq_or_imp, forall_eq, cells_int, cells_int64, cells_str] at hf
    obtain ⟨h0, h1, h2⟩ := hf
    obtain ⟨x0, e0, _⟩ := h0.int und_int
    obtain ⟨x1, e1, q1⟩ := h1.int und_int64
    obtain ⟨x2, e2, q2⟩ := h2.str und_str
    have q1' : -9223372036854775808 ≤ x1 ∧ x1 ≤ 9223372036854775807 := by simpa [Lit.wf, IntKind.min, IntKind.max, IntKind.signed, IntKind.bits] using q1
    refine ⟨(x0, x1, x2), ?_, ⟨q1'.1, q1'.2⟩, q2⟩
    simp at e0 e1 e2
    simp [valC, e0, e1, e2]
theorem open_val {H : Type} {enc : TypeId × Value → H} {W : World} {base b : Nat} {sp : Nat → Bool} {held : Bool} {v : Value} {d : DataW H} {p : List MemPlace} (hv : Value.okWide Tryz.prog W .any base ty.api_Value v) (h : DataW.Trod enc Tryz.prog W b sp held ty.api_Value v d p) :
    ∃ x : Val, v = valV x ∧ valQ x := by
  obtain ⟨cs, rfl⟩ := okWide_agg und_val hv
  obtain ⟨n, hn⟩ := h
  have hg := good_of_trod n _ _ _ hn
  obtain ⟨x, hx, hq⟩ := good_api_Value n _ (hg.fields und_val).1 hg
  refine ⟨x, ?_, hq⟩
  have : cs = ⟨valC x⟩ := by
    have h2 : cs.toList = valC x := hx
    rw [← h2]
  rw [this]
  rfl
end Go.Proofs.YtbkffpcgppecgaaGreat

/-
  The document's list: which may be; a text's place among rising ones.
-/
namespace Go.Proofs.YtbkffpcgppecgaaGreat
open Go.Dn Go.Proofs
open Go.RowKit (Below)
set_option linter.unusedVariables false
set_option maxRecDepth 20000

theorem bytesLt_bl (a b : ByteArray) : bytesLt a b = decide (bl a < bl b) := by
  unfold bytesLt
  rw [ByteArray.toList_eq, ByteArray.toList_eq, bytesLess_eq]
  rfl
section
variable {w : World} {a : Option Addr} {c : Nat} {ls : List ByteArray}
theorem ref_Right_ok (hl : Rd w a (ls.map Value.string)) (hn : ls.length ≤ 9223372036854775807) : Calls Tryz.prog f.ref07_Right #[.slice a ls.length c] w (Ret fun v w' => w' = w ∧ v = .bool (decide (ls.length ≤ 4096 ∧ longB ls = false))) := by
  apply R.ref07_Right_calls
  unfold R.ref07_Right
  refine ⟨fun s w1 => w1 = w ∧ ∃ k : Nat, k ≤ ls.length ∧ s = [.int .i64 (k : Int)] ∧ longB (ls.take k) = false, fun s _ => match s with
      | [.int _ i] => ls.length - i.toNat
      | _ => 0, ⟨rfl, 0, by omega, rfl, rfl⟩, ?_⟩
  rintro _ w1 ⟨rfl, k, hk, hs, hlo⟩
  cases hs
  refine IFB_dec (fun hlt => ⟨⟨by omega, hlt⟩, ?_⟩) (fun hge => ?_)
  · have hkl : k < ls.length := by omega
    obtain ⟨p, rfl, hc⟩ := str_at hl hkl
    refine ⟨_, by rw [Int.toNat_natCast]; exact hc, IFB_dec (fun h => ⟨rfl, ?_⟩) (fun h => ?_)⟩
    · have : longB ls = true := List.any_eq_true.2 ⟨ls[k], List.getElem_mem hkl, by simp; omega⟩
      rw [this]
      simp
    · rw [wrap_succ (by omega)]
      refine ⟨⟨rfl, k + 1, by omega, rfl, ?_⟩, ?_⟩
      · unfold longB at hlo ⊢
        rw [List.take_succ_eq_append_getElem hkl, List.any_append, hlo]
        simp
        omega
      · simp only [Int.toNat_natCast]
        omega
  · have hkk : ls.take k = ls := List.take_of_length_le (by omega)
    rw [hkk] at hlo
    refine ⟨rfl, ?_⟩
    rw [hlo]
    congr 1
    rw [Bool.eq_iff_iff]
    simp
    omega
end
/-- where a text stands, or would stand, among rising ones -/
structure PlaceIs (t : List (List UInt8)) (x : List UInt8) (lo : Nat) : Prop where
  le : lo ≤ t.length
  below : ∀ y ∈ t.take lo, y < x
  above : ∀ y ∈ t.drop lo, ¬ y < x
theorem up_get {t : List (List UInt8)} (h : t.Pairwise (· < ·)) {i j : Nat} (hij : i < j) (hj : j < t.length) : t[i] < t[j] := List.pairwise_iff_getElem.1 h i j (by omega) hj hij
section
variable {w : World} {a : Option Addr} {c : Nat} {t : List (List UInt8)}
theorem ref_place_ok (hl : Rd w a ((t.map sof).map Value.string)) (hn : t.length ≤ 140737488355328) (hup : t.Pairwise (· < ·)) (s : ByteArray) :
    Calls Tryz.prog f.ref07_place #[.slice a t.length c, .string s] w (Ret fun v w' => ∃ lo : Nat, v = .tuple #[.int .i64 (lo : Int), .bool (decide (t[lo]? = some (bl s)))] ∧ PlaceIs t (bl s) lo ∧ Below w.heap.size w w') := by
  have hlT : (t.map sof).length = t.length := by simp
  apply R.ref07_place_calls
  unfold R.ref07_place
  refine ⟨fun st w1 => w1 = w ∧ ∃ lo hi : Nat, st = [.int .i64 (lo : Int), .int .i64 (hi : Int)] ∧ lo ≤ hi ∧ hi ≤ t.length ∧ (∀ j, (hj : j < t.length) → j < lo → t[j] < bl s) ∧ (∀ j, (hj : j < t.length) → hi ≤ j → ¬ t[j] < bl s), fun st _ => match st with
      | [.int _ i, .int _ j] => j.toNat - i.toNat
      | _ => 0, ⟨rfl, 0, t.length, rfl, by omega, by omega, fun j hj h => by omega, fun j hj h => by omega⟩, ?_⟩
  rintro _ _ w1 ⟨rfl, lo, hi, hs, h1, h2, h3, h4⟩
  cases hs
  refine IFB_dec (fun hlt => ?_) (fun hge => ?_)
  · have em : IntKind.i64.wrap (Int.tdiv (IntKind.i64.wrap ((lo : Int) + (hi : Int))) 2) = (((lo + hi) / 2 : Nat) : Int) := by
      rw [wrap_i64 (n := (lo : Int) + (hi : Int)) (by omega) (by omega), Int.tdiv_eq_ediv_of_nonneg (by omega), wrap_i64 (by omega) (by omega)]
      omega
    rw [em]
    have hmid : (lo + hi) / 2 < t.length := by omega
    obtain ⟨p, hp, hc⟩ := str_at hl (by rw [hlT]; exact hmid)
    subst hp
    rw [List.getElem_map] at hc
    refine ⟨⟨by omega, by omega⟩, _, by rw [Int.toNat_natCast]; exact hc, ?_⟩
    rw [bytesLt_bl, bl_sof]
    refine IFB_dec (fun hless => ?_) (fun hno => ?_)
    · rw [wrap_succ (by omega)]
      refine ⟨⟨rfl, (lo + hi) / 2 + 1, hi, rfl, by omega, h2, fun j hj h => ?_, h4⟩, ?_⟩
      · rcases Nat.lt_or_ge j ((lo + hi) / 2) with hh | hh
        · exact List.lt_trans (up_get hup hh hmid) hless
        · have : j = (lo + hi) / 2 := by omega
          subst this
          exact hless
      · simp only [Int.toNat_natCast]
        omega
    · refine ⟨⟨rfl, lo, (lo + hi) / 2, rfl, by omega, by omega, h3, fun j hj h => ?_⟩, ?_⟩
      · intro hjs
        rcases Nat.lt_or_ge ((lo + hi) / 2) j with hh | hh
        · exact hno (List.lt_trans (up_get hup hh hj) hjs)
        · have : j = (lo + hi) / 2 := by omega
          subst this
          exact hno hjs
      · simp only [Int.toNat_natCast]
        omega
  · have : lo = hi := by omega
    subst this
    have hP : PlaceIs t (bl s) lo := by
      refine ⟨h2, fun y hy => ?_, fun y hy => ?_⟩
      · obtain ⟨j, hj, rfl⟩ := List.mem_iff_getElem.1 hy
        rw [List.length_take] at hj
        rw [List.getElem_take]
        exact h3 j (by omega) (by omega)
      · obtain ⟨j, hj, rfl⟩ := List.mem_iff_getElem.1 hy
        rw [List.length_drop] at hj
        rw [List.getElem_drop]
        exact h4 _ (by omega) (by omega)
    have Bd : Below w1.heap.size w1 w1.drew := (Below.refl _ w1).drew
    unfold DRAW
    refine IFB_dec (fun hlt => ?_) (fun hge2 => ?_)
    · have hlo : lo < t.length := by omega
      obtain ⟨p, hp, hc⟩ := str_at (hl.grown Bd) (by rw [hlT]; exact hlo)
      subst hp
      rw [List.getElem_map] at hc
      refine ⟨⟨by omega, by omega⟩, _, by rw [Int.toNat_natCast]; exact hc, lo, ?_, hP, Bd⟩
      rw [bytesEq_iff, List.getElem?_eq_getElem hlo]
      congr 4
      congr 1
      rw [Bool.eq_iff_iff]
      simp only [decide_eq_true_eq, Option.some.injEq]
      constructor
      · intro h; rw [← h, bl_sof]
      · intro h; rw [h, sof_bl]
    · refine ⟨lo, ?_, hP, Bd⟩
      rw [List.getElem?_eq_none (by omega)]
      simp
end
end Go.Proofs.YtbkffpcgppecgaaGreat

/-
  The different texts of a list, rising: by the document.
-/
namespace Go.Proofs.YtbkffpcgppecgaaGreat
open Go.Dn Go.Proofs
open Go.RowKit (Below)
set_option linter.unusedVariables false
set_option maxRecDepth 20000

theorem PlaceIs.mem {t : List (List UInt8)} {x : List UInt8} {lo : Nat} (h : PlaceIs t x lo) (hup : t.Pairwise (· < ·)) : x ∈ t ↔ t[lo]? = some x := by
  constructor
  · intro hx
    obtain ⟨j, hj, rfl⟩ := List.mem_iff_getElem.1 hx
    have h1 : ¬ j < lo := fun hlt => List.lt_irrefl _ (h.below t[j] (List.mem_take_iff_getElem.2 ⟨j, by omega, rfl⟩))
    have h2 : ¬ lo < j := fun hlt => by
      have h3 := up_get hup hlt hj
      have h4 : t[lo] ∈ t.drop lo := by rw [List.drop_eq_getElem_cons (by omega)]; exact List.mem_cons_self ..
      exact h.above _ h4 h3
    have : j = lo := by omega
    subst this
    exact List.getElem?_eq_getElem hj
  · intro hx
    exact List.mem_of_getElem? hx
theorem PlaceIs.idx {t : List (List UInt8)} {x : List UInt8} {lo : Nat} (h : PlaceIs t x lo) (hup : t.Pairwise (· < ·)) (hx : x ∈ t) : t.idxOf x = lo := by
  have h1 := (h.mem hup).1 hx
  obtain ⟨hlt, rfl⟩ := List.getElem?_eq_some_iff.1 h1
  exact (lt_nodup hup).idxOf_getElem lo hlt
theorem rise_insert {l t : List (List UInt8)} {x : List UInt8} {lo : Nat} (hr : IsRise l t) (h : PlaceIs t x lo) (hx : x ∉ t) : IsRise (l ++ [x]) (t.take lo ++ (x :: t.drop lo)) := by
  have hab : ∀ y ∈ t.drop lo, x < y := by
    intro y hy
    have h1 := h.above y hy
    have h2 : y ≠ x := by rintro rfl; exact hx (List.mem_of_mem_drop hy)
    rcases Decidable.em (x < y) with h3 | h3
    · exact h3
    · exact absurd (List.le_antisymm (List.not_lt.1 h3) (List.not_lt.1 h1)) h2
  refine ⟨?_, fun y => ?_⟩
  · have hp := hr.up
    rw [← List.take_append_drop lo t] at hp
    obtain ⟨p1, p2, p3⟩ := List.pairwise_append.1 hp
    refine List.pairwise_append.2 ⟨p1, List.pairwise_cons.2 ⟨hab, p2⟩, fun y hy z hz => ?_⟩
    rcases List.mem_cons.1 hz with rfl | hz
    · exact h.below y hy
    · exact p3 y hy z hz
  · have e : y ∈ t ↔ y ∈ t.take lo ∨ y ∈ t.drop lo := by
      conv => lhs; rw [← List.take_append_drop lo t]
      exact List.mem_append
    rw [List.mem_append, List.mem_cons, List.mem_append, List.mem_singleton, ← hr.mem y, e]
    constructor
    · rintro (h | h | h)
      · exact .inl (.inl h)
      · exact .inr h
      · exact .inl (.inr h)
    · rintro ((h | h) | h)
      · exact .inl h
      · exact .inr (.inr h)
      · exact .inr (.inl h)
theorem rise_again {l t : List (List UInt8)} {x : List UInt8} (hr : IsRise l t) (hx : x ∈ t) : IsRise (l ++ [x]) t := by
  refine ⟨hr.up, fun y => ?_⟩
  rw [List.mem_append, List.mem_singleton, ← hr.mem y]
  exact ⟨fun h => .inl h, fun h => h.elim id (fun e => e ▸ hx)⟩

def strs (t : List (List UInt8)) : List Value := (t.map sof).map Value.string
theorem strs_len (t : List (List UInt8)) : (strs t).length = t.length := by simp [strs]
theorem strs_append (t u : List (List UInt8)) : strs (t ++ u) = strs t ++ strs u := by simp [strs]
theorem strs_one (t : List (List UInt8)) : ∀ u ∈ strs t, u.oneCell' = true := by
  intro u hu
  obtain ⟨s, _, rfl⟩ := List.mem_map.1 hu
  rfl
theorem tS : slT Tryz.prog ty.L_string = some (ty.string, 1, 16, .string ⟨#[]⟩) := by kernel_rfl
/-- texts onto a row -/
theorem append_strs {w : World} {a : Option Addr} {c : Nat} {t u : List (List UInt8)} (hr : Row w ty.string 1 a t.length c (strs t)) {b : Option Addr} {m mc : Nat} (hm : m = u.length) (hb : Rd w b (strs u)) (hl : t.length + u.length ≤ 8796093022208) {f : Value → World → Prop}
    (hf : ∀ a' c' w', Row w' ty.string 1 a' (t ++ u).length c' (strs (t ++ u)) → Keeps (fun k => rowB a = some k) w w' → (∀ k, rowB a' = some k → rowB a = some k ∨ w.heap.size ≤ k) → f (.slice a' (t ++ u).length c') w') :
    OPR Tryz.prog (Builtin.append_ #[ty.L_string, ty.L_string] ty.L_string #[.slice a t.length c, .slice b m mc]) f w := by
  subst hm
  obtain ⟨a', c', w', hrun, hrow, hk, hnew⟩ := append_row (ty := ty.L_string) (mc := mc) tS rfl (by omega) (by omega) hr hb (m := u.length) (by rw [strs_len]; simp) (strs_one u) (by omega)
  unfold OPR
  rw [hrun]
  have hlen : (t ++ u).length = t.length + u.length := by simp
  rw [← strs_append, ← hlen] at hrow
  rw [← hlen]
  exact hf a' c' w' hrow hk hnew

theorem ref_rising_ok {w : World} {a : Option Addr} {c : Nat} {ls : List ByteArray} (hl : Rd w a (ls.map Value.string)) (hn : ls.length ≤ 4096) :
    Calls Tryz.prog f.ref07_rising #[.slice a ls.length c] w (Ret fun v w' => ∃ a' c' t, v = .slice a' t.length c' ∧ IsRise (ls.map bl) t ∧ Rd w' a' (strs t) ∧ Below w.heap.size w w') := by
  apply R.ref07_rising_calls
  unfold R.ref07_rising
  refine ⟨fun s w1 => ∃ (k : Nat) (oa : Option Addr) (oc : Nat) (t : List (List UInt8)), s = [.slice oa t.length oc, .int .i64 (k : Int)] ∧ k ≤ ls.length ∧ t.length ≤ oc ∧ t.length ≤ 4096 ∧ IsRise ((ls.take k).map bl) t ∧ Rd w1 oa (strs t) ∧ Below w.heap.size w w1, fun s _ => match s with
      | [_, .int _ i] => ls.length - i.toNat
      | _ => 0, ⟨0, none, 0, [], rfl, by omega, by simp, by simp, ⟨List.Pairwise.nil, by simp⟩, Rd.nil _ _, .refl _ _⟩, ?_⟩
  rintro oa _ oc _ w1 ⟨k, _, _, t, hs, hk, hoc, ht4, hr, hRd, B1⟩
  cases hs
  refine IFB_dec (fun hlt => ⟨⟨by omega, hlt⟩, ?_⟩) (fun hge => ?_)
  · have hkl : k < ls.length := by omega
    obtain ⟨p, hp, hc⟩ := str_at (hl.grown B1) hkl
    subst hp
    refine ⟨_, by rw [Int.toNat_natCast]; exact hc, (ref_place_ok hRd (by omega) hr.up ls[k]).mono ?_⟩
    rintro _ w2 ⟨_, rfl, lo, rfl, hP, B2⟩
    have e1 : (ls.take (k + 1)).map bl = (ls.take k).map bl ++ [bl ls[k]] := by rw [List.take_succ_eq_append_getElem hkl, List.map_append]; rfl
    have B2' : Below w.heap.size w w2 := B1.trans (B2.mono B1.size)
    refine ⟨_, _, rfl, IFB_dec (fun hok => ?_) (fun hno => ?_)⟩
    · rw [wrap_succ (by omega)]
      refine ⟨⟨k + 1, oa, oc, t, rfl, by omega, hoc, ht4, ?_, hRd.grown B2, B2'⟩, ?_⟩
      · rw [e1]
        exact rise_again hr ((hP.mem hr.up).2 hok)
      · simp only [Int.toNat_natCast]
        omega
    · have hx : bl ls[k] ∉ t := fun h => hno ((hP.mem hr.up).1 h)
      have hins := rise_insert hr hP hx
      rw [← e1] at hins
      have hlo := hP.le
      unfold DRAW
      have B3 : Below w2.heap.size w2 w2.drew := (Below.refl _ w2).drew
      have hRd3 := (hRd.grown B2).grown B3
      refine ⟨⟨by omega, by omega, by omega⟩, ?_⟩
      have ew : IntKind.i64.wrap ((t.length : Int) + 1) = ((t.length + 1 : Nat) : Int) := wrap_succ (by omega)
      rw [ew, Int.toNat_natCast]
      refine make_row0 tS (by omega) (by omega) fun bx w4 hbx B4 R4 => ⟨_, _, _, rfl, ?_⟩
      have hRd4 := hRd3.grown B4
      have hs1 : Rd w4 (SLA oa 0 oc 1) (strs (t.take lo)) := by
        have := hRd4.sla 0 lo oc 1 (by omega)
        simpa [strs, List.map_take] using this
      refine append_strs (t := []) (u := t.take lo) (by simpa [strs] using R4) (by rw [List.length_take]; omega) hs1 (by simp; omega) fun a5 c5 w5 R5 K5 N5 => ⟨_, _, _, rfl, ⟨by omega, hlt⟩, ?_⟩
      rw [List.nil_append] at R5 ⊢
      have sz4 := B4.size
      have szd : w2.drew.heap.size = w2.heap.size := rfl
      have K45 : Below w2.drew.heap.size w2.drew w5 := B4.trans (K5.below B4.size fun k hk he => by have h' : bx = k := Option.some.inj he; omega)
      have N5' : ∀ k, rowB a5 = some k → w2.heap.size ≤ k := fun k hk => by
        rcases N5 k hk with h | h
        · have h' : bx = k := Option.some.inj h
          omega
        · omega
      have Bw5 : Below w.heap.size w w5 := (B2'.trans (B3.mono B2'.size)).trans (K45.mono B2'.size)
      obtain ⟨p', hp', hc'⟩ := str_at (hl.grown Bw5) hkl
      cases hp'
      refine ⟨_, by rw [Int.toNat_natCast]; exact hc', (SH.start (fun _ => False) w5).newB fun b16 w6 hb16 B6 S6 => ?_⟩
      have hs2 : Rd w6 (some ⟨b16, 0, none⟩) (strs [bl ls[k]]) := by
        have := Rd.of_block0 (S6.get 0 rfl)
        simpa [strs, sof_bl] using this
      refine append_strs (u := [bl ls[k]]) (R5.grown B6) rfl hs2 (by simp; omega) fun a7 c7 w7 R7 K7 N7 => ⟨_, _, _, rfl, ⟨by omega, by omega, by omega⟩, ?_⟩
      have sz5 := K45.size
      have sz6 := B6.size
      have K27 : Below w2.drew.heap.size w2.drew w7 := (K45.trans (B6.mono sz5)).trans (K7.below (Nat.le_trans sz5 sz6) fun k hk he => by have := N5' k he; omega)
      have hs3 : Rd w7 (SLA oa lo oc 1) (strs (t.drop lo)) := by
        have := (hRd3.grown K27).sla lo t.length oc 1 hoc
        rw [Nat.mul_one, Nat.mul_one] at this
        have e : ((strs t).drop lo).take (t.length - lo) = strs (t.drop lo) := by
          rw [List.take_of_length_le (by rw [List.length_drop, strs_len]; omega)]
          simp [strs, List.map_drop]
        rwa [e] at this
      refine append_strs (u := t.drop lo) R7 (by rw [List.length_drop]) hs3 (by simp; omega) fun a8 c8 w8 R8 K8 N8 => ⟨_, _, _, rfl, ?_⟩
      have sz7 := K7.size
      have K28 : Below w2.drew.heap.size w2.drew w8 := K27.trans (K8.below K27.size fun k hk he => by
        rcases N7 k he with h | h
        · have := N5' k h; omega
        · omega)
      have et : (t.take lo ++ [bl ls[k]]) ++ t.drop lo = t.take lo ++ (bl ls[k] :: t.drop lo) := by simp
      rw [et] at R8 ⊢
      rw [wrap_succ (by omega)]
      refine ⟨⟨k + 1, a8, c8, _, rfl, by omega, R8.le, ?_, hins, R8.rd, (B2'.trans (B3.mono B2'.size)).trans (K28.mono B2'.size)⟩, ?_⟩
      · have := nodup_len (lt_nodup hins.up) (fun y hy => (hins.mem y).1 hy)
        rw [List.length_map, List.length_take] at this
        omega
      · simp only [Int.toNat_natCast]
        omega
  · have : ls.take k = ls := List.take_of_length_le (by omega)
    rw [this] at hr
    exact ⟨oa, oc, t, rfl, hr, hRd, B1⟩
end Go.Proofs.YtbkffpcgppecgaaGreat

/-
  Encode, by the document.
-/
namespace Go.Proofs.YtbkffpcgppecgaaGreat
open Go.Dn Go.Proofs
open Go.RowKit (Below)
set_option linter.unusedVariables false
set_option maxRecDepth 20000

theorem strs_bl (ls : List ByteArray) : strs (ls.map bl) = ls.map Value.string := by
  simp only [strs, List.map_map]
  apply List.map_congr_left
  intro s _
  simp [sof_bl]
theorem map_sof_bl (ls : List ByteArray) : (ls.map bl).map sof = ls := by
  rw [List.map_map]
  conv => rhs; rw [← List.map_id ls]
  apply List.map_congr_left
  intro s _
  simp [sof_bl]
/-- texts that are read, away from a row -/
structure Tx (w : World) (ba ta : Option Addr) (tx : List (List UInt8)) : Prop where
  rd : Rd w ta (strs tx)
  far : ∀ p, ta = some p → rowB ba = some p.block → tx = []
theorem Tx.lt {w : World} {ba ta : Option Addr} {tx : List (List UInt8)} (h : Tx w ba ta tx) {p : Addr} (hp : ta = some p) (hne : tx ≠ []) : p.block < w.heap.size := by
  cases tx with
  | nil => exact absurd rfl hne
  | cons x r =>
    obtain ⟨q, hq, hc⟩ := h.rd 0 (.string (sof x)) (by simp [strs])
    rw [hp] at hq
    cases hq
    have := World.block_lt_of_cell? _ _ hc
    rwa [addr_add_block] at this
theorem Tx.grown {w w' : World} {ba ta : Option Addr} {tx : List (List UInt8)} (h : Tx w ba ta tx) (hb : Below w.heap.size w w') : Tx w' ba ta tx := ⟨h.rd.grown hb, h.far⟩
theorem Tx.appended {w w' : World} {ba ba' ta : Option Addr} {tx : List (List UInt8)} (h : Tx w ba ta tx) (K : Keeps (fun k => rowB ba = some k) w w') (N : ∀ k, rowB ba' = some k → rowB ba = some k ∨ w.heap.size ≤ k) : Tx w' ba' ta tx := by
  by_cases hne : tx = []
  · subst hne
    exact ⟨Rd.nil _ _, fun _ _ _ => rfl⟩
  · refine ⟨h.rd.keeps K fun p hp hF => hne (h.far p hp hF), fun p hp hb => ?_⟩
    rcases N _ hb with h1 | h1
    · exact h.far p hp h1
    · have := h.lt hp hne
      omega
theorem Tx.fresh {w w' : World} {ba ta : Option Addr} {tx : List (List UInt8)} (hr : Rd w ta (strs tx)) (hb : Below w.heap.size w w') (hn : ∀ k, rowB ba = some k → w.heap.size ≤ k) : Tx w' ba ta tx := by
  by_cases hne : tx = []
  · subst hne
    exact ⟨Rd.nil _ _, fun _ _ _ => rfl⟩
  · refine ⟨hr.grown hb, fun p hp hk => ?_⟩
    have h1 := hn _ hk
    have h2 := (Tx.lt (ba := none) ⟨hr, by simp [rowB]⟩ hp hne : p.block < w.heap.size)
    omega

section
variable {w : World} {a : Option Addr} {c : Nat} {ls : List ByteArray}
theorem ref_Encode_ok (form : Int) (hl : Rd w a (ls.map Value.string)) (hn : ls.length ≤ 9223372036854775807) : Calls Tryz.prog f.ref07_Encode #[.int .i64 form, .slice a ls.length c] w (Ret fun v w' => EncV form ls w w' v) := by
  apply R.ref07_Encode_calls
  unfold R.ref07_Encode
  refine (ref_Right_ok hl hn).mono ?_
  rintro _ w ⟨_, rfl, rfl, rfl⟩
  have bad : ¬ encOk form ls → EncV form ls w w (.tuple #[.slice none 0 0, .int .i64 2]) := fun h => .inl ⟨h, rfl, .refl _ _⟩
  refine ⟨_, rfl, IFB_dec (fun h => bad fun hk => by have := hk.1; omega) (fun h1 => IFB_dec (fun h => bad fun hk => by have := hk.2.1; omega) (fun h2 => IFB_not (IFB_dec (fun hR => ?_) (fun h => bad fun hk => h hk.2.2))))⟩
  obtain ⟨hn4, hlong⟩ := hR
  have hok : encOk form ls := ⟨by omega, by omega, hn4, hlong⟩
  have hz := longB_false hlong
  rw [wrap_u8_id (by omega) (by omega)]
  refine (SH.start (fun _ => False) w).newB fun b5 w2 hb5 B2 S2 => ?_
  have hfb : Value.int .u8 form = byteV (UInt8.ofNat form.toNat) := by
    rcases (by omega : form = 0 ∨ form = 1) with rfl | rfl <;> rfl
  have hN2 : NewB w w2 [UInt8.ofNat form.toNat] (some ⟨b5, 0, none⟩) 1 := by
    refine ⟨⟨rfl, .inr ⟨b5, _, rfl, S2.get 0 rfl, by simp, by omega, rfl, ?_⟩⟩, fun k hk => ?_, B2⟩
    · simp [hfb]
    · cases hk; exact hb5
  refine ⟨fun st w5 => ∃ (hd : List UInt8) (ba : Option Addr) (bc : Nat) (tx : List (List UInt8)) (ta : Option Addr) (tc : Nat), st = [.slice ba hd.length bc, .slice ta tx.length tc] ∧ NewB w w5 hd ba bc ∧ Tx w5 ba ta tx ∧ hd.length ≤ 11 ∧ tx.length ≤ 4096 ∧ (∀ s ∈ tx.map sof, s.size ≤ 1024) ∧
      ((form = 0 ∧ hd = [0] ∧ tx = ls.map bl) ∨ (form = 1 ∧ IsRise (ls.map bl) tx ∧ hd = 1 :: digitsL tx.length)), ?_, ?_⟩
  · refine IFB_eq (fun hf => ?_) (fun hf => ?_)
    · subst hf
      refine (ref_rising_ok (hl.grown B2) hn4).mono ?_
      rintro _ w3 ⟨_, rfl, ta, tc, t, rfl, hr, hRd, B3⟩
      have htl : t.length ≤ ls.length := by
        have := nodup_len (lt_nodup hr.up) (fun x hx => (hr.mem x).1 hx)
        simpa using this
      have hN3 := hN2.grown B3
      refine ⟨_, _, _, rfl, ?_⟩
      rw [wrap_u64_id (by omega) (by omega)]
      refine (ref_Number_ok (c := 1) [1] hN3.rd t.length (by omega) (by simp)).mono ?_
      rintro _ w4 ⟨_, rfl, a4, c4, rfl, h4⟩
      refine ⟨_, _, _, rfl, [1] ++ digitsL t.length, a4, c4, t, ta, tc, rfl, h4.before hN3.bel, .fresh hRd h4.bel h4.new, ?_, by omega, ?_, .inr ⟨rfl, hr, rfl⟩⟩
      · have := digitsL_len10 (n := t.length) (by omega)
        simp
        omega
      · intro s hs
        obtain ⟨x, hx, rfl⟩ := List.mem_map.1 hs
        obtain ⟨s', hs', rfl⟩ := List.mem_map.1 ((hr.mem x).1 hx)
        rw [sof_bl]
        exact hz s' hs'
    · have hf0 : form = 0 := by omega
      subst hf0
      refine ⟨[0], some ⟨b5, 0, none⟩, 1, ls.map bl, a, c, by simp, hN2, .fresh (by rw [strs_bl]; exact hl) B2 (fun k hk => by cases hk; exact hb5), by simp, by simpa using hn4, by rw [map_sof_bl]; exact hz, .inl ⟨rfl, rfl, rfl⟩⟩
  rintro ba _ bc ta _ tc w5 ⟨hd, _, _, tx, _, _, hst, h5, T5, hhd, htx, htz, hcase⟩
  cases hst
  have l2 := laidL_len htz
  have hlT : (tx.map sof).length = tx.length := by simp
  refine ⟨fun s w6 => ∃ (i : Nat) (l : List UInt8) (ba' : Option Addr) (bc' : Nat), s = [.slice ba' l.length bc', .int .i64 (i : Int)] ∧ i ≤ tx.length ∧ l = hd ++ laidL ((tx.map sof).take i) ∧ NewB w w6 l ba' bc' ∧ Tx w6 ba' ta tx, fun s _ => match s with
      | [_, .int _ i] => tx.length - i.toNat
      | _ => 0, ⟨0, hd, _, _, rfl, by omega, by simp [laidL], h5, T5⟩, ?_⟩
  rintro ba' _ bc' _ w6 ⟨i, l, _, _, hs, hi, hli, h6, T6⟩
  cases hs
  have hll : l.length ≤ 11 + 4096 * 1034 := by
    have h1 : (laidL ((tx.map sof).take i)).length ≤ ((tx.map sof).take i).length * 1034 := laidL_len fun s hs => htz s (List.mem_of_mem_take hs)
    have h2 : ((tx.map sof).take i).length ≤ 4096 := by rw [List.length_take]; omega
    rw [hli, List.length_append]
    omega
  refine IFB_dec (fun hlt => ⟨⟨by omega, hlt⟩, ?_⟩) (fun hge => ?_)
  · have hil : i < (tx.map sof).length := by omega
    obtain ⟨p, hp, hc⟩ := str_at (ls := tx.map sof) T6.rd hil
    have hsz := htz _ (List.getElem_mem hil)
    subst hp
    refine ⟨_, by rw [Int.toNat_natCast]; exact hc, (ref_Text_ok (c := 0) [] (Rd.nil _ _) (tx.map sof)[i] (by omega) (by rw [List.length_nil]; omega)).mono ?_⟩
    rintro _ w7 ⟨_, rfl, a7, c7, rfl, h7⟩
    rw [List.nil_append] at h7 ⊢
    have htl := textL_len hsz
    refine ⟨_, _, _, _, rfl, append_bytes (h6.grown h7.bel).row h7.rd (by omega) fun a8 c8 w8 R8 K8 N8 => ⟨_, _, _, rfl, ?_⟩⟩
    rw [wrap_succ (by omega)]
    refine ⟨⟨i + 1, _, a8, c8, rfl, by omega, ?_, h6.appended h7.bel R8 K8 N8, (T6.grown h7.bel).appended K8 N8⟩, ?_⟩
    · rw [laidL_take hil, hli, List.append_assoc]
    · simp only [Int.toNat_natCast]
      omega
  have hie : i = tx.length := by omega
  rw [hie, ← hlT, List.take_length] at hli
  refine IFB_eq (fun hf => ?_) (fun hf => ?_)
  · rcases hcase with ⟨_, e1, e2⟩ | ⟨e1, _⟩
    · subst hf
      have el : l = 0 :: laidL ls := by rw [hli, e1, e2, map_sof_bl]; rfl
      subst el
      exact .inr ⟨hok, _, ba', bc', .plain, rfl, h6⟩
    · omega
  obtain ⟨hf1, hr, hhd2⟩ : form = 1 ∧ IsRise (ls.map bl) tx ∧ hd = 1 :: digitsL tx.length := by
    rcases hcase with ⟨e1, _⟩ | h
    · exact absurd e1 hf
    · exact h
  subst hf1
  refine ⟨fun s w9 => ∃ (kk : Nat) (pa : Option Addr) (pc : Nat), s = [.slice pa kk pc, .int .i64 (kk : Int)] ∧ kk ≤ ls.length ∧ Row w9 ty.uint64 1 pa kk pc ((placesL tx (ls.take kk)).map u64V) ∧ (∀ k, rowB pa = some k → w6.heap.size ≤ k) ∧ Below w6.heap.size w6 w9, fun s _ => match s with
      | [_, .int _ i] => ls.length - i.toNat
      | _ => 0, ⟨0, none, 0, rfl, by omega, Row.nil _ _ _, by simp [rowB], .refl _ _⟩, ?_⟩
  rintro pa kk pc _ w9 ⟨_, _, _, hs, hkl, hR9, hnw9, B9⟩
  cases hs
  have Bw9 : Below w.heap.size w w9 := h6.bel.trans (B9.mono h6.bel.size)
  refine IFB_dec (fun hlt => ⟨⟨by omega, hlt⟩, ?_⟩) (fun hge2 => ?_)
  · have hkl' : kk < ls.length := by omega
    obtain ⟨p, hp, hc⟩ := str_at (hl.grown Bw9) hkl'
    subst hp
    refine ⟨_, by rw [Int.toNat_natCast]; exact hc, (ref_place_ok (T6.rd.grown B9) (by omega) hr.up ls[kk]).mono ?_⟩
    rintro _ w10 ⟨_, rfl, lo, rfl, hP, B10⟩
    have hin : bl ls[kk] ∈ tx := (hr.mem _).2 (List.mem_map.2 ⟨_, List.getElem_mem hkl', rfl⟩)
    have hlo := hP.idx hr.up hin
    have hle := hP.le
    refine ⟨_, _, rfl, (SH.start (fun _ => False) w10).newB fun b31 w11 hb31 B11 S11 => ?_⟩
    rw [wrap_u64_id (by omega) (by omega)] at S11
    have hsrc : Rd w11 (some ⟨b31, 0, none⟩) [u64V (tx.idxOf (bl ls[kk]))] := by
      have := Rd.of_block0 (S11.get 0 rfl)
      rw [hlo]
      simpa [u64V] using this
    obtain ⟨a5, c5, w12, hrun, hrow, hk5, hnw⟩ := append_row (ty := ty.L_uint64) (mc := 1) tU rfl (by omega) (by omega) ((hR9.grown B10).grown B11) hsrc (m := 1) rfl (by simp [u64V]; rfl) (by omega)
    unfold OPR
    rw [hrun]
    refine ⟨_, _, _, rfl, ?_⟩
    have B11' : Below w6.heap.size w6 w11 := (B9.trans (B10.mono B9.size)).trans (B11.mono (Nat.le_trans B9.size B10.size))
    rw [wrap_succ (by omega)]
    refine ⟨⟨kk + 1, a5, c5, rfl, by omega, ?_, fun k hk => ?_, B11'.trans (hk5.below B11'.size fun k hk he => by have := hnw9 k he; omega)⟩, ?_⟩
    · have : placesL tx (ls.take (kk + 1)) = placesL tx (ls.take kk) ++ [tx.idxOf (bl ls[kk])] := by
        unfold placesL
        rw [List.take_succ_eq_append_getElem hkl', List.map_append]
        rfl
      rw [this, List.map_append]
      exact hrow
    · rcases hnw k hk with h | h
      · exact hnw9 k h
      · exact Nat.le_trans B11'.size h
    · simp only [Int.toNat_natCast]
      omega
  have hke : kk = ls.length := by omega
  subst hke
  rw [List.take_length] at hR9
  have hpl : (placesL tx ls).length = ls.length := by simp [placesL]
  have hpx : ∀ x ∈ placesL tx ls, x < 4097 := by
    intro x hx
    obtain ⟨s, hs, rfl⟩ := List.mem_map.1 hx
    have := List.idxOf_le_length (l := tx) (a := bl s)
    omega
  have hRp := hR9.rd
  rw [← hpl]
  refine (ref_Width_ok hRp (by omega) (fun x hx => by have := hpx x hx; omega)).mono ?_
  rintro _ w13 ⟨_, rfl, wd, rfl, hwd, hwd64, rfl⟩
  refine ⟨_, rfl, (ref_Pack_ok hRp (by omega) hwd64 ((orL_lt _ _).1 hwd.1)).mono ?_⟩
  rintro _ w14 ⟨_, rfl, a14, c14, rfl, h14⟩
  have l3 := packL_len (placesL tx ls) wd
  have l4 : sizeN (placesL tx ls).length wd ≤ 4096 * 64 + 7 := by
    unfold sizeN
    have : (placesL tx ls).length * wd ≤ 4096 * 64 := Nat.mul_le_mul (by omega) hwd64
    omega
  refine ⟨_, _, _, _, rfl, (SH.start (fun _ => False) w14).newB fun b39 w15 hb39 B15 S15 => ?_⟩
  rw [wrap_u8_id (by omega) (by omega)] at S15
  have B6 : Below w6.heap.size w6 w15 := (B9.trans (h14.bel.mono B9.size)).trans (B15.mono (Nat.le_trans B9.size h14.bel.size))
  have h15 := h6.grown B6
  refine append_byte h15.row (by omega) (x := UInt8.ofNat wd) (byteV_of (by omega)) (S15.get 0 rfl) fun a16 c16 w16 R16 K16 N16 => ⟨_, _, _, rfl, ?_⟩
  have h16 := h6.appended B6 R16 K16 N16
  have hr16 : Rd w16 a14 ((packL (placesL tx ls) wd).map byteV) := (h14.rd.grown B15).keeps K16 fun p hp hF => by
    have e1 := h14.new p.block (by rw [hp]; rfl)
    have e2 := h6.row.lt hF
    have := B9.size
    omega
  refine append_bytes h16.row hr16 (by simp; omega) fun a17 c17 w17 R17 K17 N17 => ⟨_, _, _, rfl, .inr ⟨hok, _, a17, c17, .table tx wd hr hwd, ?_, ?_⟩⟩
  · rw [hli, hhd2]
    simp
  · have h17 := h16.appended (.refl _ _) R17 K17 N17
    have el : (l ++ [UInt8.ofNat wd]) ++ packL (placesL tx ls) wd = (1 :: digitsL tx.length) ++ (laidL (tx.map sof) ++ (UInt8.ofNat wd :: packL (placesL tx ls) wd)) := by
      rw [hli, hhd2]
      simp
    rw [el] at h17
    exact h17
end
end Go.Proofs.YtbkffpcgppecgaaGreat

/-
  Small bridges for a law's last text.
-/
namespace Go.Dn
theorem u8_of {a : Int} (h : (Lit.int .u8 a).wf = true) : ∃ c : UInt8, a = (c.toNat : Int) := by
  have hx : 0 ≤ a ∧ a ≤ 255 := by simpa [Lit.wf, IntKind.min, IntKind.max, IntKind.signed, IntKind.bits] using h
  refine ⟨UInt8.ofNat a.toNat, ?_⟩
  simp
  omega
end Go.Dn

/-
  The wrap of a law whose row lists package-level variables: the contract is handed what they hold, and the world's shape.
-/
namespace Go.Dn
variable {H : Type} {enc : TypeId × Value → H}
theorem returnsInHanded_and_shaped {a : Assume} {C : Checked} {os : Os} {f : FuncId} {fn : Func} {s : ChangeSpec} {conds : List PathCond} {apart fresh handsOn again : Bool} {X : World → Array Value → Prop}
    (hX : ∀ (w w' : World) (args : Array Value), w.heap = w'.heap → X w args → X w' args)
    (own : ownKnob C.prog.godebug = none) (started : os.Started) (noInit : C.prog.inits.idxOf? f = none) (hfn : C.prog.funcs[f]? = some fn)
    (witness : ∃ (w : World) (tape : Tape) (i : Input), w.os = os ∧ (w.forCall tape i).Shaped C.prog ∧ i.vars = [] ∧ Input.okWide C.prog (w.forCall tape i) .any w.heap.size f i ∧
      ((s.pre enc C.prog fn conds apart (w.forCall tape i).memory i.args ∧ X (w.forCall tape i).memory i.args) ∧ sizedMet enc C.prog fn (OpenSpec.ofChange s) apart (w.forCall tape i).memory i.args) ∧ a.holds C.prog (lone (Frame.enter C.prog f i.args .normal) [] (w.forCall tape i)))
    (contract : ∀ (W : World) (base : Nat) (args : Array Value) (ds gs : List (DataW H)) (before : List MemPlace),
      (∀ (j : Nat) t v, fn.params[j]? = some t → args[j]? = some v → Value.okWide C.prog W .any base t v) →
      DataW.Whole enc C.prog fn.params.toList s.vars apart W args.toList ds gs before →
      (DataW.weightsEach C.prog (fn.params.toList ++ s.plain.varTypes C.prog) (ds ++ gs)).all (· ≤ reachBytes) = true → X W args → W.ShapedOpen C.prog →
      Calls C.prog f args W fun e W' => ∃ v, e = .returned v ∧ s.post enc C.prog fn apart fresh handsOn again W args v W') :
    ReturnsInHanded a C os f .any (fun w args => (s.pre enc C.prog fn conds apart w args ∧ X w args) ∧ sizedMet enc C.prog fn (OpenSpec.ofChange s) apart w args) (s.post enc C.prog fn apart fresh handsOn again) := by
  refine returnsInHanded_of_calls own started noInit witness ?_
  intro w tape i _ hsh _ hok hpre _
  obtain ⟨_, _, _, fn', hfn', _, _, _, _, hval⟩ := hok
  have e : fn' = fn := Option.some.inj (hfn'.symm.trans hfn)
  subst e
  obtain ⟨⟨⟨ds, gs, before, hw, hc⟩, hx⟩, hz⟩ := hpre
  have hw' := DataW.Whole.of_heap (w' := w.forCall tape i) (by rfl) hw
  refine (contract (w.forCall tape i) w.heap.size i.args ds gs before hval hw' (hz.weights hw) (hX _ _ _ (by rfl) hx) hsh).mono fun e W' ⟨v, he, hp⟩ => ?_
  subst he
  exact ChangeSpec.post_blind hp
theorem sized_of_trod {P : Program} {ts : List TypeId} {ds : List (DataW H)} (hZ : (DataW.weightsEach P ts ds).all (· ≤ reachBytes) = true) {j : Nat} {t e : TypeId} {d : DataW H} (ht : ts[j]? = some t) (hd : ds[j]? = some d) (hu : P.underlying t = some (.slice e))
    {W : World} {base fuel : Nat} {held : Bool} {a : Option Addr} {l c : Nat} {p : List MemPlace} (hf : DataW.trod enc P W base (fun _ => true) held fuel t (Value.slice a l c).cells.toList = some (d, p)) : c * P.bytesOf e ≤ reachBytes := by
  rcases DataW.trod_slice hu hf with ⟨hc, _⟩ | ⟨a', len, cap, elems, rest, n, _, hc, hx, _, hl, _, hlen, _, hsp, _⟩
  · have : [Value.slice a l c] = [Value.slice none 0 0] := hc
    simp at this
    rw [this.2.2]
    simp
  · have hc' : [Value.slice a l c] = [Value.slice (some a') len cap] := hc
    simp only [List.cons.injEq, Value.slice.injEq, and_true] at hc'
    obtain ⟨_, rfl, rfl⟩ := hc'
    simp only [Prod.mk.injEq] at hx
    rw [hx.1] at hd
    have := sized_slice hZ ht hd hu
    rw [List.length_map, List.length_map, hlen, (hsp rfl).1] at this
    have e : l + (c - l) = c := by omega
    rwa [e] at this
end Go.Dn

/-
  Best; the law DictWords.
-/
namespace Go.Proofs.YtbkffpcgppecgaaGreat
open Go.Dn Go.Proofs
open Go.RowKit (Below)
set_option linter.unusedVariables false
set_option maxRecDepth 20000

theorem enc_open {f : Int} {ls : List ByteArray} {w w' : World} {r : Value} (h : EncV f ls w w' r) : ∃ (bs : List UInt8) (a : Option Addr) (c : Nat) (e : Int), r = .tuple #[.slice a bs.length c, .int .i64 e] ∧ Rd w' a (bs.map byteV) ∧ Below w.heap.size w w' ∧ ((encOk f ls ∧ EncIs ls f bs ∧ e = 0) ∨ (¬ encOk f ls ∧ bs = [] ∧ e = 2)) := by
  rcases h with ⟨h1, rfl, hb⟩ | ⟨h1, b, a, c, h2, rfl, h3⟩
  · exact ⟨[], none, 0, 2, rfl, Rd.nil _ _, hb, .inr ⟨h1, rfl, rfl⟩⟩
  · exact ⟨b, a, c, 0, rfl, h3.rd, h3.bel, .inl ⟨h1, h2, rfl⟩⟩
theorem enc_one {f : Int} {ls : List ByteArray} {b c : List UInt8} {e g : Int} (h : (encOk f ls ∧ EncIs ls f b ∧ e = 0) ∨ (¬ encOk f ls ∧ b = [] ∧ e = 2)) (h' : (encOk f ls ∧ EncIs ls f c ∧ g = 0) ∨ (¬ encOk f ls ∧ c = [] ∧ g = 2)) : b = c ∧ e = g := by
  rcases h with ⟨h1, h2, rfl⟩ | ⟨h1, rfl, rfl⟩ <;> rcases h' with ⟨g1, g2, rfl⟩ | ⟨g1, rfl, rfl⟩
  · exact ⟨h2.one g2, rfl⟩
  · exact absurd h1 g1
  · exact absurd g1 h1
  · exact ⟨rfl, rfl⟩
theorem ok01 (ls : List ByteArray) : encOk 0 ls ↔ encOk 1 ls := by simp [encOk]
def BestV (ls : List ByteArray) (r : Value) : Prop :=
  (¬ encOk 0 ls ∧ r = .tuple #[.int .i64 0, .int .i64 2]) ∨ (∃ b0 b1, EncIs ls 0 b0 ∧ EncIs ls 1 b1 ∧ encOk 0 ls ∧ r = .tuple #[.int .i64 (if b1.length < b0.length then 1 else 0), .int .i64 0])
theorem BestV.one {ls : List ByteArray} {r s : Value} (h : BestV ls r) (h' : BestV ls s) : r = s := by
  rcases h with ⟨h1, rfl⟩ | ⟨b0, b1, h2, h3, h1, rfl⟩ <;> rcases h' with ⟨g1, rfl⟩ | ⟨c0, c1, g2, g3, g1, rfl⟩
  · rfl
  · exact absurd g1 h1
  · exact absurd h1 g1
  · rw [h2.one g2, h3.one g3]
section
variable {w : World} {a : Option Addr} {c : Nat} {ls : List ByteArray}
theorem dict_Best_ok (hl : Rd w a (ls.map Value.string)) (hn : ls.length ≤ 9223372036854775807) : Calls Tryz.prog f.dict_Best #[.slice a ls.length c] w (Ret fun v w' => BestV ls v ∧ Below w.heap.size w w') := by
  apply R.dict_Best_calls
  unfold R.dict_Best
  refine (dict_Encode_ok 0 hl hn).mono ?_
  rintro _ w1 ⟨_, rfl, h1⟩
  obtain ⟨b0, a0, c0, e0, rfl, _, B1, q0⟩ := enc_open h1
  refine ⟨_, _, _, _, rfl, (dict_Encode_ok 1 (hl.grown B1) hn).mono ?_⟩
  rintro _ w2 ⟨_, rfl, h2⟩
  obtain ⟨b1, a1, c1, e1, rfl, _, B2, q1⟩ := enc_open h2
  have B := below_trans B1 B2
  refine ⟨_, _, _, _, rfl, ?_⟩
  rcases q0 with ⟨k0, i0, rfl⟩ | ⟨k0, rfl, rfl⟩
  · rcases q1 with ⟨k1, i1, rfl⟩ | ⟨k1, _⟩
    · refine IFB_ne (fun h => absurd rfl h) (fun _ => IFB_dec (fun h => ⟨.inr ⟨b0, b1, i0, i1, k0, ?_⟩, B⟩) (fun h => ⟨.inr ⟨b0, b1, i0, i1, k0, ?_⟩, B⟩))
      · rw [if_neg (by omega)]
      · rw [if_pos (by omega)]
    · exact absurd ((ok01 ls).1 k0) k1
  · exact IFB_ne (fun _ => ⟨.inl ⟨k0, rfl⟩, B⟩) (fun h => absurd h (by decide))
theorem ref_Best_ok (hl : Rd w a (ls.map Value.string)) (hn : ls.length ≤ 9223372036854775807) : Calls Tryz.prog f.ref07_Best #[.slice a ls.length c] w (Ret fun v w' => BestV ls v ∧ Below w.heap.size w w') := by
  apply R.ref07_Best_calls
  unfold R.ref07_Best
  refine (ref_Encode_ok 0 hl hn).mono ?_
  rintro _ w1 ⟨_, rfl, h1⟩
  obtain ⟨b0, a0, c0, e0, rfl, _, B1, q0⟩ := enc_open h1
  refine ⟨_, _, _, _, rfl, (ref_Encode_ok 1 (hl.grown B1) hn).mono ?_⟩
  rintro _ w2 ⟨_, rfl, h2⟩
  obtain ⟨b1, a1, c1, e1, rfl, _, B2, q1⟩ := enc_open h2
  have B := below_trans B1 B2
  refine ⟨_, _, _, _, rfl, ?_⟩
  rcases q0 with ⟨k0, i0, rfl⟩ | ⟨k0, rfl, rfl⟩
  · rcases q1 with ⟨k1, i1, rfl⟩ | ⟨k1, _⟩
    · refine IFB_ne (fun h => absurd rfl h) (fun _ => IFB_dec (fun h => ⟨.inr ⟨b0, b1, i0, i1, k0, ?_⟩, B⟩) (fun h => ⟨.inr ⟨b0, b1, i0, i1, k0, ?_⟩, B⟩))
      · rw [if_pos (by omega)]
      · rw [if_neg (by omega)]
    · exact absurd ((ok01 ls).1 k0) k1
  · exact IFB_ne (fun _ => ⟨.inl ⟨k0, rfl⟩, B⟩) (fun h => absurd h (by decide))
end
theorem best_open {ls : List ByteArray} {r : Value} (h : BestV ls r) : ∃ x e : Int, r = .tuple #[.int .i64 x, .int .i64 e] := by
  rcases h with ⟨_, rfl⟩ | ⟨_, _, _, _, _, rfl⟩ <;> exact ⟨_, _, rfl⟩
end Go.Proofs.YtbkffpcgppecgaaGreat

/-
  The check sum, plainly: a register of 32 bits; one byte that is another one is always seen.
-/
namespace Go.Dn

def crcStep (r : BitVec 32) : BitVec 32 := (r >>> 1) ^^^ (2197175160#32 &&& -(r &&& 1#32))
def crcSteps : Nat → BitVec 32 → BitVec 32
  | 0, r => r
  | n + 1, r => crcSteps n (crcStep r)
def byte32 (c : UInt8) : BitVec 32 := BitVec.ofNat 32 c.toNat
def crcByte (r : BitVec 32) (c : UInt8) : BitVec 32 := crcSteps 8 (r ^^^ byte32 c)
def crcRest (r : BitVec 32) (l : List UInt8) : BitVec 32 := l.foldl crcByte r
def crc (l : List UInt8) : BitVec 32 := 4294967295#32 ^^^ crcRest 4294967295#32 l

theorem crcSteps_snoc : ∀ (n : Nat) (r : BitVec 32), crcSteps (n + 1) r = crcStep (crcSteps n r)
  | 0, _ => rfl
  | n + 1, r => by rw [crcSteps, crcSteps_snoc n, crcSteps]

theorem neg_one_bit (b : Bool) : (-(if b then 1#32 else 0#32)) = if b then 4294967295#32 else 0#32 := by cases b <;> decide
theorem and_one (r : BitVec 32) : r &&& 1#32 = if r.getLsbD 0 then 1#32 else 0#32 := by
  apply BitVec.eq_of_getLsbD_eq
  intro i hi
  by_cases h0 : i = 0
  · subst h0
    cases h : r.getLsbD 0
    · simpa using h
    · simpa using h
  · cases h : r.getLsbD 0 <;> simp [h0]
theorem crcStep_eq (r : BitVec 32) : crcStep r = (r >>> 1) ^^^ (if r.getLsbD 0 then 2197175160#32 else 0#32) := by
  unfold crcStep
  rw [and_one, neg_one_bit]
  cases r.getLsbD 0 <;> simp <;> rfl
theorem crcStep_inj {a b : BitVec 32} (h : crcStep a = crcStep b) : a = b := by
  rw [crcStep_eq, crcStep_eq] at h
  have top : ∀ x : BitVec 32, ((x >>> 1) ^^^ (if x.getLsbD 0 then 2197175160#32 else 0#32)).getLsbD 31 = x.getLsbD 0 := by
    intro x
    cases hx : x.getLsbD 0 <;> simp <;> decide
  have hlow : a.getLsbD 0 = b.getLsbD 0 := by rw [← top a, ← top b, h]
  rw [hlow] at h
  have hsh : a >>> 1 = b >>> 1 := by
    have := congrArg (· ^^^ (if b.getLsbD 0 then 2197175160#32 else 0#32)) h
    simpa [BitVec.xor_assoc] using this
  apply BitVec.eq_of_getLsbD_eq
  intro i hi
  cases i with
  | zero => exact hlow
  | succ i =>
    have := congrArg (fun x => BitVec.getLsbD x i) hsh
    simpa [BitVec.getLsbD_ushiftRight, Nat.add_comm] using this
theorem crcSteps_inj : ∀ (n : Nat) {a b : BitVec 32}, crcSteps n a = crcSteps n b → a = b
  | 0, _, _, h => h
  | n + 1, _, _, h => crcStep_inj (crcSteps_inj n h)
theorem byte32_inj {c d : UInt8} (h : byte32 c = byte32 d) : c = d := by
  have := congrArg BitVec.toNat h
  simp only [byte32, BitVec.toNat_ofNat] at this
  have h1 := c.toNat_lt
  have h2 := d.toNat_lt
  apply UInt8.toNat_inj.1
  omega
theorem xor_left_inj {n : Nat} {a b c : BitVec n} (h : a ^^^ b = a ^^^ c) : b = c := by
  have := congrArg (a ^^^ ·) h
  simpa [← BitVec.xor_assoc] using this
theorem xor_right_inj {n : Nat} {a b c : BitVec n} (h : b ^^^ a = c ^^^ a) : b = c := by
  rw [BitVec.xor_comm b, BitVec.xor_comm c] at h
  exact xor_left_inj h
theorem crcByte_inj {a b : BitVec 32} {c : UInt8} (h : crcByte a c = crcByte b c) : a = b := xor_right_inj (crcSteps_inj 8 h)
theorem crcByte_byte {a : BitVec 32} {c d : UInt8} (h : crcByte a c = crcByte a d) : c = d := byte32_inj (xor_left_inj (crcSteps_inj 8 h))
theorem crcRest_inj : ∀ (l : List UInt8) {a b : BitVec 32}, crcRest a l = crcRest b l → a = b
  | [], _, _, h => h
  | _ :: l, _, _, h => crcByte_inj (crcRest_inj l h)
theorem crcRest_set : ∀ (l : List UInt8) (i : Nat) (c d : UInt8) (r : BitVec 32), l[i]? = some d → crcRest r (l.set i c) = crcRest r l → c = d
  | [], i, _, _, _, h, _ => by simp at h
  | x :: l, 0, c, d, r, h, he => by
    simp at h
    subst h
    simp only [List.set_cons_zero, crcRest, List.foldl_cons] at he
    exact crcByte_byte (crcRest_inj l he)
  | x :: l, i + 1, c, d, r, h, he => by
    simp only [List.set_cons_succ, crcRest, List.foldl_cons] at he
    exact crcRest_set l i c d _ (by simpa using h) he
/-- a list of which one byte is another one has another sum -/
theorem crc_set {l : List UInt8} {i : Nat} {c d : UInt8} (h : l[i]? = some d) (hne : d ≠ c) : crc (l.set i c) ≠ crc l := by
  intro he
  exact hne (crcRest_set l i c d _ h (xor_left_inj he)).symm
theorem crcRest_append (r : BitVec 32) (l m : List UInt8) : crcRest r (l ++ m) = crcRest (crcRest r l) m := by simp [crcRest]

/-- the program's step, as it is written -/
theorem step_prog (r : BitVec 32) : (IntKind.u32.wrap (((BitVec.ofInt 32 (Int.fdiv (r.toNat : Int) (2 ^ (min 1 32))) ^^^ BitVec.ofInt 32 (IntKind.u32.wrap (((BitVec.ofInt 32 2197175160 &&& BitVec.ofInt 32 (IntKind.u32.wrap (0 - (IntKind.u32.wrap (((BitVec.ofInt 32 (r.toNat : Int) &&& BitVec.ofInt 32 1).toNat : Int)))))).toNat : Int)))).toNat : Int))) = ((crcStep r).toNat : Int) := by
  have h1 : min 1 32 = 1 := by decide
  rw [h1, fdiv_shift, wrap32_nat, ofInt_nat, ofInt_wrap32, ofInt_nat, ofInt_wrap32, ofInt_sub0, ofInt_wrap32, ofInt_nat, ofInt_nat]
  rfl
end Go.Dn
namespace Go.Dn
def u8of (x : BitVec 32) : UInt8 := UInt8.ofNat x.toNat
def sum4 (x : BitVec 32) : List UInt8 := [u8of x, u8of (x >>> 8), u8of (x >>> 16), u8of (x >>> 24)]
def sealL (l : List UInt8) : List UInt8 := sum4 (crc l) ++ l
def unsealL (l : List UInt8) : Option (List UInt8) := if l.length < 4 then none else if sealL (l.drop 4) = l then some (l.drop 4) else none
theorem u8of_nat (x : BitVec 32) : IntKind.u8.wrap (x.toNat : Int) = ((u8of x).toNat : Int) := by
  rw [wrap_u8]
  simp [u8of]
theorem u8of_shift (x : BitVec 32) (k : Nat) : IntKind.u8.wrap (Int.fdiv (x.toNat : Int) (2 ^ (min k 32))) = ((u8of (x >>> (min k 32))).toNat : Int) := by
  rw [fdiv_shift, u8of_nat]
theorem sum4_inj {x y : BitVec 32} (h : sum4 x = sum4 y) : x = y := by
  simp only [sum4, List.cons.injEq, and_true] at h
  obtain ⟨h0, h1, h2, h3⟩ := h
  have e : ∀ a b : BitVec 32, u8of a = u8of b → a.toNat % 256 = b.toNat % 256 := by
    intro a b hab
    have := congrArg UInt8.toNat hab
    simpa [u8of] using this
  have a0 := e _ _ h0
  have a1 := e _ _ h1
  have a2 := e _ _ h2
  have a3 := e _ _ h3
  simp only [BitVec.toNat_ushiftRight, Nat.shiftRight_eq_div_pow] at a1 a2 a3
  apply BitVec.eq_of_toNat_eq
  have hx := x.isLt
  have hy := y.isLt
  omega
theorem unseal_seal (l : List UInt8) : unsealL (sealL l) = some l := by
  have h4 : (sealL l).length = l.length + 4 := by simp [sealL, sum4]
  have hd : (sealL l).drop 4 = l := by simp [sealL, sum4]
  unfold unsealL
  rw [if_neg (by omega), hd, if_pos rfl]
/-- a sealed text of which one byte is another one is none -/
theorem unseal_turned (l : List UInt8) (i : Nat) (c d : UInt8) (h : (sealL l)[i]? = some d) (hne : d ≠ c) : unsealL ((sealL l).set i c) = none := by
  have h4 : (sealL l).length = l.length + 4 := by simp [sealL, sum4]
  unfold unsealL
  rw [if_neg (by simp; omega)]
  rw [if_neg]
  intro he
  by_cases hi : i < 4
  · have hd : ((sealL l).set i c).drop 4 = l := by
      rw [List.drop_set_of_lt hi]
      simp [sealL, sum4]
    rw [hd] at he
    have : (sealL l)[i]? = ((sealL l).set i c)[i]? := by rw [← he]
    rw [h, List.getElem?_set_self (by omega)] at this
    exact hne (by simpa using this)
  · have hd : ((sealL l).set i c).drop 4 = l.set (i - 4) c := by
      rw [List.drop_set]
      rw [if_neg hi]
      simp [sealL, sum4]
    have hl : l[i - 4]? = some d := by
      have hs : (sealL l)[i]? = l[i - 4]? := by
        unfold sealL
        rw [List.getElem?_append_right (by simp [sum4]; omega)]
        simp [sum4]
      rw [← hs]; exact h
    rw [hd] at he
    have hset : (sealL l).set i c = sum4 (crc l) ++ l.set (i - 4) c := by
      unfold sealL
      rw [List.set_append_right _ _ (by simp [sum4]; omega)]
      simp [sum4]
    rw [hset] at he
    unfold sealL at he
    have h1 := List.append_inj_left he (by simp [sum4])
    exact crc_set hl hne (sum4_inj h1)
end Go.Dn

/-
  The check sum's contracts: what wire.Sum and the reference's Sum come to.
-/
namespace Go.Proofs.YtbkffpcgppecgaaGreat
open Go.Dn Go.Proofs
set_option linter.unusedVariables false

theorem crcRest_flat_snoc (ps : List PartB) (k : Nat) (hk : k < ps.length) (r : BitVec 32) :
    crcRest r ((ps.take (k + 1)).flatMap (·.2.2)) = crcRest (crcRest r ((ps.take k).flatMap (·.2.2))) ps[k].2.2 := by
  rw [List.take_succ_eq_append_getElem hk, List.flatMap_append, crcRest_append]
  simp
theorem crcRest_take_snoc (l : List UInt8) (k : Nat) (hk : k < l.length) (r : BitVec 32) : crcRest r (l.take (k + 1)) = crcByte (crcRest r (l.take k)) l[k] := by
  rw [List.take_succ_eq_append_getElem hk, crcRest_append]
  rfl

theorem wire_Sum_ok {w : World} {a : Option Addr} {c : Nat} (ps : List PartB) (hp : Rd w a (ps.map partV1)) (hb : ∀ p ∈ ps, Rd w p.1 (p.2.2.map byteV)) (hn : ps.length < 9223372036854775807) (hl : ∀ p ∈ ps, p.2.2.length < 9223372036854775807) :
    Calls Tryz.prog f.wire_Sum #[.slice a ps.length c] w (Ret fun v w' => v = .int .u32 ((crc (ps.flatMap (·.2.2))).toNat : Int) ∧ w' = w) := by
  apply R.wire_Sum_calls
  unfold R.wire_Sum
  refine ⟨fun s w1 => match s with
      | [.int _ r, .int _ i] => w1 = w ∧ ∃ k : Nat, i = k ∧ k ≤ ps.length ∧ r = ((crcRest 4294967295#32 ((ps.take k).flatMap (·.2.2))).toNat : Int)
      | _ => False,
    fun s _ => match s with
      | [_, .int _ i] => ps.length - i.toNat
      | _ => 0, ⟨rfl, 0, rfl, Nat.zero_le _, by simp [crcRest]⟩, ?_⟩
  rintro r i w1 ⟨rfl, k, rfl, hk, rfl⟩
  refine IFB_dec (fun hlt => ?_) (fun hge => ?_)
  · have hkl : k < ps.length := by omega
    refine ⟨⟨by omega, by omega⟩, ?_⟩
    obtain ⟨p, rfl, hc⟩ := hp k (partV1 ps[k]) (by simp [hkl])
    have hmem : ps[k] ∈ ps := List.getElem_mem hkl
    have hbk := hb _ hmem
    have hlk := hl _ hmem
    have hflat := crcRest_flat_snoc ps k hkl 4294967295#32
    generalize hR : crcRest 4294967295#32 ((ps.take k).flatMap (·.2.2)) = R at hflat ⊢
    generalize hq : ps[k] = q at hbk hlk hflat hc
    obtain ⟨qa, qc, l⟩ := q
    simp only at hbk hlk hflat
    refine ⟨qa, l.length, qc, by simpa [partV1] using hc, ?_⟩
    refine ⟨fun s w2 => match s with
        | [.int _ r, .int _ i] => w2 = w1 ∧ ∃ j : Nat, i = j ∧ j ≤ l.length ∧ r = ((crcRest R (l.take j)).toNat : Int)
        | _ => False,
      fun s _ => match s with
        | [_, .int _ i] => l.length - i.toNat
        | _ => 0, ⟨rfl, 0, rfl, Nat.zero_le _, by simp [crcRest]⟩, ?_⟩
    rintro r i w2 ⟨rfl, j, rfl, hj, rfl⟩
    refine IFB_dec (fun hlt2 => ?_) (fun hge2 => ?_)
    · have hjl : j < l.length := by omega
      refine ⟨⟨by omega, by omega⟩, ?_⟩
      obtain ⟨p2, rfl, hc2⟩ := hbk j (byteV l[j]) (by simp [hjl])
      have hsn := crcRest_take_snoc l j hjl R
      generalize hR2 : crcRest R (l.take j) = R2 at hsn ⊢
      refine ⟨(l[j].toNat : Int), by simpa [byteV] using hc2, ?_⟩
      have h0 : (IntKind.u32.wrap (((BitVec.ofInt 32 (R2.toNat : Int) ^^^ BitVec.ofInt 32 (IntKind.u32.wrap ((l[j].toNat : Int)))).toNat : Int))) = ((R2 ^^^ byte32 l[j]).toNat : Int) := by
        rw [ofInt_wrap32, ofInt_nat, wrap32_nat, BitVec.ofInt_natCast]
        rfl
      rw [h0]
      refine ⟨fun s w3 => match s with
          | [.int _ r, .int _ i] => w3 = w2 ∧ ∃ m : Nat, i = m ∧ m ≤ 8 ∧ r = ((crcSteps m (R2 ^^^ byte32 l[j])).toNat : Int)
          | _ => False,
        fun s _ => match s with
          | [_, .int _ i] => 8 - i.toNat
          | _ => 0, ⟨rfl, 0, rfl, Nat.zero_le _, by simp [crcSteps]⟩, ?_⟩
      rintro r i w3 ⟨rfl, m, rfl, hm, rfl⟩
      refine IFB_dec (fun hlt3 => ?_) (fun hge3 => ?_)
      · rw [step_prog, wrap_succ (by omega)]
        refine ⟨⟨rfl, m + 1, rfl, by omega, by rw [crcSteps_snoc]⟩, ?_⟩
        simp only [Int.toNat_natCast]
        omega
      · have : m = 8 := by omega
        subst this
        rw [wrap_succ (by omega)]
        refine ⟨⟨rfl, j + 1, rfl, by omega, by rw [hsn]; rfl⟩, ?_⟩
        simp only [Int.toNat_natCast]
        omega
    · have : j = l.length := by omega
      subst this
      rw [wrap_succ (by omega)]
      refine ⟨⟨rfl, k + 1, rfl, by omega, by rw [hflat, List.take_length]⟩, ?_⟩
      simp only [Int.toNat_natCast]
      omega
  · have : k = ps.length := by omega
    subst this
    refine ⟨?_, rfl⟩
    rw [List.take_length, ofInt_nat, wrap32_nat]
    rfl
end Go.Proofs.YtbkffpcgppecgaaGreat

/-
  A column's values: which may be, how many are null, those that are not.
-/
namespace Go.Proofs.YtbkffpcgppecgaaGreat
open Go.Dn Go.Proofs
open Go.RowKit (Below)
set_option linter.unusedVariables false
set_option maxRecDepth 20000

abbrev valsL (ls : List Val) : List Value := ls.flatMap valC
theorem vals_get : ∀ (ls : List Val) (i j : Nat) (hi : i < ls.length), j < 3 → (valsL ls)[i * 3 + j]? = (valC ls[i])[j]?
  | [], i, j, hi, _ => by simp at hi
  | v :: ls, 0, j, _, hj => by
    simp only [valsL, List.flatMap_cons, Nat.zero_mul, Nat.zero_add, List.getElem_cons_zero]
    rw [List.getElem?_append_left (by simpa [valC] using hj)]
  | v :: ls, i + 1, j, hi, hj => by
    simp only [valsL, List.flatMap_cons, List.getElem_cons_succ]
    rw [List.getElem?_append_right (by simp [valC]; omega)]
    have e : (i + 1) * 3 + j - (valC v).length = i * 3 + j := by simp [valC]; omega
    rw [e]
    exact vals_get ls i j (by simpa using hi) hj
theorem vals_len (ls : List Val) : (valsL ls).length = ls.length * 3 := by
  induction ls with
  | nil => rfl
  | cons v ls ih => simp only [valsL, List.flatMap_cons, List.length_append, List.length_cons] at ih ⊢; rw [ih]; simp [valC]; omega
section
variable {w : World} {a : Option Addr} {c : Nat} {ls : List Val}
theorem val_at (hl : Rd w a (valsL ls)) {i : Nat} (hi : i < ls.length) : ∃ p, a = some p ∧ w.cell? (p.add (i * 3)) = some (.int .i64 ls[i].1) ∧ w.cell? ((p.add (i * 3)).add 1) = some (.int .i64 ls[i].2.1) ∧ w.cell? ((p.add (i * 3)).add 2) = some (.string ls[i].2.2) := by
  obtain ⟨p, hp, h0⟩ := hl (i * 3 + 0) _ (by rw [vals_get ls i 0 hi (by omega)]; rfl)
  obtain ⟨p1, hp1, h1⟩ := hl (i * 3 + 1) _ (by rw [vals_get ls i 1 hi (by omega)]; rfl)
  obtain ⟨p2, hp2, h2⟩ := hl (i * 3 + 2) _ (by rw [vals_get ls i 2 hi (by omega)]; rfl)
  subst hp
  cases hp1
  cases hp2
  exact ⟨p, rfl, h0, by rw [addr_add_add]; exact h1, by rw [addr_add_add]; exact h2⟩
def okV (kind : Int) (v : Val) : Bool := rightB v && (decide (v.1 = kind) || decide (v.1 = 0))
def rightL (kind : Int) (ls : List Val) : Bool := ls.all (okV kind) && decide (1 ≤ kind ∧ kind ≤ 3 ∧ ls.length ≤ 1024)
theorem all_take {p : Val → Bool} {i : Nat} (hi : i < ls.length) (h : (ls.take i).all p = true) (hp : p ls[i] = true) : (ls.take (i + 1)).all p = true := by
  rw [List.take_succ_eq_append_getElem hi, List.all_append, h]
  simp [hp]
theorem rightL_bad {kind : Int} {i : Nat} (hi : i < ls.length) (hp : okV kind ls[i] = false) : rightL kind ls = false := by
  have : ls.all (okV kind) = false := by
    rw [List.all_eq_false]
    exact ⟨_, List.getElem_mem hi, by simp [hp]⟩
  simp [rightL, this]
theorem right_end {kind : Int} (hall : ls.all (okV kind) = true) {w' : World} (hb : Below w.heap.size w w') {k : Value → World → Prop} (hk : ∀ v w', v = Value.bool (rightL kind ls) → Below w.heap.size w w' → k v w') :
    IFB (decide (kind ≥ 1)) (IFB (decide (kind ≤ 3)) (k (Value.bool (decide ((ls.length : Int) ≤ 1024))) w') (k (Value.bool false) w')) (k (Value.bool false) w') := by
  have e : rightL kind ls = decide (1 ≤ kind ∧ kind ≤ 3 ∧ ls.length ≤ 1024) := by simp [rightL, hall]
  refine IFB_dec (fun h1 => IFB_dec (fun h2 => hk _ _ ?_ hb) (fun h2 => hk _ _ ?_ hb)) (fun h1 => hk _ _ ?_ hb)
  · rw [e]
    congr 1
    rw [decide_eq_decide]
    omega
  · rw [e]
    congr 1
    rw [eq_comm, decide_eq_false_iff_not]
    omega
  · rw [e]
    congr 1
    rw [eq_comm, decide_eq_false_iff_not]
    omega
theorem chunk_right_ok (kind : Int) (hl : Rd w a (valsL ls)) (hn : ls.length ≤ 9223372036854775807) :
    Calls Tryz.prog f.chunk_right #[.int .i64 kind, .slice a ls.length c] w (Ret fun v w' => v = .bool (rightL kind ls) ∧ Below w.heap.size w w') := by
  apply R.chunk_right_calls
  unfold R.chunk_right
  refine ⟨fun s w1 => ∃ i : Nat, i ≤ ls.length ∧ s = [.int .i64 (i : Int)] ∧ Below w.heap.size w w1 ∧ (ls.take i).all (okV kind) = true, fun s _ => match s with
      | [.int _ i] => ls.length - i.toNat
      | _ => 0, ⟨0, by omega, rfl, .refl _ _, rfl⟩, ?_⟩
  rintro _ w1 ⟨i, hi, hst, B1, hall⟩
  cases hst
  refine IFB_dec (fun hlt => ⟨⟨by omega, hlt⟩, ?_⟩) (fun hge => ?_)
  · have hil : i < ls.length := by omega
    obtain ⟨p, rfl, h0, h1, h2⟩ := val_at (hl.grown B1) hil
    refine ⟨_, by rw [Int.toNat_natCast]; exact h0, _, by rw [Int.toNat_natCast]; exact h1, _, by rw [Int.toNat_natCast]; exact h2, (SH.start (fun _ => False) w1).lit3 fun b9 w5 hb9 B5 S5 => ?_⟩
    refine ⟨_, S5.cell 0 rfl rfl, _, S5.cell 0 rfl rfl, _, S5.cell 0 rfl rfl, (value_Right_ok w5 ls[i]).mono ?_⟩
    rintro _ w6 ⟨_, rfl, rfl, B6⟩
    have S6 := S5.grown B6
    have C6 := below_trans (below_trans B1 B5) B6
    have bad : okV kind ls[i] = false → (Value.bool false = .bool (rightL kind ls)) ∧ Below w.heap.size w w6 := fun h => ⟨by rw [rightL_bad hil h], C6⟩
    have step : okV kind ls[i] = true → (∃ j : Nat, j ≤ ls.length ∧ [Value.int .i64 (IntKind.i64.wrap ((i : Int) + 1))] = [.int .i64 (j : Int)] ∧ Below w.heap.size w w6 ∧ (ls.take j).all (okV kind) = true) ∧ ls.length - (IntKind.i64.wrap ((i : Int) + 1)).toNat < ls.length - ((i : Nat) : Int).toNat := by
      intro h
      rw [wrap_succ (by omega)]
      refine ⟨⟨i + 1, by omega, rfl, C6, all_take hil hall h⟩, ?_⟩
      simp only [Int.toNat_natCast]
      omega
    refine ⟨_, rfl, IFB_not (IFB_of (fun hr => ?_) (fun hr => bad (by simp [okV, hr])))⟩
    refine ⟨_, S6.cell 0 rfl rfl, IFB_ne (fun hk => ⟨_, S6.cell 0 rfl rfl, IFB_ne (fun hz => bad ?_) (fun hz => step ?_)⟩) (fun hk => step ?_)⟩
    · simp [okV, hk, hz]
    · simp [okV, hr, hz]
    · simp [okV, hr, hk]
  · have hie : ls.take i = ls := List.take_of_length_le (by omega)
    rw [hie] at hall
    exact right_end (k := fun v w' => v = Value.bool (rightL kind ls) ∧ Below w.heap.size w w') hall B1 fun v w' h1 h2 => ⟨h1, h2⟩
theorem ref08_Right_ok (kind : Int) (hl : Rd w a (valsL ls)) (hn : ls.length ≤ 9223372036854775807) :
    Calls Tryz.prog f.ref08_Right #[.int .i64 kind, .slice a ls.length c] w (Ret fun v w' => v = .bool (rightL kind ls) ∧ Below w.heap.size w w') := by
  apply R.ref08_Right_calls
  unfold R.ref08_Right
  refine ⟨fun s w1 => ∃ i : Nat, i ≤ ls.length ∧ s = [.int .i64 (i : Int)] ∧ Below w.heap.size w w1 ∧ (ls.take i).all (okV kind) = true, fun s _ => match s with
      | [.int _ i] => ls.length - i.toNat
      | _ => 0, ⟨0, by omega, rfl, .refl _ _, rfl⟩, ?_⟩
  rintro _ w1 ⟨i, hi, hst, B1, hall⟩
  cases hst
  refine IFB_dec (fun hlt => ⟨⟨by omega, hlt⟩, ?_⟩) (fun hge => ?_)
  · have hil : i < ls.length := by omega
    obtain ⟨p, rfl, h0, h1, h2⟩ := val_at (hl.grown B1) hil
    refine ⟨_, by rw [Int.toNat_natCast]; exact h0, _, by rw [Int.toNat_natCast]; exact h1, _, by rw [Int.toNat_natCast]; exact h2, (ref04_Right_ok w1 ls[i]).mono ?_⟩
    rintro _ w6 ⟨_, rfl, rfl, B6⟩
    have C6 := below_trans B1 B6
    obtain ⟨p', hp', h0', _, _⟩ := val_at (hl.grown C6) hil
    cases hp'
    have bad : okV kind ls[i] = false → (Value.bool false = .bool (rightL kind ls)) ∧ Below w.heap.size w w6 := fun h => ⟨by rw [rightL_bad hil h], C6⟩
    have step : okV kind ls[i] = true → (∃ j : Nat, j ≤ ls.length ∧ [Value.int .i64 (IntKind.i64.wrap ((i : Int) + 1))] = [.int .i64 (j : Int)] ∧ Below w.heap.size w w6 ∧ (ls.take j).all (okV kind) = true) ∧ ls.length - (IntKind.i64.wrap ((i : Int) + 1)).toNat < ls.length - ((i : Nat) : Int).toNat := by
      intro h
      rw [wrap_succ (by omega)]
      refine ⟨⟨i + 1, by omega, rfl, C6, all_take hil hall h⟩, ?_⟩
      simp only [Int.toNat_natCast]
      omega
    refine ⟨_, rfl, IFB_not (IFB_of (fun hr => ?_) (fun hr => bad (by simp [okV, hr])))⟩
    refine ⟨⟨by omega, hlt⟩, _, by rw [Int.toNat_natCast]; exact h0', IFB_ne (fun hk => ⟨⟨by omega, hlt⟩, _, by rw [Int.toNat_natCast]; exact h0', IFB_ne (fun hz => bad ?_) (fun hz => step ?_)⟩) (fun hk => step ?_)⟩
    · simp [okV, hk, hz]
    · simp [okV, hr, hz]
    · simp [okV, hr, hk]
  · have hie : ls.take i = ls := List.take_of_length_le (by omega)
    rw [hie] at hall
    exact right_end (k := fun v w' => v = Value.bool (rightL kind ls) ∧ Below w.heap.size w w') hall B1 fun v w' h1 h2 => ⟨h1, h2⟩
def nullsN (ls : List Val) : Nat := ls.countP fun v => decide (v.1 = 0)
def bitsN (ls : List Val) : List Nat := ls.map fun v => if v.1 = 0 then 1 else 0
def fullL (ls : List Val) : List Val := ls.filter fun v => !decide (v.1 = 0)
theorem nullsN_take {i : Nat} (hi : i < ls.length) : nullsN (ls.take (i + 1)) = nullsN (ls.take i) + if ls[i].1 = 0 then 1 else 0 := by
  unfold nullsN
  rw [List.take_succ_eq_append_getElem hi, List.countP_append]
  by_cases h : ls[i].1 = 0 <;> simp [h]
theorem nullsN_le (ls : List Val) : nullsN ls ≤ ls.length := List.countP_le_length
theorem bitsN_take {i : Nat} (hi : i < ls.length) : bitsN (ls.take (i + 1)) = bitsN (ls.take i) ++ [if ls[i].1 = 0 then 1 else 0] := by
  unfold bitsN
  rw [List.take_succ_eq_append_getElem hi, List.map_append]
  rfl
theorem fullL_take {i : Nat} (hi : i < ls.length) : fullL (ls.take (i + 1)) = fullL (ls.take i) ++ (if ls[i].1 = 0 then [] else [ls[i]]) := by
  unfold fullL
  rw [List.take_succ_eq_append_getElem hi, List.filter_append]
  by_cases h : ls[i].1 = 0 <;> simp [h]
theorem ref08_nulls_ok (hl : Rd w a (valsL ls)) (hn : ls.length ≤ 1000000) : Calls Tryz.prog f.ref08_nulls #[.slice a ls.length c] w (Ret fun v w' => w' = w ∧ v = .int .i64 (nullsN ls : Int)) := by
  apply R.ref08_nulls_calls
  unfold R.ref08_nulls
  refine ⟨fun s w1 => w1 = w ∧ ∃ i : Nat, i ≤ ls.length ∧ s = [.int .i64 (nullsN (ls.take i) : Int), .int .i64 (i : Int)], fun s _ => match s with
      | [_, .int _ i] => ls.length - i.toNat
      | _ => 0, ⟨rfl, 0, by omega, rfl⟩, ?_⟩
  rintro _ _ w1 ⟨rfl, i, hi, hst⟩
  cases hst
  have hle := nullsN_le (ls.take i)
  rw [List.length_take] at hle
  refine IFB_dec (fun hlt => ⟨⟨by omega, hlt⟩, ?_⟩) (fun hge => ⟨rfl, ?_⟩)
  · have hil : i < ls.length := by omega
    obtain ⟨p, rfl, h0, h1, h2⟩ := val_at hl hil
    refine ⟨_, by rw [Int.toNat_natCast]; exact h0, IFB_eq (fun hz => ?_) (fun hz => ?_)⟩
    · rw [wrap_succ (by omega), wrap_succ (by omega)]
      refine ⟨⟨rfl, i + 1, by omega, by rw [nullsN_take hil, if_pos hz]⟩, ?_⟩
      simp only [Int.toNat_natCast]
      omega
    · rw [wrap_succ (by omega)]
      refine ⟨⟨rfl, i + 1, by omega, by rw [nullsN_take hil, if_neg hz]; rfl⟩, ?_⟩
      simp only [Int.toNat_natCast]
      omega
  · have hie : ls.take i = ls := List.take_of_length_le (by omega)
    rw [hie]
theorem chunk_full_ok : Calls Tryz.prog f.chunk_full #[.slice a ls.length c] w (Ret fun v w' => ∃ b, v = .func (.func f.chunk_full_c1) #[] #[.pointer (some ⟨b, 0, none⟩)] ∧ SH (fun _ => False) w w' [(b, #[.slice a ls.length c], ty.L_api_Value)]) := by
  apply R.chunk_full_calls
  unfold R.chunk_full
  exact (SH.start (fun _ => False) w).newB fun b1 w1 _ _ S1 => ⟨b1, rfl, S1⟩
theorem full_c1_ok {L b : Nat} (hn : ls.length ≤ 1000000) (J : Nat → World → Prop) (hrd : ∀ k w, J k w → Rd w a (valsL ls)) (hgrow : ∀ k w w', J k w → Below w.heap.size w w' → J k w') (hskip : ∀ k w (hk : k < ls.length), ls[k].1 = 0 → J k w → J (k + 1) w)
    (hstep : ∀ k w (hk : k < ls.length), ls[k].1 ≠ 0 → J k w → YLD Tryz.prog L #[valV ls[k]] (fun y w' => y = true ∧ J (k + 1) w') w) (h0 : J 0 w) (hb : w.cell? ⟨b, 0, none⟩ = some (.slice a ls.length c)) :
    Calls Tryz.prog f.chunk_full_c1 #[.func (.yield L) #[] #[], .pointer (some ⟨b, 0, none⟩)] w (Ret fun _ w' => J ls.length w') := by
  apply R.chunk_full_c1_calls
  unfold R.chunk_full_c1
  refine ⟨_, _, _, hb, fun s w1 => ∃ k : Nat, k ≤ ls.length ∧ s = [.int .i64 (k : Int)] ∧ J k w1, fun s _ => match s with
      | [.int _ i] => ls.length - i.toNat
      | _ => 0, ⟨0, by omega, rfl, h0⟩, ?_⟩
  rintro _ w1 ⟨k, hk, hst, hj⟩
  cases hst
  refine IFB_dec (fun hlt => ⟨⟨by omega, hlt⟩, ?_⟩) (fun hge => ?_)
  · have hkl : k < ls.length := by omega
    obtain ⟨p, hp, c0, c1, c2⟩ := val_at (hrd _ _ hj) hkl
    subst hp
    refine ⟨_, by rw [Int.toNat_natCast]; exact c0, _, by rw [Int.toNat_natCast]; exact c1, _, by rw [Int.toNat_natCast]; exact c2, (SH.start (fun _ => False) w1).lit3 fun b9 w5 hb9 B5 S5 => ?_⟩
    have hj5 := hgrow _ _ _ hj B5
    rw [wrap_succ (by omega)]
    have mes : ls.length - ((k + 1 : Nat) : Int).toNat < ls.length - ((k : Nat) : Int).toNat := by
      simp only [Int.toNat_natCast]
      omega
    refine ⟨_, S5.cell 0 rfl rfl, IFB_ne (fun hne => ⟨_, S5.cell 0 rfl rfl, _, S5.cell 0 rfl rfl, _, S5.cell 0 rfl rfl, ?_⟩) (fun hz => ⟨⟨k + 1, by omega, rfl, hskip k _ hkl hz hj5⟩, mes⟩)⟩
    obtain ⟨fn, tm, asg, bo, hy, hrr⟩ := hstep k w5 hkl hne hj5
    refine ⟨fn, tm, asg, bo, hy, hrr.mono ?_⟩
    rintro e w6 ⟨y, he, rfl, hj6⟩
    exact ⟨true, he, IFB_false ⟨⟨k + 1, by omega, rfl, hj6⟩, mes⟩⟩
  · have : k = ls.length := by omega
    subst this
    exact hj
end
end Go.Proofs.YtbkffpcgppecgaaGreat

/-
  The values that are not null, encoded: both sides.
-/
namespace Go.Proofs.YtbkffpcgppecgaaGreat
open Go.Dn Go.Proofs
open Go.RowKit (Below)
set_option linter.unusedVariables false
set_option maxRecDepth 20000

/-- two rows that grow: numbers and texts, both from block B on, in different blocks -/
structure Two (B : Nat) (w : World) (ns : List Int) (na : Option Addr) (nc : Nat) (ss : List ByteArray) (sa : Option Addr) (sc : Nat) : Prop where
  rn : Row w ty.int64 1 na ns.length nc (ns.map i64V)
  rs : Row w ty.string 1 sa ss.length sc (ss.map Value.string)
  nn : ∀ x, rowB na = some x → B ≤ x
  sn : ∀ x, rowB sa = some x → B ≤ x
  ne : ∀ x, rowB na = some x → rowB sa ≠ some x
theorem Two.nil (B : Nat) (w : World) : Two B w [] none 0 [] none 0 := ⟨Row.nil _ _ _, Row.nil _ _ _, by simp [rowB], by simp [rowB], by simp [rowB]⟩
section
variable {B : Nat} {w w' : World} {ns : List Int} {na : Option Addr} {nc : Nat} {ss : List ByteArray} {sa : Option Addr} {sc : Nat}
theorem Two.keeps (h : Two B w ns na nc ss sa sc) {F : Nat → Prop} (K : Keeps F w w') (hF : ∀ x, F x → x < B ∨ w.heap.size ≤ x) : Two B w' ns na nc ss sa sc :=
  ⟨h.rn.keeps K fun x hx hf => by have := h.nn x hx; have := h.rn.lt hx; have := hF x hf; omega, h.rs.keeps K fun x hx hf => by have := h.sn x hx; have := h.rs.lt hx; have := hF x hf; omega, h.nn, h.sn, h.ne⟩
theorem Two.grown (h : Two B w ns na nc ss sa sc) (hb : Below w.heap.size w w') : Two B w' ns na nc ss sa sc := h.keeps (F := fun _ => False) (Keeps.of_below hb) (by simp)
theorem tL64 : slT Tryz.prog ty.L_int64 = some (ty.int64, 1, 8, .int .i64 0) := by kernel_rfl
theorem Two.appN (h : Two B w ns na nc ss sa sc) (hB : B ≤ w.heap.size) (hl : ns.length ≤ 1000000) {x : Int} {b : Nat} {t : TypeId} (hb : w.heap[b]? = some (.cells #[i64V x] t (0, 0))) {f : Value → World → Prop}
    (hf : ∀ a' c' w', Two B w' (ns ++ [x]) a' c' ss sa sc → Keeps (fun k => rowB na = some k) w w' → f (.slice a' (ns ++ [x]).length c') w') : OPR Tryz.prog (Builtin.append_ #[ty.L_int64, ty.L_int64] ty.L_int64 #[.slice na ns.length nc, .slice (some ⟨b, 0, none⟩) 1 1]) f w := by
  have hsrc : Rd w (some ⟨b, 0, none⟩) ([x].map i64V) := by
    have := Rd.of_block0 hb
    simpa using this
  obtain ⟨a5, c5, w2, hrun, hrow, hk5, hnw⟩ := append_row (ty := ty.L_int64) (mc := 1) tL64 rfl (by omega) (by omega) h.rn hsrc (m := 1) rfl (by simp [i64V]; rfl) (by omega)
  unfold OPR
  rw [hrun]
  have e : ns.length + 1 = (ns ++ [x]).length := by simp
  rw [e] at hrow ⊢
  refine hf a5 c5 w2 ⟨by rw [List.map_append]; exact hrow, h.rs.keeps hk5 fun k hk hr => h.ne k hr hk, fun k hk => ?_, h.sn, fun k hk hs => ?_⟩ hk5
  · rcases hnw k hk with h1 | h1
    · exact h.nn k h1
    · omega
  · rcases hnw k hk with h1 | h1
    · exact h.ne k h1 hs
    · have := h.rs.lt hs
      omega
theorem Two.appS (h : Two B w ns na nc ss sa sc) (hB : B ≤ w.heap.size) (hl : ss.length ≤ 1000000) {x : ByteArray} {b : Nat} {t : TypeId} (hb : w.heap[b]? = some (.cells #[.string x] t (0, 0))) {f : Value → World → Prop}
    (hf : ∀ a' c' w', Two B w' ns na nc (ss ++ [x]) a' c' → Keeps (fun k => rowB sa = some k) w w' → f (.slice a' (ss ++ [x]).length c') w') : OPR Tryz.prog (Builtin.append_ #[ty.L_string, ty.L_string] ty.L_string #[.slice sa ss.length sc, .slice (some ⟨b, 0, none⟩) 1 1]) f w := by
  have hsrc : Rd w (some ⟨b, 0, none⟩) ([x].map Value.string) := by
    have := Rd.of_block0 hb
    simpa using this
  obtain ⟨a5, c5, w2, hrun, hrow, hk5, hnw⟩ := append_row (ty := ty.L_string) (mc := 1) tS rfl (by omega) (by omega) h.rs hsrc (m := 1) rfl (by simp; rfl) (by omega)
  unfold OPR
  rw [hrun]
  have e : ss.length + 1 = (ss ++ [x]).length := by simp
  rw [e] at hrow ⊢
  refine hf a5 c5 w2 ⟨h.rn.keeps hk5 fun k hk hr => h.ne k hk hr, by rw [List.map_append]; exact hrow, h.nn, fun k hk => ?_, fun k hk hs => ?_⟩ hk5
  · rcases hnw k hk with h1 | h1
    · exact h.sn k h1
    · omega
  · rcases hnw k hs with h1 | h1
    · exact h.ne k hk h1
    · have := h.rn.lt hk
      omega
end
def numsL (ls : List Val) : List Int := (fullL ls).map (·.2.1)
def textsL (ls : List Val) : List ByteArray := (fullL ls).map (·.2.2)
theorem numsL_len (ls : List Val) : (numsL ls).length ≤ ls.length := by unfold numsL fullL; rw [List.length_map]; exact List.length_filter_le ..
theorem textsL_len (ls : List Val) : (textsL ls).length ≤ ls.length := by unfold textsL fullL; rw [List.length_map]; exact List.length_filter_le ..
theorem nums_take {ls : List Val} {i : Nat} (hi : i < ls.length) : (ls[i].1 = 0 → numsL (ls.take (i + 1)) = numsL (ls.take i) ∧ textsL (ls.take (i + 1)) = textsL (ls.take i)) ∧
    (ls[i].1 ≠ 0 → numsL (ls.take (i + 1)) = numsL (ls.take i) ++ [ls[i].2.1] ∧ textsL (ls.take (i + 1)) = textsL (ls.take i) ++ [ls[i].2.2]) := by
  unfold numsL textsL
  rw [fullL_take hi]
  constructor
  · intro h; simp [h]
  · intro h; simp [h]
/-- which bytes the values are that are not null -/
inductive OthIs (kind : Int) (ls : List Val) : List UInt8 → Prop
  | text (h : kind = 3) (b0 b1 : List UInt8) (h0 : EncIs (textsL ls) 0 b0) (h1 : EncIs (textsL ls) 1 b1) : OthIs kind ls (if b1.length < b0.length then b1 else b0)
  | num (h : kind ≠ 3) : OthIs kind ls (intsL (bestN (numsL ls)) (numsL ls))
theorem OthIs.one {kind : Int} {ls : List Val} {b c : List UInt8} (h : OthIs kind ls b) (h' : OthIs kind ls c) : b = c := by
  cases h with
  | text h b0 b1 h0 h1 =>
    cases h' with
    | text k c0 c1 k0 k1 => rw [h0.one k0, h1.one k1]
    | num k => exact absurd h k
  | num h =>
    cases h' with
    | text k c0 c1 k0 k1 => exact absurd k h
    | num k => rfl
structure Good1 (kind : Int) (ls : List Val) : Prop where
  right : rightL kind ls = true
  ok : ∀ v ∈ ls, ValOk v
theorem Good1.len {kind : Int} {ls : List Val} (h : Good1 kind ls) : ls.length ≤ 1024 := by
  have := h.right
  simp [rightL] at this
  omega
theorem Good1.kind {kind : Int} {ls : List Val} (h : Good1 kind ls) : 1 ≤ kind ∧ kind ≤ 3 := by
  have := h.right
  simp [rightL] at this
  omega
theorem Good1.all {kind : Int} {ls : List Val} (h : Good1 kind ls) : ∀ v ∈ ls, okV kind v = true := by
  have := h.right
  simp only [rightL, Bool.and_eq_true, List.all_eq_true] at this
  exact this.1
theorem Good1.nums {kind : Int} {ls : List Val} (h : Good1 kind ls) : ∀ x ∈ numsL ls, I64 x := by
  intro x hx
  obtain ⟨v, hv, rfl⟩ := List.mem_map.1 hx
  have := h.ok v (List.mem_filter.1 hv).1
  exact ⟨this.lo, this.hi⟩
theorem Good1.texts {kind : Int} {ls : List Val} (h : Good1 kind ls) : longB (textsL ls) = false := by
  unfold longB
  rw [List.any_eq_false]
  intro s hs
  obtain ⟨v, hv, rfl⟩ := List.mem_map.1 hs
  have := h.all v (List.mem_filter.1 hv).1
  simp only [okV, Bool.and_eq_true] at this
  have hr := this.1
  simp only [decide_eq_true_eq]
  unfold rightB at hr
  have hE : ∀ s : ByteArray, s = E0 → s.size = 0 := by rintro s rfl; rfl
  split at hr
  · simp at hr; have := hE _ hr.2; omega
  · split at hr
    · simp at hr; have := hE _ hr; omega
    · split at hr
      · simp at hr; have := hE _ hr.2; omega
      · split at hr
        · simp at hr; omega
        · cases hr
theorem Good1.enc {kind : Int} {ls : List Val} (h : Good1 kind ls) (f : Int) (hf : 0 ≤ f ∧ f ≤ 1) : encOk f (textsL ls) := ⟨hf.1, hf.2, by have := textsL_len ls; have := h.len; omega, h.texts⟩
theorem EncIs.len {f : Int} {ls : List ByteArray} {b : List UInt8} (hok : encOk f ls) (h : EncIs ls f b) : b.length ≤ 60000 + ls.length * 1034 := by
  obtain ⟨_, _, hn, hlong⟩ := hok
  have hz := longB_false hlong
  cases h with
  | plain =>
    have := laidL_len hz
    simp only [List.length_cons]
    omega
  | table t w ht hw =>
    have htl : t.length ≤ ls.length := by
      have := nodup_len (lt_nodup ht.up) (fun x hx => (ht.mem x).1 hx)
      simpa using this
    have htz : ∀ s ∈ t.map sof, s.size ≤ 1024 := by
      intro s hs
      obtain ⟨x, hx, rfl⟩ := List.mem_map.1 hs
      obtain ⟨s', hs', rfl⟩ := List.mem_map.1 ((ht.mem x).1 hx)
      rw [sof_bl]
      exact hz s' hs'
    have l1 := laidL_len htz
    rw [List.length_map] at l1
    have l2 := digitsL_len10 (n := t.length) (by omega)
    have hw13 : w ≤ 13 := hw.le.2 ((orL_lt _ _).2 fun x hx => by
      obtain ⟨s, hs, rfl⟩ := List.mem_map.1 hx
      have := List.idxOf_le_length (l := t) (a := bl s)
      omega)
    have hpl : (placesL t ls).length = ls.length := by simp [placesL]
    have l3 : (placesL t ls).length * w ≤ 4096 * 13 := Nat.mul_le_mul (by omega) hw13
    simp only [List.length_append, List.length_cons, packL_len]
    unfold sizeN
    omega
theorem OthIs.len {kind : Int} {ls : List Val} {b : List UInt8} (hg : Good1 kind ls) (h : OthIs kind ls b) : b.length ≤ 2000000 := by
  have l1 := textsL_len ls
  have l2 := numsL_len ls
  have l3 := hg.len
  cases h with
  | text h b0 b1 h0 h1 =>
    have k0 := h0.len (hg.enc 0 (by omega))
    have k1 := h1.len (hg.enc 1 (by omega))
    split <;> omega
  | num h =>
    have := intsL_len (bestN (numsL ls)) (by omega) hg.nums
    omega
section
variable {w : World} {a : Option Addr} {c : Nat} {ls : List Val}
/-- the texts, encoded: program -/
theorem texts_end {w wx : World} {kind : Int} {sa : Option Addr} {sc : Nat} (hg : Good1 kind ls) (hk : kind = 3) (hr : Rd wx sa ((textsL ls).map Value.string)) {k : Value → World → Prop}
    (hk : ∀ b a c w', OthIs kind ls b → NewB wx w' b a c → k (.slice a b.length c) w') (Q : World → Prop) (hQ : ∀ w', Below wx.heap.size wx w' → Q w') :
    Calls Tryz.prog f.dict_Best #[.slice sa (textsL ls).length sc] wx (fun e w30 => ∃ t330 : Int, ∃ t331 : Int, e = .returned (.tuple #[.int .i64 t330, .int .i64 t331]) ∧ Q w30 ∧
      Calls Tryz.prog f.dict_Encode #[.int .i64 t330, .slice sa (textsL ls).length sc] w30 (fun e w31 => ∃ (a : Option Addr) (l c : Nat), ∃ t391 : Int, e = .returned (.tuple #[.slice a l c, .int .i64 t391]) ∧ k (.slice a l c) w31)) := by
  have hn : (textsL ls).length ≤ 9223372036854775807 := by have := textsL_len ls; have := hg.len; omega
  refine (dict_Best_ok hr hn).mono ?_
  rintro _ w30 ⟨_, rfl, hB, B30⟩
  rcases hB with ⟨hno, _⟩ | ⟨b0, b1, h0, h1, _, rfl⟩
  · exact absurd (hg.enc 0 (by omega)) hno
  refine ⟨_, _, rfl, hQ _ B30, ?_⟩
  have hf : 0 ≤ (if b1.length < b0.length then (1 : Int) else 0) ∧ (if b1.length < b0.length then (1 : Int) else 0) ≤ 1 := by split <;> omega
  refine (dict_Encode_ok _ (hr.grown B30) hn).mono ?_
  rintro _ w31 ⟨_, rfl, hE⟩
  rcases hE with ⟨hno, _⟩ | ⟨_, b, a, c, hE, rfl, hN⟩
  · exact absurd (hg.enc _ hf) hno
  refine ⟨_, _, _, _, rfl, hk b a c w31 ?_ (hN.before B30)⟩
  have h3 : kind = 3 := by assumption
  have := OthIs.text (kind := kind) (ls := ls) h3 b0 b1 h0 h1
  split at hE
  · rename_i hlt
    rw [if_pos hlt] at this
    rw [hE.one h1]; exact this
  · rename_i hlt
    rw [if_neg hlt] at this
    rw [hE.one h0]; exact this
theorem nums_end {w wx : World} {kind : Int} {na : Option Addr} {nc : Nat} (hg : Good1 kind ls) (h3 : kind ≠ 3) (hr : Rd wx na ((numsL ls).map i64V)) (hc : (numsL ls).length ≤ nc) {k : Value → World → Prop}
    (hk : ∀ b a c w', OthIs kind ls b → NewB wx w' b a c → k (.slice a b.length c) w') (Q : World → Prop) (hQ : ∀ w', Below wx.heap.size wx w' → Q w') :
    Calls Tryz.prog f.ints_Best #[.slice na (numsL ls).length nc] wx (fun e w30 => ∃ t330 : Int, ∃ t331 : Int, e = .returned (.tuple #[.int .i64 t330, .int .i64 t331]) ∧ Q w30 ∧
      Calls Tryz.prog f.ints_Encode #[.int .i64 t330, .slice na (numsL ls).length nc] w30 (fun e w31 => ∃ (a : Option Addr) (l c : Nat), ∃ t391 : Int, e = .returned (.tuple #[.slice a l c, .int .i64 t391]) ∧ k (.slice a l c) w31)) := by
  have hn : (numsL ls).length ≤ 4096 := by have := numsL_len ls; have := hg.len; omega
  refine (ints_Best_ok hr hc hn hg.nums).mono ?_
  rintro _ w30 ⟨_, rfl, rfl, B30⟩
  refine ⟨_, _, rfl, hQ _ B30, ?_⟩
  refine (ints_Encode_ok _ (hr.grown B30) hc hg.nums).mono ?_
  rintro _ w31 ⟨_, rfl, hE⟩
  obtain ⟨a, c, rfl, hN⟩ := IntsV.good (bestN_le _) hn hE
  exact ⟨_, _, _, _, rfl, hk _ a c w31 (.num h3) (hN.before B30)⟩
theorem ref08_others_ok {kind : Int} (hg : Good1 kind ls) (hl : Rd w a (valsL ls)) :
    Calls Tryz.prog f.ref08_others #[.int .i64 kind, .slice a ls.length c] w (Ret fun v w' => ∃ b a' c', v = .slice a' b.length c' ∧ OthIs kind ls b ∧ NewB w w' b a' c') := by
  have hlen := hg.len
  apply R.ref08_others_calls
  unfold R.ref08_others
  refine ⟨fun s w1 => ∃ (i : Nat) (na : Option Addr) (nc : Nat) (sa : Option Addr) (sc : Nat), s = [.slice na (numsL (ls.take i)).length nc, .slice sa (textsL (ls.take i)).length sc, .int .i64 (i : Int)] ∧ i ≤ ls.length ∧ Two w.heap.size w1 (numsL (ls.take i)) na nc (textsL (ls.take i)) sa sc ∧ Below w.heap.size w w1, fun s _ => match s with
      | [_, _, .int _ i] => ls.length - i.toNat
      | _ => 0, ⟨0, none, 0, none, 0, rfl, by omega, Two.nil _ _, .refl _ _⟩, ?_⟩
  rintro na _ nc sa _ sc _ w1 ⟨i, _, _, _, _, hst, hi, hT, B1⟩
  cases hst
  have mes : ls.length - (IntKind.i64.wrap ((i : Int) + 1)).toNat < ls.length - ((i : Nat) : Int).toNat ∨ ¬ i < ls.length := by
    by_cases h : i < ls.length
    · left
      rw [wrap_succ (by omega)]
      simp only [Int.toNat_natCast]
      omega
    · exact .inr h
  refine IFB_dec (fun hlt => ⟨⟨by omega, hlt⟩, ?_⟩) (fun hge => ?_)
  · have hil : i < ls.length := by omega
    have mes := mes.resolve_right (by omega)
    obtain ⟨p, rfl, c0, c1, c2⟩ := val_at (hl.grown B1) hil
    obtain ⟨t0, t1⟩ := nums_take hil
    refine ⟨_, by rw [Int.toNat_natCast]; exact c0, IFB_ne (fun hne => ⟨⟨by omega, hlt⟩, _, by rw [Int.toNat_natCast]; exact c1, (SH.start (fun _ => False) w1).newB fun b2 w2 hb2 B2 S2 => ?_⟩) (fun hz => ?_)⟩
    · obtain ⟨e1, e2⟩ := t1 hne
      have C2 := below_trans B1 B2
      have hn1 := numsL_len (ls.take i)
      have hn2 := textsL_len (ls.take i)
      rw [List.length_take] at hn1 hn2
      refine (hT.grown B2).appN C2.size (by omega) (S2.get 0 rfl) fun a3 c3 w3 h3 K3 => ⟨_, _, _, rfl, ⟨by omega, hlt⟩, ?_⟩
      have C3 : Below w.heap.size w w3 := C2.trans (K3.below C2.size fun k hk he => by have := hT.nn k he; omega)
      obtain ⟨p', hp', _, _, c2'⟩ := val_at (hl.grown C3) hil
      cases hp'
      refine ⟨_, by rw [Int.toNat_natCast]; exact c2', (SH.start (fun _ => False) w3).newB fun b4 w4 hb4 B4 S4 => ?_⟩
      have C4 := below_trans C3 B4
      refine (h3.grown B4).appS C4.size (by omega) (S4.get 0 rfl) fun a5 c5 w5 h5 K5 => ⟨_, _, _, rfl, ?_⟩
      refine ⟨⟨i + 1, a3, c3, a5, c5, ?_, by omega, by rw [e1, e2]; exact h5, C4.trans (K5.below C4.size fun k hk he => by have := hT.sn k he; omega)⟩, mes⟩
      rw [e1, e2, wrap_succ (by omega)]
    · obtain ⟨e1, e2⟩ := t0 hz
      refine ⟨⟨i + 1, na, nc, sa, sc, ?_, by omega, by rw [e1, e2]; exact hT, B1⟩, mes⟩
      rw [e1, e2, wrap_succ (by omega)]
  · have hie : ls.take i = ls := List.take_of_length_le (by omega)
    rw [hie] at hT ⊢
    have hn4 : (textsL ls).length ≤ 9223372036854775807 := by have := textsL_len ls; omega
    have hn5 : (numsL ls).length ≤ 4096 := by have := numsL_len ls; omega
    refine IFB_eq (fun h3 => ?_) (fun h3 => ?_)
    · refine (ref_Best_ok hT.rs.rd hn4).mono ?_
      rintro _ w30 ⟨_, rfl, hB, B30⟩
      rcases hB with ⟨hno, _⟩ | ⟨b0, b1, h0, h1, _, rfl⟩
      · exact absurd (hg.enc 0 (by omega)) hno
      refine ⟨_, _, rfl, ?_⟩
      have hf : 0 ≤ (if b1.length < b0.length then (1 : Int) else 0) ∧ (if b1.length < b0.length then (1 : Int) else 0) ≤ 1 := by split <;> omega
      refine (ref_Encode_ok _ (hT.rs.rd.grown B30) hn4).mono ?_
      rintro _ w31 ⟨_, rfl, hE⟩
      rcases hE with ⟨hno, _⟩ | ⟨_, b, a, c, hE, rfl, hN⟩
      · exact absurd (hg.enc _ hf) hno
      refine ⟨_, _, _, _, rfl, b, a, c, rfl, ?_, hN.before (below_trans B1 B30)⟩
      have := OthIs.text (kind := kind) (ls := ls) h3 b0 b1 h0 h1
      split at hE
      · rename_i hlt
        rw [if_pos hlt] at this
        rw [hE.one h1]; exact this
      · rename_i hlt
        rw [if_neg hlt] at this
        rw [hE.one h0]; exact this
    · refine (ref_ints_Best_ok hT.rn.rd hn5 hg.nums).mono ?_
      rintro _ w30 ⟨_, rfl, rfl, B30⟩
      refine ⟨_, _, rfl, (ref_ints_Encode_ok _ (hT.rn.rd.grown B30) hg.nums).mono ?_⟩
      rintro _ w31 ⟨_, rfl, hE⟩
      obtain ⟨a, c, rfl, hN⟩ := IntsV.good (bestN_le _) hn5 hE
      exact ⟨_, _, _, _, rfl, _, a, c, rfl, .num h3, hN.before (below_trans B1 B30)⟩
end
end Go.Proofs.YtbkffpcgppecgaaGreat

/-
  The values that are not null, encoded: the program's way (a range over a function).
-/
namespace Go.Proofs.YtbkffpcgppecgaaGreat
open Go.Dn Go.Proofs
open Go.RowKit (Below)
set_option linter.unusedVariables false
set_option maxRecDepth 20000
section
variable {w : World} {a : Option Addr} {c : Nat} {ls : List Val}
theorem chunk_encoded_ok {kind : Int} (hg : Good1 kind ls) (hl : Rd w a (valsL ls)) :
    Calls Tryz.prog f.chunk_encoded #[.int .i64 kind, .slice a ls.length c] w (Ret fun v w' => ∃ b a' c', v = .slice a' b.length c' ∧ OthIs kind ls b ∧ NewB w w' b a' c') := by
  have hlen := hg.len
  apply R.chunk_encoded_calls
  unfold R.chunk_encoded
  refine (SH.start (fun _ => False) w).newB fun b3 w1 hb3 B1 S1 => S1.newB fun b4 w2 hb4 B2 S2 => chunk_full_ok.mono ?_
  rintro _ w9 ⟨_, rfl, bI, rfl, P9⟩
  refine ⟨_, _, _, rfl, by kernel_rfl, fun rr hst hpe hy => ?_⟩
  obtain ⟨W1, hW1⟩ : ∃ W1, W1 = (w9.alloc (.deferred (some []))).alloc (.loop rr) := ⟨_, rfl⟩
  rw [← hW1]
  have B91 : Below w9.heap.size w9 W1 := by rw [hW1]; exact (((Below.refl _ w9).alloc (Nat.le_refl _) _).alloc (by simp) _)
  have sz1 : W1.heap.size = w9.heap.size + 2 := by rw [hW1]; simp
  have hL1 : W1.heap[w9.heap.size + 1]? = some (.loop rr) := by
    rw [hW1]; have := World.alloc_heap_new (w9.alloc (.deferred (some []))) (.loop rr); rwa [World.size_alloc] at this
  have hD1 : W1.heap[w9.heap.size]? = some (.deferred (some [])) := by
    rw [hW1]; exact (Below.heap_alloc _ _ _ (by simp)).trans (World.alloc_heap_new w9 _)
  have K91 := Keeps.of_below (F := fun _ => False) B91
  obtain ⟨L, hLd⟩ : ∃ L, L = w9.heap.size + 1 := ⟨_, rfl⟩
  rw [← hLd] at hL1 hy ⊢
  have S9 := S2.grown P9.below
  have h39 := S9.lt (x := (b3, _, _)) (List.mem_cons_of_mem _ (List.mem_cons_self ..))
  have h49 := S9.lt (x := (b4, _, _)) (List.mem_cons_self ..)
  have hb34 : b4 ≠ b3 := S9.ne 0 1 rfl rfl (by decide)
  have Bw9 : Below w.heap.size w w9 := S9.below
  have Bw1 : Below w.heap.size w W1 := Bw9.trans (B91.mono Bw9.size)
  have w09 := Bw9.size
  have hb3w : w.heap.size ≤ b3 := hb3
  have hb4w : w.heap.size ≤ b4 := by have := B1.size; omega
  let F : Nat → Prop := fun x => x = b3 ∨ x = b4 ∨ x = L
  let J : Nat → World → Prop := fun q wx => Keeps F W1 wx ∧ wx.heap[L]? = some (.loop rr) ∧ ∃ na nc sa sc, wx.heap[b3]? = some (.cells #[.slice na (numsL (ls.take q)).length nc] ty.L_int64 (0, 0)) ∧
    wx.heap[b4]? = some (.cells #[.slice sa (textsL (ls.take q)).length sc] ty.L_string (0, 0)) ∧ Two W1.heap.size wx (numsL (ls.take q)) na nc (textsL (ls.take q)) sa sc
  have low : ∀ {w' : World}, Keeps F W1 w' → Below w.heap.size w w' := fun K => Bw1.trans (K.below Bw1.size fun k hk h => by
    rcases h with h | h | h <;> omega)
  have hI : W1.cell? ⟨bI, 0, none⟩ = some (.slice a ls.length c) := cell0 (K91.at (P9.get 0 rfl) (by simp))
  have hcall := full_c1_ok (w := W1) (L := L) (b := bI) (by omega) J (fun q wx hj => hl.grown (low hj.1)) (fun q wx wy hj B => by
      obtain ⟨j1, j2, na, nc, sa, sc, j3, j4, j5⟩ := hj
      have K := Keeps.of_below (F := fun _ => False) B
      exact ⟨j1.trans K (fun x _ h => h.elim), K.at j2 (by simp), na, nc, sa, sc, K.at j3 (by simp), K.at j4 (by simp), j5.grown B⟩) (fun q wx hq hz hj => by
      obtain ⟨j1, j2, na, nc, sa, sc, j3, j4, j5⟩ := hj
      obtain ⟨e1, e2⟩ := (nums_take hq).1 hz
      exact ⟨j1, j2, na, nc, sa, sc, by rw [e1]; exact j3, by rw [e2]; exact j4, by rw [e1, e2]; exact j5⟩) (by
    rintro q wx hq hne ⟨K, hL, na, nc, sa, sc, g3, g4, hT⟩
    obtain ⟨e1, e2⟩ := (nums_take hq).2 hne
    have hn1 := numsL_len (ls.take q)
    have hn2 := textsL_len (ls.take q)
    rw [List.length_take] at hn1 hn2
    refine hy _ _ _ _ wx hL ?_
    refine (SH.start (fun _ => False) wx).lit3 fun b11 w8 hb11 B8 S8 => ?_
    have K8 := Keeps.of_below (F := fun _ => False) B8
    have hL8 := K8.at hL (by simp)
    refine ⟨hL8, ?_⟩
    obtain ⟨wB, hwB⟩ : ∃ wB, wB = w8.putObj L (.loop { rr with state := .busy }) := ⟨_, rfl⟩
    rw [← hwB]
    have hLlt : L < w8.heap.size := (Array.getElem?_eq_some_iff.1 hL8).1
    have KB : Keeps (fun k => k = L) w8 wB := by rw [hwB]; exact keeps_putObj _ _ _
    have hLB : wB.heap[L]? = some (.loop { rr with state := .busy }) := by rw [hwB]; exact World.putObj_heap_same hLlt
    unfold DRAW
    obtain ⟨wD, hwD⟩ : ∃ wD, wD = wB.drew := ⟨_, rfl⟩
    rw [← hwD]
    have KD : Keeps (fun _ => False) wB wD := by rw [hwD]; exact (Keeps.refl _ _).drew
    have sx := K.size
    have s8 := B8.size
    -- facts at wD
    have d3 : wD.heap[b3]? = some (.cells #[.slice na (numsL (ls.take q)).length nc] ty.L_int64 (0, 0)) := KD.at (KB.at (K8.at g3 (by simp)) (by show ¬ b3 = L; omega)) (by simp)
    have d4 : wD.heap[b4]? = some (.cells #[.slice sa (textsL (ls.take q)).length sc] ty.L_string (0, 0)) := KD.at (KB.at (K8.at g4 (by simp)) (by show ¬ b4 = L; omega)) (by simp)
    have dL : wD.heap[L]? = some (.loop { rr with state := .busy }) := KD.at hLB (by simp)
    have d11 : wD.heap[b11]? = some (.cells #[.int .i64 ls[q].1, .int .i64 ls[q].2.1, .string ls[q].2.2] ty.api_Value (0, 0)) := KD.at (KB.at (S8.get 0 rfl) (by show ¬ b11 = L; omega)) (by simp)
    have dT : Two W1.heap.size wD (numsL (ls.take q)) na nc (textsL (ls.take q)) sa sc := ((hT.grown B8).keeps KB (fun x hx => .inl (by omega))).keeps KD (by simp)
    have dK : Keeps F W1 wD := ((K.trans K8 (fun x _ h => h.elim)).trans KB (fun x _ h => .inr (.inr h))).trans KD (fun x _ h => h.elim)
    have l3 : b3 < W1.heap.size := by omega
    have l4 : b4 < W1.heap.size := by omega
    have lL : L < W1.heap.size := by omega
    have l11 : W1.heap.size ≤ b11 := by omega
    -- the end: both stores
    have fin : ∀ (wy : World) (na' : Option Addr) (nc' : Nat) (sa' : Option Addr) (sc' : Nat), Keeps F W1 wy → wy.heap[L]? = some (.loop { rr with state := .busy }) → wy.heap[b3]? = some (.cells #[.slice na (numsL (ls.take q)).length nc] ty.L_int64 (0, 0)) →
        wy.heap[b4]? = some (.cells #[.slice sa (textsL (ls.take q)).length sc] ty.L_string (0, 0)) → Two W1.heap.size wy (numsL (ls.take q) ++ [ls[q].2.1]) na' nc' (textsL (ls.take q) ++ [ls[q].2.2]) sa' sc' →
        STO ⟨b3, 0, none⟩ (.slice na' (numsL (ls.take q) ++ [ls[q].2.1]).length nc') (fun w15 => STO ⟨b4, 0, none⟩ (.slice sa' (textsL (ls.take q) ++ [ls[q].2.2]).length sc') (fun w16 => ENDR rr L (fun y w' => y = true ∧ (Keeps F W1 w' ∧ w'.heap[L]? = some (.loop rr) ∧ ∃ na nc sa sc, w'.heap[b3]? = some (.cells #[.slice na (numsL (ls.take (q + 1))).length nc] ty.L_int64 (0, 0)) ∧
    w'.heap[b4]? = some (.cells #[.slice sa (textsL (ls.take (q + 1))).length sc] ty.L_string (0, 0)) ∧ Two W1.heap.size w' (numsL (ls.take (q + 1))) na nc (textsL (ls.take (q + 1))) sa sc)) none w16) w15) wy := by
      intro wy na' nc' sa' sc' yK yL y3 y4 yT
      refine sto_blk y3 (by simp) fun wz Kz z3 => sto_blk (Kz.at y4 hb34) (by simp) fun wq Kq q4 => ?_
      have qL : wq.heap[L]? = some (.loop { rr with state := .busy }) := Kq.at (Kz.at yL (by show ¬ L = b3; omega)) (by show ¬ L = b4; omega)
      refine ⟨qL, rfl, ?_⟩
      rw [rr_eta hst hpe]
      have lq : L < wq.heap.size := (Array.getElem?_eq_some_iff.1 qL).1
      have KP := keeps_putObj wq L (.loop rr)
      have q3 := Kq.at z3 (show ¬ b3 = b4 from fun h => hb34 h.symm)
      refine ⟨((yK.trans Kz (fun x _ h => .inl h)).trans Kq (fun x _ h => .inr (.inl h))).trans KP (fun x _ h => .inr (.inr h)), World.putObj_heap_same lq, na', nc', sa', sc', ?_, ?_, ?_⟩
      · rw [e1]; exact KP.at q3 (by show ¬ b3 = L; omega)
      · rw [e2]; exact KP.at q4 (by show ¬ b4 = L; omega)
      · rw [e1, e2]
        exact ((yT.keeps Kz (fun x hx => .inl (by omega))).keeps Kq (fun x hx => .inl (by omega))).keeps KP (fun x hx => .inl (by omega))
    have offN : ∀ {x : Nat}, x < W1.heap.size → ¬ rowB na = some x := fun hx h => by have := hT.nn _ h; omega
    have offS : ∀ {x : Nat}, x < W1.heap.size → ¬ rowB sa = some x := fun hx h => by have := hT.sn _ h; omega
    have sB : w8.heap.size ≤ wB.heap.size := KB.size
    have sD : wB.heap.size ≤ wD.heap.size := KD.size
    have c11a : wD.cell? ⟨b11, 1, none⟩ = some (.int .i64 ls[q].2.1) := by simp [World.cell?, d11]
    have c11b : wD.cell? ⟨b11, 2, none⟩ = some (.string ls[q].2.2) := by simp [World.cell?, d11]
    refine ⟨_, _, _, cell0 d3, _, c11a, _, _, _, cell0 d4, _, c11b, ?_, ?_⟩
    · refine (SH.start (fun _ => False) wD).newB fun b16 wE hb16 BE SE => ?_
      have KE := Keeps.of_below (F := fun _ => False) BE
      have f3 := KE.at d3 (by simp)
      have f4 := KE.at d4 (by simp)
      have fL := KE.at dL (by simp)
      have f11 := KE.at d11 (by simp)
      have fT := dT.grown BE
      have fK : Keeps F W1 wE := dK.trans KE (fun x _ h => h.elim)
      have sE := BE.size
      refine ⟨by simp [World.cell?, f11], cell0 f4, cell0 f3, ?_, ?_⟩
      · refine fT.appN (by omega) (by omega) (SE.get 0 rfl) fun aN cN wN hN KN => ⟨_, _, _, rfl, ?_⟩
        have n11 : ¬ rowB na = some b11 := fun h => by have := hT.rn.lt h; omega
        have m11 := KN.at f11 n11
        have m3 := KN.at f3 (offN l3)
        have m4 := KN.at f4 (offN l4)
        have mL := KN.at fL (offN lL)
        have mK : Keeps F W1 wN := fK.trans KN (fun x hx h => absurd h (offN hx))
        have sN := KN.size
        refine ⟨by simp [World.cell?, m11], cell0 m4, (SH.start (fun _ => False) wN).newB fun b19 wO hb19 BO SO => ⟨cell0 ((Keeps.of_below (F := fun _ => False) BO).at m4 (by simp)), ?_⟩⟩
        have KO := Keeps.of_below (F := fun _ => False) BO
        have sO := BO.size
        refine (hN.grown BO).appS (by omega) (by omega) (SO.get 0 rfl) fun aS cS wS hS KS => ⟨_, _, _, rfl, ?_⟩
        refine fin wS aN cN aS cS ((mK.trans KO (fun x _ h => h.elim)).trans KS (fun x hx h => absurd h (offS hx))) (KS.at (KO.at mL (by simp)) (offS lL)) (KS.at (KO.at m3 (by simp)) (offS l3)) (KS.at (KO.at m4 (by simp)) (offS l4)) hS
      · refine (SH.start (fun _ => False) wE).newB fun b22 wO hb22 BO SO => ?_
        have KO := Keeps.of_below (F := fun _ => False) BO
        have sO := BO.size
        have o3 := KO.at f3 (by simp)
        have o4 := KO.at f4 (by simp)
        have oL := KO.at fL (by simp)
        have o16 : wO.heap[b16]? = some (.cells #[.int .i64 ls[q].2.1] ty.int64 (0, 0)) := KO.at (SE.get 0 rfl) (by simp)
        have oK : Keeps F W1 wO := fK.trans KO (fun x _ h => h.elim)
        refine ⟨cell0 o4, cell0 o3, (fT.grown BO).appN (by omega) (by omega) o16 fun aN cN wN hN KN => ⟨_, _, _, rfl, cell0 (KN.at o4 (offN l4)), ?_⟩⟩
        have n22 : ¬ rowB na = some b22 := fun h => by have := hT.rn.lt h; omega
        have sN := KN.size
        refine hN.appS (by omega) (by omega) (KN.at (SO.get 0 rfl) n22) fun aS cS wS hS KS => ⟨_, _, _, rfl, ?_⟩
        exact fin wS aN cN aS cS ((oK.trans KN (fun x hx h => absurd h (offN hx))).trans KS (fun x hx h => absurd h (offS hx))) (KS.at (KN.at oL (offN lL)) (offS lL)) (KS.at (KN.at o3 (offN l3)) (offS l3)) (KS.at (KN.at o4 (offN l4)) (offS l4)) hS
    · refine (SH.start (fun _ => False) wD).newB fun b27 wE hb27 BE SE => ?_
      have KE := Keeps.of_below (F := fun _ => False) BE
      have f3 := KE.at d3 (by simp)
      have f4 := KE.at d4 (by simp)
      have fL := KE.at dL (by simp)
      have f11 := KE.at d11 (by simp)
      have fT := dT.grown BE
      have fK : Keeps F W1 wE := dK.trans KE (fun x _ h => h.elim)
      have sE := BE.size
      refine ⟨cell0 f4, by simp [World.cell?, f11], cell0 f3, (SH.start (fun _ => False) wE).newB fun b28 wO hb28 BO SO => ?_⟩
      have KO := Keeps.of_below (F := fun _ => False) BO
      have sO := BO.size
      have o3 := KO.at f3 (by simp)
      have o4 := KO.at f4 (by simp)
      have oL := KO.at fL (by simp)
      have o27 : wO.heap[b27]? = some (.cells #[.string ls[q].2.2] ty.string (0, 0)) := KO.at (SE.get 0 rfl) (by simp)
      have oK : Keeps F W1 wO := fK.trans KO (fun x _ h => h.elim)
      refine ⟨cell0 o4, cell0 o3, (fT.grown BO).appN (by omega) (by omega) (SO.get 0 rfl) fun aN cN wN hN KN => ⟨_, _, _, rfl, cell0 (KN.at o4 (offN l4)), ?_⟩⟩
      have n27 : ¬ rowB na = some b27 := fun h => by have := hT.rn.lt h; omega
      have sN := KN.size
      refine hN.appS (by omega) (by omega) (KN.at o27 n27) fun aS cS wS hS KS => ⟨_, _, _, rfl, ?_⟩
      exact fin wS aN cN aS cS ((oK.trans KN (fun x hx h => absurd h (offN hx))).trans KS (fun x hx h => absurd h (offS hx))) (KS.at (KN.at oL (offN lL)) (offS lL)) (KS.at (KN.at o3 (offN l3)) (offS l3)) (KS.at (KN.at o4 (offN l4)) (offS l4)) hS)
    ⟨.refl _ _, hL1, none, 0, none, 0, K91.at (S9.get 1 rfl) (by simp), K91.at (S9.get 0 rfl) (by simp), Two.nil _ _⟩ hI
  refine hcall.mono ?_
  rintro _ w14 ⟨_, rfl, K14, hL14, na, nc, sa, sc, g3, g4, hT⟩
  rw [List.take_length] at g3 g4 hT
  refine ⟨⟨_, rfl⟩, none, by rw [rr_eta hst hpe]; exact hL14, rfl, ?_⟩
  obtain ⟨w15, hw15⟩ : ∃ w15, w15 = w14.putObj L (.loop { rr with state := .exhausted, pending := none }) := ⟨_, rfl⟩
  rw [← hw15]
  have K15 : Keeps (fun k => k = L) w14 w15 := by rw [hw15]; exact keeps_putObj _ _ _
  have KF := K14.trans K15 (fun x _ h => .inr (.inr h))
  have g3' := K15.at g3 (show ¬ b3 = L by omega)
  have g4' := K15.at g4 (show ¬ b4 = L by omega)
  have hT' := hT.keeps K15 (fun x hx => .inl (by omega))
  have hD15 : w15.heap[w9.heap.size]? = some (.deferred (some [])) := KF.at hD1 (by show ¬ (w9.heap.size = b3 ∨ w9.heap.size = b4 ∨ w9.heap.size = L); omega)
  have B15 := low KF
  have hn4 : (textsL ls).length ≤ 9223372036854775807 := by have := textsL_len ls; omega
  have hn5 : (numsL ls).length ≤ 4096 := by have := numsL_len ls; omega
  have s15 := KF.size
  have fin2 : ∀ {wz : World} {b : List UInt8} {az : Option Addr} {cz : Nat}, NewB w15 wz b az cz → wz.heap[w9.heap.size]? = some (.deferred (some [])) ∧ NewB w (wz.putObj w9.heap.size (.deferred none)) b az cz := by
    intro wz b az cz hN
    have KP := keeps_putObj wz w9.heap.size (.deferred none)
    have hB := below_trans B15 hN.bel
    refine ⟨(Keeps.of_below (F := fun _ => False) hN.bel).at hD15 (by simp), hN.row.keeps KP fun x hx he => by have := hN.new x hx; omega, fun k hk => by have := hN.new k hk; omega, hB.trans (KP.below hB.size fun k hk he => by omega)⟩
  refine IFB_eq (fun h3 => ⟨_, _, _, cell0 g4', ?_⟩) (fun h3 => ⟨_, _, _, cell0 g3', ?_⟩)
  · refine (dict_Best_ok hT'.rs.rd hn4).mono ?_
    rintro _ w30 ⟨_, rfl, hB, B30⟩
    rcases hB with ⟨hno, _⟩ | ⟨b0, b1, h0, h1, _, rfl⟩
    · exact absurd (hg.enc 0 (by omega)) hno
    refine ⟨_, _, rfl, _, _, _, cell0 ((Keeps.of_below (F := fun _ => False) B30).at g4' (by simp)), ?_⟩
    have hf : 0 ≤ (if b1.length < b0.length then (1 : Int) else 0) ∧ (if b1.length < b0.length then (1 : Int) else 0) ≤ 1 := by split <;> omega
    refine (dict_Encode_ok _ (hT'.rs.rd.grown B30) hn4).mono ?_
    rintro _ w31 ⟨_, rfl, hE⟩
    rcases hE with ⟨hno, _⟩ | ⟨_, b, az, cz, hE, rfl, hN⟩
    · exact absurd (hg.enc _ hf) hno
    obtain ⟨q1, q2⟩ := fin2 (hN.before B30)
    refine ⟨_, _, _, _, rfl, q1, b, az, cz, rfl, ?_, q2⟩
    have := OthIs.text (kind := kind) (ls := ls) h3 b0 b1 h0 h1
    split at hE
    · rename_i hlt
      rw [if_pos hlt] at this
      rw [hE.one h1]; exact this
    · rename_i hlt
      rw [if_neg hlt] at this
      rw [hE.one h0]; exact this
  · refine (ints_Best_ok hT'.rn.rd hT'.rn.le hn5 hg.nums).mono ?_
    rintro _ w30 ⟨_, rfl, rfl, B30⟩
    refine ⟨_, _, rfl, _, _, _, cell0 ((Keeps.of_below (F := fun _ => False) B30).at g3' (by simp)), (ints_Encode_ok _ (hT'.rn.rd.grown B30) hT'.rn.le hg.nums).mono ?_⟩
    rintro _ w31 ⟨_, rfl, hE⟩
    obtain ⟨az, cz, rfl, hN⟩ := IntsV.good (bestN_le _) hn5 hE
    obtain ⟨q1, q2⟩ := fin2 (hN.before B30)
    exact ⟨_, _, _, _, rfl, q1, _, az, cz, rfl, .num h3, q2⟩
end
end Go.Proofs.YtbkffpcgppecgaaGreat

/-
  Seal and Unseal, the program's and the reference's.
-/
namespace Go.Proofs.YtbkffpcgppecgaaGreat
open Go.Dn Go.Proofs
open Go.RowKit (Below)
set_option linter.unusedVariables false

theorem tmod2 (r : BitVec 32) : Int.tmod (r.toNat : Int) 2 = if r.getLsbD 0 then 1 else 0 := by
  rw [Int.tmod_eq_emod_of_nonneg (by omega)]
  have h : r.getLsbD 0 = decide (r.toNat % 2 = 1) := by
    simp [BitVec.getLsbD, Nat.testBit_zero]
  rw [h]
  by_cases hh : r.toNat % 2 = 1 <;> simp [hh] <;> omega
theorem tdiv2 (r : BitVec 32) : Int.tdiv (r.toNat : Int) 2 = ((r >>> 1).toNat : Int) := by
  rw [Int.tdiv_eq_ediv_of_nonneg (by omega), BitVec.toNat_ushiftRight, Nat.shiftRight_eq_div_pow]
  norm_cast

theorem ref02_Sum_ok {w : World} {a : Option Addr} {c : Nat} (l : List UInt8) (hb : Rd w a (l.map byteV)) (hl : l.length < 9223372036854775807) :
    Calls Tryz.prog f.ref02_Sum #[.slice a l.length c] w (Ret fun v w' => v = .int .u32 ((crc l).toNat : Int) ∧ w' = w) := by
  apply R.ref02_Sum_calls
  unfold R.ref02_Sum
  refine ⟨fun s w2 => match s with
      | [.int _ r, .int _ i] => w2 = w ∧ ∃ j : Nat, i = j ∧ j ≤ l.length ∧ r = ((crcRest 4294967295#32 (l.take j)).toNat : Int)
      | _ => False,
    fun s _ => match s with
      | [_, .int _ i] => l.length - i.toNat
      | _ => 0, ⟨rfl, 0, rfl, Nat.zero_le _, by simp [crcRest]⟩, ?_⟩
  rintro r i w2 ⟨rfl, j, rfl, hj, rfl⟩
  refine IFB_dec (fun hlt2 => ?_) (fun hge2 => ?_)
  · have hjl : j < l.length := by omega
    refine ⟨⟨by omega, by omega⟩, ?_⟩
    obtain ⟨p2, rfl, hc2⟩ := hb j (byteV l[j]) (by simp [hjl])
    have hsn := crcRest_take_snoc l j hjl 4294967295#32
    generalize hR2 : crcRest 4294967295#32 (l.take j) = R2 at hsn ⊢
    refine ⟨(l[j].toNat : Int), by simpa [byteV] using hc2, ?_⟩
    have h0 : (IntKind.u32.wrap (((BitVec.ofInt 32 (R2.toNat : Int) ^^^ BitVec.ofInt 32 (IntKind.u32.wrap ((l[j].toNat : Int)))).toNat : Int))) = ((R2 ^^^ byte32 l[j]).toNat : Int) := by
      rw [ofInt_wrap32, ofInt_nat, wrap32_nat, BitVec.ofInt_natCast]
      rfl
    rw [h0]
    refine ⟨fun s w3 => match s with
        | [.int _ r, .int _ i] => w3 = w2 ∧ ∃ m : Nat, i = m ∧ m ≤ 8 ∧ r = ((crcSteps m (R2 ^^^ byte32 l[j])).toNat : Int)
        | _ => False,
      fun s _ => match s with
        | [_, .int _ i] => 8 - i.toNat
        | _ => 0, ⟨rfl, 0, rfl, Nat.zero_le _, by simp [crcSteps]⟩, ?_⟩
    rintro r i w3 ⟨rfl, m, rfl, hm, rfl⟩
    refine IFB_dec (fun hlt3 => ?_) (fun hge3 => ?_)
    · have hst := crcSteps_snoc m (R2 ^^^ byte32 l[j])
      generalize crcSteps m (R2 ^^^ byte32 l[j]) = q at hst ⊢
      simp only [tmod2, tdiv2, wrap32_nat]
      rw [wrap_succ (by omega)]
      cases hh : q.getLsbD 0 with
      | true =>
        refine IFB_true ?_
        rw [ofInt_nat]
        refine ⟨⟨trivial, m + 1, rfl, by omega, ?_⟩, ?_⟩
        · rw [hst, crcStep_eq, hh]; rfl
        · simp only [Int.toNat_natCast]; omega
      | false =>
        refine IFB_false ?_
        refine ⟨⟨trivial, m + 1, rfl, by omega, ?_⟩, ?_⟩
        · rw [hst, crcStep_eq, hh]; simp
        · simp only [Int.toNat_natCast]; omega
    · have : m = 8 := by omega
      subst this
      rw [wrap_succ (by omega)]
      refine ⟨⟨rfl, j + 1, rfl, by omega, by rw [hsn]; rfl⟩, ?_⟩
      simp only [Int.toNat_natCast]
      omega
  · have : j = l.length := by omega
    subst this
    refine ⟨?_, rfl⟩
    rw [List.take_length, ofInt_nat, wrap32_nat, BitVec.xor_comm]
    rfl

theorem sealed_bytes (x : BitVec 32) (w : World) (b : Nat) (t : TypeId) (hb : w.heap[b]? = some (.cells #[.int .u8 (IntKind.u8.wrap (x.toNat : Int)), .int .u8 (IntKind.u8.wrap ((Int.fdiv (x.toNat : Int) (2 ^ (min 8 32))))), .int .u8 (IntKind.u8.wrap ((Int.fdiv (x.toNat : Int) (2 ^ (min 16 32))))), .int .u8 (IntKind.u8.wrap ((Int.fdiv (x.toNat : Int) (2 ^ (min 24 32)))))] t (0, 0))) :
    Rd w (some ⟨b, 0, none⟩) ((sum4 x).map byteV) := by
  have := Rd.of_block0 hb
  rw [u8of_nat, u8of_shift, u8of_shift, u8of_shift] at this
  exact this

end Go.Proofs.YtbkffpcgppecgaaGreat
