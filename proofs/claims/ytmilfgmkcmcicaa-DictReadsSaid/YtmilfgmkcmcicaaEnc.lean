/-
  What bytes a list of texts is; a list without long texts.
-/
import Derived.Test.YtmilfgmkcmcicaaLaid
namespace Go.Proofs.Ytmilfgmkcmcicaa
open Go.Dn Go.Proofs
open Go.RowKit (Below)
set_option linter.unusedVariables false
set_option maxRecDepth 20000

def longB (ls : List ByteArray) : Bool := ls.any fun s => decide (1024 < s.size)
theorem longB_false {ls : List ByteArray} (h : longB ls = false) : ∀ s ∈ ls, s.size ≤ 1024 := by
  intro s hs
  have := List.any_eq_false.1 h s hs
  simpa using this
theorem long_ok (w : World) (s : ByteArray) : Calls Try.prog f.dict_Encode_c1 #[.string s] w (Ret fun v w' => w' = w ∧ v = .bool (decide (1024 < s.size))) := by
  apply R.dict_Encode_c1_calls
  unfold R.dict_Encode_c1
  refine ⟨rfl, ?_⟩
  congr 1
  rw [Bool.eq_iff_iff]
  simp
  omega
theorem enters_long : enters Try.prog f.dict_Encode_c1 = true := by kernel_rfl
section
variable {w : World} {a : Option Addr} {c : Nat} {ls : List ByteArray}
theorem ContainsFunc_ok (hl : Rd w a (ls.map Value.string)) (hn : ls.length ≤ 9223372036854775807) :
    Calls Try.prog f.slices_ContainsFunc_string_string #[.slice a ls.length c, .func (.func f.dict_Encode_c1) #[] #[]] w (Ret fun v w' => w' = w ∧ v = .bool (longB ls)) := by
  have idx : Calls Try.prog f.slices_IndexFunc_string_string #[.slice a ls.length c, .func (.func f.dict_Encode_c1) #[] #[]] w (Ret fun v w' => w' = w ∧ ∃ i : Int, v = .int .i64 i ∧ (0 ≤ i ↔ longB ls = true)) := by
    apply R.slices_IndexFunc_string_string_calls
    unfold R.slices_IndexFunc_string_string
    refine ⟨fun s w1 => w1 = w ∧ ∃ k : Nat, k ≤ ls.length ∧ s = [.int .i64 (k : Int)] ∧ longB (ls.take k) = false, fun s _ => match s with
        | [.int _ i] => ls.length - i.toNat
        | _ => 0, ⟨rfl, 0, by omega, rfl, rfl⟩, ?_⟩
    rintro _ w1 ⟨rfl, k, hk, hs, hlo⟩
    cases hs
    refine IFB_dec (fun hlt => ⟨⟨by omega, hlt⟩, ?_⟩) (fun hge => ?_)
    · have hkl : k < ls.length := by omega
      obtain ⟨p, rfl, hc⟩ := str_at hl hkl
      refine ⟨_, by rw [Int.toNat_natCast]; exact hc, ?_⟩
      rw [enters_long]
      refine (long_ok w1 ls[k]).mono ?_
      rintro _ w2 ⟨_, rfl, rfl, rfl⟩
      refine ⟨_, rfl, IFB_dec (fun h => ⟨rfl, _, rfl, ?_⟩) (fun h => ?_)⟩
      · refine ⟨fun _ => ?_, fun _ => by omega⟩
        exact List.any_eq_true.2 ⟨ls[k], List.getElem_mem hkl, by simpa using h⟩
      · rw [wrap_succ (by omega)]
        refine ⟨⟨rfl, k + 1, by omega, rfl, ?_⟩, ?_⟩
        · unfold longB at hlo ⊢
          rw [List.take_succ_eq_append_getElem hkl, List.any_append, hlo]
          simp
          omega
        · simp only [Int.toNat_natCast]
          omega
    · have hkk : ls.take k = ls := List.take_of_length_le (by omega)
      rw [hkk] at hlo
      refine ⟨rfl, _, rfl, ?_⟩
      rw [hlo]
      simp
  apply R.slices_ContainsFunc_string_string_calls
  unfold R.slices_ContainsFunc_string_string
  refine idx.mono ?_
  rintro _ w1 ⟨_, rfl, rfl, i, rfl, hi⟩
  refine ⟨_, rfl, rfl, ?_⟩
  congr 1
  rw [Bool.eq_iff_iff, decide_eq_true_eq]
  exact hi
end

/-- the places of a list's texts among t -/
def placesL (t : List (List UInt8)) (ls : List ByteArray) : List Nat := ls.map fun s => t.idxOf (bl s)
/-- what bytes a list is in a form -/
inductive EncIs (ls : List ByteArray) : Int → List UInt8 → Prop
  | plain : EncIs ls 0 (0 :: laidL ls)
  | table (t : List (List UInt8)) (w : Nat) (ht : IsRise (ls.map bl) t) (hw : IsLen (orL (placesL t ls)) w) : EncIs ls 1 ((1 :: digitsL t.length) ++ (laidL (t.map sof) ++ (UInt8.ofNat w :: packL (placesL t ls) w)))
theorem EncIs.one {ls : List ByteArray} {f : Int} {b c : List UInt8} (h : EncIs ls f b) (h' : EncIs ls f c) : b = c := by
  cases h with
  | plain => cases h'; rfl
  | table t w ht hw =>
    cases h' with
    | table t' w' ht' hw' =>
      have := ht.one ht'
      subst this
      rw [hw.one hw']
/-- a list that may be laid in a form -/
def encOk (f : Int) (ls : List ByteArray) : Prop := 0 ≤ f ∧ f ≤ 1 ∧ ls.length ≤ 4096 ∧ longB ls = false
instance (f : Int) (ls : List ByteArray) : Decidable (encOk f ls) := by unfold encOk; infer_instance
/-- what Encode hands back -/
def EncV (f : Int) (ls : List ByteArray) (w w' : World) (r : Value) : Prop :=
  (¬ encOk f ls ∧ r = .tuple #[.slice none 0 0, .int .i64 2] ∧ Below w.heap.size w w') ∨ (encOk f ls ∧ ∃ b a c, EncIs ls f b ∧ r = .tuple #[.slice a b.length c, .int .i64 0] ∧ NewB w w' b a c)
end Go.Proofs.Ytmilfgmkcmcicaa
