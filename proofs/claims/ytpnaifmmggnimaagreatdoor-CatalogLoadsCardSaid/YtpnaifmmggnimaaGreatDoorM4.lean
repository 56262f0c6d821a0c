/-
  Texts of this claim, laid one behind the other by a program of mine (install.py): G.Shelf, G.Sch2, G.Sch3, G.Sch4, G.Sch5, Dn.Open, G.Val, G.ValB, G.Len, G.Width, G.Pack, G.Pack2, G.Pack3, G.Iter, Dn.Maps, G.Rise, G.ValA, G.Bits, G.Sig, G.IntsL, G.Sig2, G.Laid, G.Enc, G.Enc2.
-/
import Derived.Shelf.Small.Strs
import Derived.Shelf.Strings.Search1
import Derived.Shelf.Strings.AsciiSet
import Derived.Test.YtpnaifmmggnimaaGreatDoorProg
import Derived.Test.YtpnaifmmggnimaaGreatDoorM3
import Derived.ChangeArms
import Derived.Deep.Slices
import Derived.OpenShut
import Derived.Shelf.SlIter.Nil
import Derived.Shelf.SortM.Plain
import Derived.Shelf.SortM.SortNone
import Derived.Ground.GgzProg
import Derived.Ground.SlgmProg
import Derived.Maps.Own
import Derived.Maps.Views
import Derived.Sort.KeysCollected
namespace Go.Proofs
set_option linter.unusedVariables false
set_option maxRecDepth 100000
open Go.Shelf
def Tryz.lays106_ren : Go.Shelf.Ren := ⟨fun | 106 => 236 | 213 => 263 | 265 => 276 | n => n, fun | 9 => 9 | 3 => 3 | n => n, fun | n => n⟩
theorem Tryz.lays106 : Go.Proofs.Lays.n106 Tryz.prog Tryz.lays106_ren := {
  mixed := by kernel_rfl
  f106 := Tryz.func236.trans (congrArg some (by kernel_rfl))
  f213 := Tryz.func263.trans (congrArg some (by kernel_rfl))
  f265 := Tryz.func276.trans (congrArg some (by kernel_rfl))
  t3 := Tryz.underlying3
  a3 := Tryz.isAgg3
  z3 := Tryz.sizeOf3
  v3 := Tryz.zeroValue3
  t9 := Tryz.underlying9
  a9 := Tryz.isAgg9
  z9 := Tryz.sizeOf9
  v9 := Tryz.zeroValue9 }
open Go.RowKit in
theorem Tryz.strings_Compare (a b : ByteArray) (w : World) :
    Calls Tryz.prog 236 #[.string a, .string b] w fun e w' => e = .returned (.int .i64 (Lib.compareBytes a.data.toList b.data.toList)) ∧ w' = w := Any.strings_Compare Tryz.lays106 a b w
def Tryz.lays137_ren : Go.Shelf.Ren := ⟨fun | 137 => 165 | 217 => 203 | 266 => 245 | n => n, fun | 9 => 9 | 5 => 5 | 3 => 3 | n => n, fun | n => n⟩
theorem Tryz.lays137 : Go.Proofs.Lays.n137 Tryz.prog Tryz.lays137_ren := {
  mixed := by kernel_rfl
  f137 := Tryz.func165.trans (congrArg some (by kernel_rfl))
  f217 := Tryz.func203.trans (congrArg some (by kernel_rfl))
  f266 := Tryz.func245.trans (congrArg some (by kernel_rfl))
  t3 := Tryz.underlying3
  a3 := Tryz.isAgg3
  z3 := Tryz.sizeOf3
  v3 := Tryz.zeroValue3
  t5 := Tryz.underlying5
  a5 := Tryz.isAgg5
  z5 := Tryz.sizeOf5
  v5 := Tryz.zeroValue5
  t9 := Tryz.underlying9
  a9 := Tryz.isAgg9
  z9 := Tryz.sizeOf9
  v9 := Tryz.zeroValue9 }
open Go.RowKit in
theorem Tryz.strings_IndexByte (s : ByteArray) (c : Int) (w : World) :
    Calls Tryz.prog 165 #[.string s, .int .u8 c] w fun e w' => e = .returned (.int .i64 (Lib.indexByte s.data.toList c.toNat.toUInt8)) ∧ w' = w := Any.strings_IndexByte Tryz.lays137 s c w
def Tryz.lays227_ren : Go.Shelf.Ren := ⟨fun | 227 => 206 | n => n, fun | 9 => 9 | 116 => 269 | 4 => 4 | 0 => 0 | 3 => 3 | 5 => 5 | n => n, fun | n => n⟩
theorem Tryz.lays227 : Go.Proofs.Lays.n227 Tryz.prog Tryz.lays227_ren := {
  mixed := by kernel_rfl
  f227 := Tryz.func206.trans (congrArg some (by kernel_rfl))
  t0 := Tryz.underlying0
  a0 := Tryz.isAgg0
  z0 := Tryz.sizeOf0
  v0 := Tryz.zeroValue0
  t3 := Tryz.underlying3
  a3 := Tryz.isAgg3
  z3 := Tryz.sizeOf3
  v3 := Tryz.zeroValue3
  t4 := Tryz.underlying4
  a4 := Tryz.isAgg4
  z4 := Tryz.sizeOf4
  v4 := Tryz.zeroValue4
  t5 := Tryz.underlying5
  a5 := Tryz.isAgg5
  z5 := Tryz.sizeOf5
  v5 := Tryz.zeroValue5
  t9 := Tryz.underlying9
  a9 := Tryz.isAgg9
  z9 := Tryz.sizeOf9
  v9 := Tryz.zeroValue9
  t116 := Tryz.underlying269
  a116 := Tryz.isAgg269
  z116 := Tryz.sizeOf269 }
open Go.RowKit Go.Lib in
theorem Tryz.strings_makeASCIISet (hv116 : ∀ w, (zeroValue 269).run Tryz.prog w = .ok (.agg (Array.replicate 256 (.bool false))) w) (chars : ByteArray) (w : World) (hs : chars.size < 4294967281) (hascii : ∀ (j : Nat) b, chars.data.toList[j]? = some b → b.toNat < 128) :
    Calls Tryz.prog 206 #[.string chars] w fun e w' => e = .returned (.tuple #[.agg (Lib.setCells chars.data.toList), .bool true]) ∧ w' = w.alloc (.cells (Lib.setCells chars.data.toList) 269) := Any.strings_makeASCIISet Tryz.lays227 hv116 (by kernel_rfl) chars w hs hascii
def Tryz.lays228_ren : Go.Shelf.Ren := ⟨fun | 228 => 246 | n => n, fun | 124 => 273 | 5 => 5 | 4 => 4 | 0 => 0 | 116 => 269 | n => n, fun | n => n⟩
theorem Tryz.lays228 : Go.Proofs.Lays.n228 Tryz.prog Tryz.lays228_ren := {
  mixed := by kernel_rfl
  f228 := Tryz.func246.trans (congrArg some (by kernel_rfl))
  t0 := Tryz.underlying0
  a0 := Tryz.isAgg0
  z0 := Tryz.sizeOf0
  v0 := Tryz.zeroValue0
  t4 := Tryz.underlying4
  a4 := Tryz.isAgg4
  z4 := Tryz.sizeOf4
  v4 := Tryz.zeroValue4
  t5 := Tryz.underlying5
  a5 := Tryz.isAgg5
  z5 := Tryz.sizeOf5
  v5 := Tryz.zeroValue5
  t116 := Tryz.underlying269
  a116 := Tryz.isAgg269
  z116 := Tryz.sizeOf269
  t124 := Tryz.underlying273
  a124 := Tryz.isAgg273
  z124 := Tryz.sizeOf273
  v124 := Tryz.zeroValue273 }
open Go.RowKit Go.Lib in
theorem Tryz.asciiSet_contains (b : Nat) (x : UInt8) (v : Bool) (w : World) (hc : w.cell? ⟨b, x.toNat, none⟩ = some (.bool v)) :
    Calls Tryz.prog 246 #[.pointer (some ⟨b, 0, none⟩), .int .u8 x.toNat] w fun e w' => e = .returned (.bool v) ∧ w' = w := Any.asciiSet_contains Tryz.lays228 b x v w hc
end Go.Proofs
namespace Go.Proofs.YtpnaifmmggnimaaGreatDoor
set_option maxRecDepth 100000
open Go.Dn Go.Proofs
open Go.RowKit (Below)
set_option linter.unusedVariables false
theorem trimRight_ok (mem : UInt8 → Bool) {w : World} {b : Nat} (hc : ∀ x : UInt8, w.cell? ⟨b, x.toNat, none⟩ = some (.bool (mem x))) (s : ByteArray) (hs : s.size ≤ 9223372036854775807) :
    Calls Tryz.prog f.strings_trimRightASCII #[.string s, .pointer (some ⟨b, 0, none⟩)] w (Ret fun r w' => ∃ l m, r = .string (sof l) ∧ bl s = l ++ m ∧ m.all mem = true ∧ (l = [] ∨ ∃ p c, l = p ++ [c] ∧ mem c = false) ∧ w' = w) := by
  apply R.strings_trimRightASCII_calls
  unfold R.strings_trimRightASCII
  refine ⟨fun st w' => ∃ l m, st = [.string (sof l)] ∧ bl s = l ++ m ∧ m.all mem = true ∧ w' = w, fun st _ => match st with | [.string t] => t.size | _ => 0, ⟨bl s, [], by rw [sof_bl], by simp, rfl, rfl⟩, ?_⟩
  rintro t w1 ⟨l, m, hst, hl, hm, rfl⟩
  have ht : t = sof l := by simpa using hst
  subst ht
  rw [size_sof]
  have hlen : l.length ≤ 9223372036854775807 := by
    have := congrArg List.length hl
    rw [bl_length, List.length_append] at this
    omega
  refine IFB_dec (fun h => ?_) (fun h => ?_)
  · have hne : l ≠ [] := by intro h2; subst h2; simp at h
    obtain ⟨p, c, rfl⟩ : ∃ p c, l = p ++ [c] := ⟨l.dropLast, l.getLast hne, (List.dropLast_concat_getLast hne).symm⟩
    simp only [List.length_append, List.length_cons, List.length_nil] at h hlen ⊢
    have e1 : IntKind.i64.wrap (((p.length + (0 + 1) : Nat) : Int) - 1) = (p.length : Int) := by rw [wrap_i64 (by omega) (by omega)]; omega
    rw [e1, Int.toNat_natCast, sget_eq, bl_sof, show (p ++ [c]).getD p.length 0 = c by simp]
    refine ⟨⟨by omega, by omega⟩, (Tryz.asciiSet_contains b c (mem c) w1 (hc c)).mono ?_⟩
    rintro _ w2 ⟨rfl, rfl⟩
    refine ⟨_, rfl, IFB_of (fun h2 => ?_) (fun h2 => ?_)⟩
    · exact ⟨p ++ [c], m, rfl, hl, hm, .inr ⟨p, c, rfl, by simpa using h2⟩, rfl⟩
    · have hmc : mem c = true := by simpa using h2
      have e2 : ByteArray.extract (sof (p ++ [c])) 0 p.length = sof p := by
        rw [extract_eq, bl_sof]
        simp
      refine ⟨⟨by omega, by omega, by omega⟩, ?_⟩
      rw [e2]
      exact ⟨⟨p, c :: m, rfl, by rw [hl]; simp, by simp [hmc, hm], rfl⟩, by show (sof p).size < (sof (p ++ [c])).size; rw [size_sof, size_sof]; simp⟩
  · have : l = [] := List.eq_nil_of_length_eq_zero (by omega)
    exact ⟨l, m, rfl, hl, hm, .inl this, rfl⟩
theorem trimLeft_ok (mem : UInt8 → Bool) {w : World} {b : Nat} (hc : ∀ x : UInt8, w.cell? ⟨b, x.toNat, none⟩ = some (.bool (mem x))) (s : ByteArray) :
    Calls Tryz.prog f.strings_trimLeftASCII #[.string s, .pointer (some ⟨b, 0, none⟩)] w (Ret fun r w' => ∃ l m, r = .string (sof l) ∧ bl s = m ++ l ∧ m.all mem = true ∧ (l = [] ∨ ∃ c p, l = c :: p ∧ mem c = false) ∧ w' = w) := by
  apply R.strings_trimLeftASCII_calls
  unfold R.strings_trimLeftASCII
  refine ⟨fun st w' => ∃ l m, st = [.string (sof l)] ∧ bl s = m ++ l ∧ m.all mem = true ∧ w' = w, fun st _ => match st with | [.string t] => t.size | _ => 0, ⟨bl s, [], by rw [sof_bl], by simp, rfl, rfl⟩, ?_⟩
  rintro t w1 ⟨l, m, hst, hl, hm, rfl⟩
  have ht : t = sof l := by simpa using hst
  subst ht
  rw [size_sof]
  refine IFB_dec (fun h => ?_) (fun h => ?_)
  · cases l with
    | nil => simp at h
    | cons c p =>
      simp only [List.length_cons] at h ⊢
      rw [sget_eq, bl_sof, show (c :: p).getD 0 0 = c by rfl]
      refine ⟨⟨by omega, by omega⟩, (Tryz.asciiSet_contains b c (mem c) w1 (hc c)).mono ?_⟩
      rintro _ w2 ⟨rfl, rfl⟩
      refine ⟨_, rfl, IFB_of (fun h2 => ?_) (fun h2 => ?_)⟩
      · exact ⟨c :: p, m, rfl, hl, hm, .inr ⟨c, p, rfl, by simpa using h2⟩, rfl⟩
      · have hmc : mem c = true := by simpa using h2
        have e2 : ByteArray.extract (sof (c :: p)) 1 (p.length + 1) = sof p := by
          rw [extract_eq, bl_sof]
          simp
        refine ⟨⟨by omega, by omega, by omega⟩, ?_⟩
        rw [e2]
        exact ⟨⟨p, m ++ [c], rfl, by rw [hl]; simp, by simp [hmc, hm], rfl⟩, by show (sof p).size < (sof (c :: p)).size; rw [size_sof, size_sof]; simp⟩
  · have : l = [] := List.eq_nil_of_length_eq_zero (by omega)
    exact ⟨l, m, rfl, hl, hm, .inl this, rfl⟩
theorem LIKEL_bools : ∀ (us : List Bool) {n : Nat} {f : List Value → Prop}, us.length = n → f (us.map .bool) → LIKEL (List.replicate n (.bool false)) f
  | [], _, _, hn, h => by subst hn; exact h
  | u :: us, _, _, hn, h => by subst hn; exact ⟨u, LIKEL_bools us rfl h⟩
def setB (l : List UInt8) : List Bool := (List.range 256).map fun j => l.contains (UInt8.ofNat j)
theorem setB_cells (l : List UInt8) : Lib.setCells l = ⟨(setB l).map .bool⟩ := by
  rw [Lib.setCells_eq]
  apply Array.ext'
  simp [setB, List.map_map, Function.comp_def]
theorem strings_Trim_ok (s cut : ByteArray) (hs : s.size ≤ 9223372036854775807) (h2 : 2 ≤ cut.size) (hz : cut.size < 4294967281) (ha : ∀ (j : Nat) b, cut.data.toList[j]? = some b → b.toNat < 128) (w : World) :
    Calls Tryz.prog f.strings_Trim #[.string s, .string cut] w (Ret fun r w' => ∃ q, r = .string q ∧ (q = ⟨#[]⟩ ↔ (bl s).all (bl cut).contains = true) ∧ Below w.heap.size w w') := by
  apply R.strings_Trim_calls
  unfold R.strings_Trim
  have he : ∀ x : ByteArray, bytesEq x ⟨#[]⟩ = true → x = ⟨#[]⟩ := fun x h => by rw [bytesEq_iff] at h; simpa using h
  refine IFB_of (fun h => ?_) (fun h0 => IFB_of (fun h => ?_) (fun h1 => ?_))
  · have := he s h
    subst this
    exact ⟨_, rfl, by simp [bl], .refl _ _⟩
  · have := he cut h
    subst this
    exact absurd h2 (by decide)
  · refine ⟨fun st w' => st = [.bool false] ∧ w' = w, IFB_eq (fun h => by omega) (fun _ => ⟨rfl, rfl⟩), ?_⟩
    rintro t w1 ⟨ht, rfl⟩
    have : t = false := by simpa using ht
    subst this
    refine IFB_false ((Tryz.strings_makeASCIISet (fun _ => by kernel_rfl) cut w1 hz ha).mono ?_)
    rintro _ w5 ⟨rfl, rfl⟩
    rw [setB_cells]
    have hbl : (setB cut.data.toList).length = 256 := by simp [setB]
    refine LIKEL_bools (setB cut.data.toList) hbl ⟨true, rfl, ?_⟩
    have B0 : Below w1.heap.size w1 (w1.alloc (.cells ⟨(setB cut.data.toList).map .bool⟩ ty.strings_asciiSet)) := (Below.refl _ w1).alloc (Nat.le_refl _) _
    have S0 := (SH.start (fun _ => False) w1).grown B0
    have h1 : ∀ v ∈ (setB cut.data.toList).map Value.bool, v.oneCell' = true := by
      intro v hv
      obtain ⟨u, _, rfl⟩ := List.mem_map.1 hv
      rfl
    have hl2 : ((setB cut.data.toList).map Value.bool).length = 256 := by rw [List.length_map]; exact hbl
    refine S0.newB fun b12 w6 _ _ S => BIF_len hl2 (S.stoAll 0 rfl hl2 h1 fun w7 _ S => IFB_true ?_)
    have hc : ∀ x : UInt8, w7.cell? ⟨b12, x.toNat, none⟩ = some (.bool ((bl cut).contains x)) := fun x => S.cell 0 rfl (by
      rw [← setB_cells]
      exact Lib.setCells_at _ _)
    refine (trimRight_ok (bl cut).contains hc s hs).mono ?_
    rintro _ w8 ⟨_, rfl, l, m, rfl, hl, hm, hlast, rfl⟩
    refine ⟨_, rfl, (trimLeft_ok (bl cut).contains hc (sof l)).mono ?_⟩
    rintro _ w9 ⟨_, rfl, q, p, rfl, hq, hp, hfirst, rfl⟩
    refine ⟨_, rfl, _, rfl, ?_, S.below⟩
    rw [bl_sof] at hq
    rw [hl, hq, List.all_append, List.all_append, hm, hp]
    rcases hfirst with rfl | ⟨c, r, rfl, hcf⟩
    · simp [sof]
    · simp [sof]
      intro hcc
      simp_all
theorem byte_all {p : UInt8 → Bool} (h : (List.range 256).all (fun n => p (UInt8.ofNat n)) = true) (c : UInt8) : p c = true := by
  have := List.all_eq_true.1 h c.toNat (List.mem_range.2 c.toNat_lt)
  simpa using this
def lettersS : ByteArray := ⟨#[97, 98, 99, 100, 101, 102, 103, 104, 105, 106, 107, 108, 109, 110, 111, 112, 113, 114, 115, 116, 117, 118, 119, 120, 121, 122]⟩
def othersS : ByteArray := ⟨#[97, 98, 99, 100, 101, 102, 103, 104, 105, 106, 107, 108, 109, 110, 111, 112, 113, 114, 115, 116, 117, 118, 119, 120, 121, 122, 48, 49, 50, 51, 52, 53, 54, 55, 56, 57, 95]⟩
theorem lets_eq (c : UInt8) : decide (Lib.indexByte lettersS.data.toList c ≥ 0) = letB c := by
  have := byte_all (p := fun c => decide (Lib.indexByte lettersS.data.toList c ≥ 0) == letB c) (by kernel_rfl) c
  simpa using this
theorem oths_eq (c : UInt8) : (bl othersS).contains c = (letB c || othB c) := by
  have := byte_all (p := fun c => (bl othersS).contains c == (letB c || othB c)) (by kernel_rfl) c
  simpa using this
theorem isName_eq {s : ByteArray} (h1 : 1 ≤ s.size) (h2 : s.size ≤ 24) : isNameB s = (letB (sget s 0) && (bl s).all fun c => letB c || othB c) := by
  have hl : (bl s).length = s.size := bl_length s
  have he : ∀ i (hi : i < (bl s).length), sget s i = (bl s)[i] := fun i hi => by rw [sget_eq]; simp [List.getD, hi]
  rw [Bool.eq_iff_iff]
  simp only [isNameB, Bool.and_eq_true, List.all_eq_true, List.mem_range, decide_eq_true_eq, h1, h2, and_true]
  constructor
  · intro h
    refine ⟨?_, fun c hc => ?_⟩
    · have := h 0 (by omega)
      simpa [nameAt] using this
    · obtain ⟨i, hi, rfl⟩ := List.getElem_of_mem hc
      have := h i (by omega)
      rw [nameAt, he i hi] at this
      simp only [Bool.or_eq_true, Bool.and_eq_true] at this ⊢
      rcases this with h | h
      · exact .inl h
      · exact .inr h.1
  · rintro ⟨h0, h⟩ i hi
    have hi' : i < (bl s).length := by omega
    have := h _ (List.getElem_mem hi')
    rw [nameAt]
    by_cases hz : i = 0
    · subst hz
      simp [h0]
    · rw [he i hi']
      simp only [Bool.or_eq_true, Bool.and_eq_true] at this ⊢
      rcases this with h | h
      · exact .inl h
      · exact .inr ⟨h, by simpa using hz⟩
theorem schema_IsName_ok (s : ByteArray) (hs : s.size ≤ 9223372036854775807) (w : World) : Calls Tryz.prog f.schema_IsName #[.string s] w (Ret fun r w' => r = .bool (isNameB s) ∧ Below w.heap.size w w') := by
  apply R.schema_IsName_calls
  unfold R.schema_IsName
  refine IFB_not (IFB_of (fun h => ?_) (fun h0 => ?_))
  · rw [bytesEq_iff] at h
    have : s = ⟨#[]⟩ := by simpa using h
    subst this
    exact ⟨rfl, .refl _ _⟩
  rw [bytesEq_iff] at h0
  have hne : s ≠ ⟨#[]⟩ := by simpa using h0
  have h1 : 1 ≤ s.size := by
    rcases Nat.eq_zero_or_pos s.size with h | h
    · exact absurd (bl_inj (by rw [List.eq_nil_of_length_eq_zero ((bl_length s).trans h)]; rfl)) hne
    · exact h
  refine IFB_dec (fun h2 => ?_) (fun h2 => ⟨?_, .refl _ _⟩)
  case refine_2 =>
    have h2' : ¬ s.size ≤ 24 := by omega
    simp [isNameB, h2']
  have h2' : s.size ≤ 24 := by omega
  have hb := (sget s 0).toNat_lt
  refine ⟨⟨by omega, by omega⟩, (Tryz.strings_IndexByte lettersS ((sget s 0).toNat : Int) w).mono ?_⟩
  rintro _ w1 ⟨rfl, rfl⟩
  refine ⟨_, rfl, ?_⟩
  have e : ((sget s 0).toNat : Int).toNat.toUInt8 = sget s 0 := by simp
  rw [e, lets_eq]
  refine IFB_of (fun h3 => ?_) (fun h3 => ⟨?_, .refl _ _⟩)
  · refine (strings_Trim_ok s othersS hs (by decide) (by decide) ?_ w1).mono ?_
    · intro j b hj
      have h : othersS.data.toList.all (fun b => decide (b.toNat < 128)) = true := by decide
      exact of_decide_eq_true (List.all_eq_true.1 h b (List.mem_of_getElem? hj))
    rintro _ w2 ⟨_, rfl, q, rfl, hq, B⟩
    refine ⟨_, rfl, ?_, B⟩
    congr 1
    rw [bytesEq_iff, isName_eq h1 h2', h3, Bool.true_and, Bool.eq_iff_iff, decide_eq_true_eq, hq]
    simp only [List.all_eq_true, oths_eq]
  · rw [isName_eq h1 h2', h3, Bool.false_and]
end Go.Proofs.YtpnaifmmggnimaaGreatDoor
namespace Go.Dn
set_option linter.unusedVariables false
set_option maxRecDepth 100000
section
variable {P : Program} {w : World}
end
end Go.Dn
namespace Go.Proofs.YtpnaifmmggnimaaGreatDoor
set_option maxRecDepth 100000
open Go.Dn Go.Proofs
open Go.RowKit (Below)
set_option linter.unusedVariables false
abbrev Val := Int × Int × ByteArray
def valV (v : Val) : Value := .agg #[.int .i64 v.1, .int .i64 v.2.1, .string v.2.2]
abbrev E0 : ByteArray := ⟨#[]⟩
def rightB (v : Val) : Bool :=
  if v.1 = 0 then decide (v.2.1 = 0 ∧ v.2.2 = E0) else if v.1 = 1 then decide (v.2.2 = E0) else if v.1 = 2 then decide ((v.2.1 = 0 ∨ v.2.1 = 1) ∧ v.2.2 = E0) else
  if v.1 = 3 then decide (v.2.1 = 0 ∧ v.2.2.size ≤ 1024) else false
theorem and1 (n : Int) : n = IntKind.i64.wrap (((BitVec.ofInt 64 n &&& BitVec.ofInt 64 1).toNat : Int)) ↔ (n = 0 ∨ n = 1) := by
  have h : (BitVec.ofInt 64 n &&& BitVec.ofInt 64 1).toNat = 0 ∨ (BitVec.ofInt 64 n &&& BitVec.ofInt 64 1).toNat = 1 := by
    rw [BitVec.toNat_and]
    have h1 : (BitVec.ofInt 64 1).toNat = 2 ^ 1 - 1 := by decide
    rw [h1, Nat.and_two_pow_sub_one_eq_mod]
    omega
  constructor
  · intro e
    rcases h with h | h
    · rw [h] at e; left; rw [e]; decide
    · rw [h] at e; right; rw [e]; decide
  · rintro (rfl | rfl) <;> decide
theorem value_Right_ok (w : World) (v : Val) : Calls Tryz.prog f.value_Right #[valV v] w (Ret fun r w' => r = .bool (rightB v) ∧ Below w.heap.size w w') := by
  obtain ⟨k, n, s⟩ := v
  apply R.value_Right_calls
  show R.value_Right k n s _ _
  unfold R.value_Right
  refine (SH.start (fun _ => False) w).newB fun b4 w1 hb4 B1 S1 => ⟨_, S1.cell 0 rfl rfl, S1.lit3 fun b6 w5 hb6 B5 S5 => ?_⟩
  refine ⟨fun _ w9 => ∃ p : Val, SH (fun _ => False) w w9 [(b6, #[.int .i64 p.1, .int .i64 p.2.1, .string p.2.2], ty.api_Value), (b4, #[.int .i64 k, .int .i64 n, .string s], ty.api_Value)] ∧ p.1 = k ∧
      (0 ≤ k → k < 4 → (((k, n, s) : Val) = p ∧ s.size ≤ 1024 ↔ rightB (k, n, s) = true)), ?_, ?_⟩
  · refine ⟨_, S5.cell 1 rfl rfl, IFB_eq (fun h => ?_) (fun h0 => IFB_eq (fun h => ⟨_, S5.cell 1 rfl rfl, ?_⟩) (fun h1 => IFB_eq (fun h => ⟨_, S5.cell 1 rfl rfl, ?_⟩) (fun h2 => IFB_eq (fun h => ⟨_, S5.cell 1 rfl rfl, ?_⟩) (fun h3 => ?_))))⟩
    · subst h
      refine ⟨(0, 0, E0), S5, rfl, fun _ _ => ?_⟩
      simp only [rightB, if_pos, decide_eq_true_eq, Prod.mk.injEq, true_and]
      constructor
      · rintro ⟨⟨h1, h2⟩, _⟩; exact ⟨h1, h2⟩
      · rintro ⟨h1, rfl⟩; exact ⟨⟨h1, rfl⟩, by decide⟩
    · subst h
      refine S5.sto 0 rfl (show 1 < 3 by decide) fun w6 S6 => ⟨(1, n, E0), S6, rfl, fun _ _ => ?_⟩
      simp only [rightB, if_neg (show ¬ (1 : Int) = 0 by decide), if_pos, decide_eq_true_eq, Prod.mk.injEq, true_and]
      constructor
      · rintro ⟨h1, _⟩; exact h1
      · rintro rfl; exact ⟨rfl, by decide⟩
    · subst h
      refine S5.sto 0 rfl (show 1 < 3 by decide) fun w6 S6 => ⟨(2, IntKind.i64.wrap (((BitVec.ofInt 64 n &&& BitVec.ofInt 64 1).toNat : Int)), E0), S6, rfl, fun _ _ => ?_⟩
      simp only [rightB, if_neg (show ¬ (2 : Int) = 0 by decide), if_neg (show ¬ (2 : Int) = 1 by decide), if_pos, decide_eq_true_eq, Prod.mk.injEq, true_and]
      rw [and1]
      constructor
      · rintro ⟨⟨h1, h2⟩, _⟩; exact ⟨h1, h2⟩
      · rintro ⟨h1, rfl⟩; exact ⟨⟨h1, rfl⟩, by decide⟩
    · subst h
      refine S5.sto 0 rfl (show 2 < 3 by decide) fun w6 S6 => ⟨(3, 0, s), S6, rfl, fun _ _ => ?_⟩
      simp only [rightB, if_neg (show ¬ (3 : Int) = 0 by decide), if_neg (show ¬ (3 : Int) = 1 by decide), if_neg (show ¬ (3 : Int) = 2 by decide), if_pos, decide_eq_true_eq, Prod.mk.injEq, true_and, and_true]
    · exact ⟨(k, 0, E0), S5, rfl, fun _ _ => by omega⟩
  · rintro w9 ⟨p, S9, hp, hiff⟩
    have no : ¬ (0 ≤ k ∧ k < 4) → Value.bool false = .bool (rightB (k, n, s)) := by
      intro hk
      simp only [rightB]
      rw [if_neg (by omega), if_neg (by omega), if_neg (by omega), if_neg (by omega)]
    refine ⟨_, S9.cell 1 rfl rfl, IFB_dec (fun h0 => ⟨_, S9.cell 1 rfl rfl, IFB_dec (fun h4 => ?_) (fun h4 => ⟨no (by omega), S9.below⟩)⟩) (fun h0 => ⟨no (by omega), S9.below⟩)⟩
    refine ⟨_, S9.cell 1 rfl rfl, _, S9.cell 1 rfl rfl, _, S9.cell 1 rfl rfl, _, S9.cell 0 rfl rfl, _, S9.cell 0 rfl rfl, _, S9.cell 0 rfl rfl, ?_⟩
    have hi := hiff h0 h4
    rw [beq_str]
    refine IFB_of (fun he => ⟨_, S9.cell 1 rfl rfl, ?_, S9.below⟩) (fun he => ⟨?_, S9.below⟩)
    · simp only [Bool.and_true, Bool.and_eq_true, beq_iff_eq, decide_eq_true_eq] at he
      have e : ((k, n, s) : Val) = p := by
        obtain ⟨p1, p2, p3⟩ := p
        simp only at he
        rw [he.1, he.2.1, he.2.2]
      congr 1
      rw [Bool.eq_iff_iff]
      rw [← hi]
      simp only [e, true_and, decide_eq_true_eq]
      omega
    · have hn : ¬ (rightB (k, n, s) = true) := by
        rw [← hi]
        rintro ⟨e, _⟩
        rw [← e] at he
        simp at he
      simp [Bool.eq_false_iff.2 hn]
theorem ref04_Right_ok (w : World) (v : Val) : Calls Tryz.prog f.ref04_Right #[valV v] w (Ret fun r w' => r = .bool (rightB v) ∧ Below w.heap.size w w') := by
  obtain ⟨k, n, s⟩ := v
  apply R.ref04_Right_calls
  show R.ref04_Right k n s _ _
  unfold R.ref04_Right
  refine (SH.start (fun _ => False) w).newB fun b4 w1 hb4 B1 S1 => ⟨_, S1.cell 0 rfl rfl, ?_⟩
  simp only [bytesEq_iff, rightB]
  refine IFB_eq (fun h => ⟨_, S1.cell 0 rfl rfl, IFB_eq (fun hn => ⟨_, S1.cell 0 rfl rfl, ?_, B1⟩) (fun hn => ⟨?_, B1⟩)⟩) (fun h0 => IFB_eq (fun h => ⟨_, S1.cell 0 rfl rfl, ?_, B1⟩) (fun h1 => IFB_eq (fun h => ⟨_, S1.cell 0 rfl rfl, ?_⟩) (fun h2 => IFB_eq (fun h => ⟨_, S1.cell 0 rfl rfl, IFB_eq (fun hn => ⟨_, S1.cell 0 rfl rfl, ?_, B1⟩) (fun hn => ⟨?_, B1⟩)⟩) (fun h3 => ⟨?_, B1⟩))))
  · simp [h, hn]
  · simp [h, hn]
  · simp [h]
  · refine IFB_eq (fun hn => ⟨_, S1.cell 0 rfl rfl, ?_, B1⟩) (fun hn => ⟨_, S1.cell 0 rfl rfl, IFB_eq (fun hn1 => ⟨_, S1.cell 0 rfl rfl, ?_, B1⟩) (fun hn1 => ⟨?_, B1⟩)⟩)
    · simp [h, hn]
    · simp [h, hn1]
    · simp [h, hn, hn1]
  · simp [h, hn]
    omega
  · simp [h, hn]
  · simp [h0, h1, h2, h3]
/-! ### the order -/
end Go.Proofs.YtpnaifmmggnimaaGreatDoor
namespace Go.Proofs.YtpnaifmmggnimaaGreatDoor
set_option maxRecDepth 100000
open Go.Dn Go.Proofs
open Go.RowKit (Below)
set_option linter.unusedVariables false
/-! ### what package-level variables hold -/
/-! ### Number, Signed, Text -/
/-! ### Lay -/
structure ValOk (v : Val) : Prop where
  lo : -9223372036854775808 ≤ v.2.1
  hi : v.2.1 ≤ 9223372036854775807
theorem right_kind {v : Val} (h : rightB v = true) : v.1 = 0 ∨ v.1 = 1 ∨ (v.1 = 2 ∧ (v.2.1 = 0 ∨ v.2.1 = 1)) ∨ (v.1 = 3 ∧ v.2.2.size ≤ 1024) := by
  unfold rightB at h
  split at h
  · left; assumption
  · split at h
    · right; left; assumption
    · split at h
      · right; right; left; simp at h; exact ⟨by assumption, h.1⟩
      · split at h
        · right; right; right; simp at h; exact ⟨by assumption, h.2⟩
        · cases h
/-! ### Show -/
end Go.Proofs.YtpnaifmmggnimaaGreatDoor
namespace Go.Proofs.YtpnaifmmggnimaaGreatDoor
set_option maxRecDepth 100000
open Go.Dn Go.Proofs
open Go.RowKit (Below)
set_option linter.unusedVariables false
def IsLen (x r : Nat) : Prop := x < 2 ^ r ∧ (r = 0 ∨ 2 ^ (r - 1) ≤ x)
theorem IsLen.one {x r s : Nat} (h : IsLen x r) (h' : IsLen x s) : r = s := by
  have key : ∀ {a b : Nat}, IsLen x a → IsLen x b → a ≤ b := by
    intro a b ha hb
    rcases ha.2 with h0 | h0
    · omega
    · rcases Nat.lt_or_ge b a with hlt | hge
      · have : 2 ^ b ≤ 2 ^ (a - 1) := Nat.pow_le_pow_right (by omega) (by omega)
        have := hb.1
        omega
      · exact hge
  exact Nat.le_antisymm (key h h') (key h' h)
theorem IsLen.le {x r w : Nat} (h : IsLen x r) : r ≤ w ↔ x < 2 ^ w := by
  constructor
  · intro hle
    exact Nat.lt_of_lt_of_le h.1 (Nat.pow_le_pow_right (by omega) hle)
  · intro hlt
    rcases h.2 with h0 | h0
    · omega
    · rcases Nat.lt_or_ge w r with hlt2 | hge
      · have : 2 ^ w ≤ 2 ^ (r - 1) := Nat.pow_le_pow_right (by omega) (by omega)
        omega
      · exact hge
theorem IsLen.of_le {x r : Nat} (h : ∀ w, r ≤ w ↔ x < 2 ^ w) : IsLen x r := by
  refine ⟨(h r).1 (Nat.le_refl _), ?_⟩
  rcases Nat.eq_zero_or_pos r with h0 | h0
  · exact .inl h0
  · right
    rcases Nat.lt_or_ge x (2 ^ (r - 1)) with hlt | hge
    · have := (h (r - 1)).2 hlt
      omega
    · exact hge
theorem IsLen.shift {x r s : Nat} (h : IsLen (x / 2 ^ s) r) (hx : 2 ^ s ≤ x) : IsLen x (r + s) := by
  have hp : 0 < 2 ^ s := Nat.two_pow_pos s
  have h1 : 1 ≤ x / 2 ^ s := (Nat.le_div_iff_mul_le hp).2 (by omega)
  have hr : r ≠ 0 := by
    rintro rfl
    have := h.1
    simp at this
    omega
  refine ⟨?_, .inr ?_⟩
  · rw [Nat.pow_add]
    exact (Nat.div_lt_iff_lt_mul hp).1 h.1
  · rcases h.2 with h0 | h0
    · exact absurd h0 hr
    · rw [show r + s - 1 = (r - 1) + s by omega, Nat.pow_add]
      exact (Nat.le_div_iff_mul_le hp).1 h0
def lenT : ByteArray := ⟨#[0, 1, 2, 2, 3, 3, 3, 3, 4, 4, 4, 4, 4, 4, 4, 4, 5, 5, 5, 5, 5, 5, 5, 5, 5, 5, 5, 5, 5, 5, 5, 5, 6, 6, 6, 6, 6, 6, 6, 6, 6, 6, 6, 6, 6, 6, 6, 6, 6, 6, 6, 6, 6, 6, 6, 6, 6, 6, 6, 6, 6, 6, 6, 6, 7, 7, 7, 7, 7, 7, 7, 7, 7, 7, 7, 7, 7, 7, 7, 7, 7, 7, 7, 7, 7, 7, 7, 7, 7, 7, 7, 7, 7, 7, 7, 7, 7, 7, 7, 7, 7, 7, 7, 7, 7, 7, 7, 7, 7, 7, 7, 7, 7, 7, 7, 7, 7, 7, 7, 7, 7, 7, 7, 7, 7, 7, 7, 7, 8, 8, 8, 8, 8, 8, 8, 8, 8, 8, 8, 8, 8, 8, 8, 8, 8, 8, 8, 8, 8, 8, 8, 8, 8, 8, 8, 8, 8, 8, 8, 8, 8, 8, 8, 8, 8, 8, 8, 8, 8, 8, 8, 8, 8, 8, 8, 8, 8, 8, 8, 8, 8, 8, 8, 8, 8, 8, 8, 8, 8, 8, 8, 8, 8, 8, 8, 8, 8, 8, 8, 8, 8, 8, 8, 8, 8, 8, 8, 8, 8, 8, 8, 8, 8, 8, 8, 8, 8, 8, 8, 8, 8, 8, 8, 8, 8, 8, 8, 8, 8, 8, 8, 8, 8, 8, 8, 8, 8, 8, 8, 8, 8, 8, 8, 8, 8, 8, 8, 8, 8, 8, 8, 8, 8, 8, 8, 8]⟩
theorem lenT_size : lenT.size = 256 := by decide
theorem lenT_all : ((List.range 256).all fun i => decide (i < 2 ^ (sget lenT i).toNat) && ((sget lenT i).toNat == 0 || decide (2 ^ ((sget lenT i).toNat - 1) ≤ i)) && decide ((sget lenT i).toNat ≤ 8)) = true := by decide +kernel
theorem lenT_is {i : Nat} (h : i < 256) : IsLen i (sget lenT i).toNat ∧ (sget lenT i).toNat ≤ 8 := by
  have := List.all_eq_true.1 lenT_all i (List.mem_range.2 h)
  simp only [Bool.and_eq_true, decide_eq_true_eq, Bool.or_eq_true, beq_iff_eq] at this
  exact ⟨⟨this.1.1, this.1.2⟩, this.2⟩
theorem fdiv_pow (x s : Nat) : Int.fdiv (x : Int) (2 ^ s) = ((x / 2 ^ s : Nat) : Int) := by
  rw [Int.fdiv_eq_ediv_of_nonneg _ (Int.le_of_lt (Int.pow_pos (by omega)))]
  norm_cast
theorem Len64_ok (w : World) (x : Nat) (hx : x < 18446744073709551616) : Calls Tryz.prog f.math_bits_Len64 #[.int .u64 (x : Int)] w (Ret fun v w' => ∃ r : Nat, v = .int .i64 (r : Int) ∧ IsLen x r ∧ r ≤ 64 ∧ w' = w) := by
  apply R.math_bits_Len64_calls
  unfold R.math_bits_Len64
  refine ⟨fun st w1 => w1 = w ∧ ∃ y n : Nat, st = [.int .u64 (y : Int), .int .i64 (n : Int)] ∧ y < 4294967296 ∧ n ≤ 32 ∧ (∀ r, IsLen y r → r ≤ 32 → IsLen x (r + n) ∨ (n = 0 ∧ x = y)), ?_, ?_⟩
  · refine IFB_dec (fun h => ⟨rfl, x / 2 ^ 32, 32, ?_, ?_, by omega, fun r hr _ => .inl (hr.shift (by omega))⟩) (fun h => ⟨rfl, x, 0, rfl, by omega, by omega, fun r _ _ => .inr ⟨rfl, rfl⟩⟩)
    · rw [show min 32 64 = 32 from rfl, fdiv_pow]
      rfl
    · omega
  rintro _ _ w1 ⟨rfl, y, n, hst, hy, hn, hyx⟩
  cases hst
  refine ⟨fun st w2 => w2 = w1 ∧ ∃ z m : Nat, st = [.int .u64 (z : Int), .int .i64 (m : Int)] ∧ z < 65536 ∧ m ≤ 48 ∧ (∀ r, IsLen z r → r ≤ 16 → IsLen x (r + m)), ?_, ?_⟩
  · have fin : ∀ r, IsLen y r → r ≤ 32 → IsLen x (r + n) := by
      intro r hr h32
      rcases hyx r hr h32 with h | ⟨rfl, rfl⟩
      · exact h
      · exact hr
    refine IFB_dec (fun h => ⟨rfl, y / 2 ^ 16, n + 16, ?_, by omega, by omega, fun r hr h16 => ?_⟩) (fun h => ⟨rfl, y, n, rfl, by omega, by omega, fun r hr h16 => fin r hr (by omega)⟩)
    · rw [show min 16 64 = 16 from rfl, fdiv_pow, wrap_i64 (by omega) (by omega)]
      rfl
    · have := fin _ (hr.shift (s := 16) (by omega)) (by omega)
      rwa [Nat.add_assoc, Nat.add_comm 16] at this
  rintro _ _ w2 ⟨rfl, z, m, hst, hz, hm, hzx⟩
  cases hst
  have e256 : ((ByteArray.size lenT : Nat) : Int) = 256 := by rw [lenT_size]; rfl
  refine IFB_dec (fun h => ?_) (fun h => ?_)
  · rw [show min 8 64 = 8 from rfl, fdiv_pow, wrap_u8_id (by omega) (by omega)]
    have hlt : z / 2 ^ 8 < 256 := by omega
    have ht := lenT_is hlt
    refine ⟨⟨by omega, by show _ < ((ByteArray.size lenT : Nat) : Int); omega⟩, (sget lenT (z / 2 ^ 8)).toNat + 8 + m, ?_, ?_, by omega, rfl⟩
    · have hT : ∀ i, (sget lenT i).toNat < 256 := fun i => UInt8.toNat_lt _
      show Value.int .i64 (IntKind.i64.wrap (IntKind.i64.wrap ((m : Int) + 8) + IntKind.i64.wrap ((sget lenT ((z / 2 ^ 8 : Nat) : Int).toNat).toNat : Int))) = _
      rw [Int.toNat_natCast, wrap_i64 (n := (m : Int) + 8) (by omega) (by omega), wrap_i64 (n := ((sget lenT (z / 2 ^ 8)).toNat : Int)) (by omega) (by omega), wrap_i64 (by omega) (by omega)]
      congr 1
      omega
    · exact hzx _ (ht.1.shift (s := 8) (by omega)) (by omega)
  · have hlt : z < 256 := by omega
    have ht := lenT_is hlt
    rw [wrap_u8_id (by omega) (by omega)]
    refine ⟨⟨by omega, by show _ < ((ByteArray.size lenT : Nat) : Int); omega⟩, (sget lenT z).toNat + m, ?_, ?_, by omega, rfl⟩
    · show Value.int .i64 (IntKind.i64.wrap ((m : Int) + IntKind.i64.wrap ((sget lenT ((z : Nat) : Int).toNat).toNat : Int))) = _
      rw [Int.toNat_natCast, wrap_i64 (n := ((sget lenT z).toNat : Int)) (by omega) (by omega), wrap_i64 (by omega) (by omega)]
      congr 1
      omega
    · exact hzx _ ht.1 (by omega)
def u64V (x : Nat) : Value := .int .u64 (x : Int)
def orL (xs : List Nat) : Nat := xs.foldl (· ||| ·) 0
theorem or_lt {a b w : Nat} : a ||| b < 2 ^ w ↔ a < 2 ^ w ∧ b < 2 ^ w :=
  ⟨fun h => ⟨Nat.lt_of_le_of_lt Nat.left_le_or h, Nat.lt_of_le_of_lt Nat.right_le_or h⟩, fun h => Nat.or_lt_two_pow h.1 h.2⟩
theorem foldl_or (xs : List Nat) (a w : Nat) : xs.foldl (· ||| ·) a < 2 ^ w ↔ a < 2 ^ w ∧ ∀ x ∈ xs, x < 2 ^ w := by
  induction xs generalizing a with
  | nil => simp
  | cons x xs ih => rw [List.foldl_cons, ih, or_lt]; simp [and_assoc]
theorem orL_lt (xs : List Nat) (w : Nat) : orL xs < 2 ^ w ↔ ∀ x ∈ xs, x < 2 ^ w := by
  unfold orL
  rw [foldl_or]
  simp [Nat.two_pow_pos]
theorem orL_take {xs : List Nat} {k : Nat} (hk : k < xs.length) : orL (xs.take (k + 1)) = orL (xs.take k) ||| xs[k] := by
  unfold orL
  rw [List.take_succ_eq_append_getElem hk, List.foldl_append]
  rfl
theorem or64 {a b : Nat} (ha : a < 18446744073709551616) (hb : b < 18446744073709551616) : IntKind.u64.wrap (((BitVec.ofInt 64 (a : Int) ||| BitVec.ofInt 64 (b : Int)).toNat : Int)) = ((a ||| b : Nat) : Int) := by
  have e : (BitVec.ofInt 64 (a : Int) ||| BitVec.ofInt 64 (b : Int)).toNat = a ||| b := by
    rw [BitVec.toNat_or, BitVec.ofInt_natCast, BitVec.ofInt_natCast, BitVec.toNat_ofNat, BitVec.toNat_ofNat, Nat.mod_eq_of_lt (by omega), Nat.mod_eq_of_lt (by omega)]
  have := (or_lt (w := 64)).2 ⟨ha, hb⟩
  rw [e, wrap_u64_id (by omega) (by omega)]
theorem num_at {w : World} {a : Option Addr} {xs : List Nat} (hl : Rd w a (xs.map u64V)) {i : Nat} (hi : i < xs.length) : ∃ p, a = some p ∧ w.cell? (p.add (i * 1)) = some (.int .u64 (xs[i] : Int)) := by
  obtain ⟨p, hp, hc⟩ := hl i (u64V xs[i]) (by simp [hi])
  exact ⟨p, hp, by rw [Nat.mul_one]; exact hc⟩
section
variable {w : World} {a : Option Addr} {c : Nat} {xs : List Nat}
theorem pack_Width_ok (hl : Rd w a (xs.map u64V)) (hn : xs.length ≤ 140737488355328) (hx : ∀ x ∈ xs, x < 18446744073709551616) :
    Calls Tryz.prog f.pack_Width #[.slice a xs.length c] w (Ret fun v w' => ∃ r : Nat, v = .int .i64 (r : Int) ∧ IsLen (orL xs) r ∧ r ≤ 64 ∧ w' = w) := by
  apply R.pack_Width_calls
  unfold R.pack_Width
  refine ⟨fun s w1 => w1 = w ∧ ∃ k : Nat, k ≤ xs.length ∧ s = [.int .u64 (orL (xs.take k) : Int), .int .i64 (k : Int)], fun s _ => match s with
      | [_, .int _ i] => xs.length - i.toNat
      | _ => 0, ⟨rfl, 0, by omega, rfl⟩, ?_⟩
  rintro _ _ w1 ⟨rfl, k, hk, hs⟩
  cases hs
  have hall : orL (xs.take k) < 18446744073709551616 := (orL_lt (xs.take k) 64).2 fun x h => hx x (List.mem_of_mem_take h)
  refine IFB_dec (fun hlt => ⟨⟨by omega, hlt⟩, ?_⟩) (fun hge => ?_)
  · have hkl : k < xs.length := by omega
    obtain ⟨p, rfl, hc⟩ := num_at hl hkl
    refine ⟨_, by rw [Int.toNat_natCast]; exact hc, ?_⟩
    have hxk := hx _ (List.getElem_mem hkl)
    rw [or64 hall hxk, wrap_succ (by omega), ← orL_take hkl]
    refine ⟨⟨rfl, k + 1, by omega, rfl⟩, ?_⟩
    simp only [Int.toNat_natCast]
    omega
  · have hkk : xs.take k = xs := List.take_of_length_le (by omega)
    rw [hkk] at hall ⊢
    refine (Len64_ok w1 (orL xs) hall).mono ?_
    rintro _ w2 ⟨_, rfl, r, rfl, h1, h2, rfl⟩
    exact ⟨_, rfl, r, rfl, h1, h2, rfl⟩
end
theorem pack_Size_ok (w : World) (n wd : Int) : Calls Tryz.prog f.pack_Size #[.int .i64 n, .int .i64 wd] w (Ret fun v w' => w' = w ∧ v = (if 0 ≤ n ∧ n ≤ 4096 ∧ 0 ≤ wd ∧ wd ≤ 64 then .tuple #[.int .i64 ((n * wd + 7) / 8), .int .i64 0] else .tuple #[.int .i64 0, .int .i64 2])) := by
  apply R.pack_Size_calls
  unfold R.pack_Size
  refine IFB_dec (fun h => ⟨rfl, by rw [if_neg (by omega)]⟩) (fun h1 => IFB_dec (fun h => ⟨rfl, by rw [if_neg (by omega)]⟩) (fun h2 => IFB_dec (fun h => ⟨rfl, by rw [if_neg (by omega)]⟩) (fun h3 => IFB_dec (fun h => ⟨rfl, by rw [if_neg (by omega)]⟩) (fun h4 => ⟨rfl, ?_⟩))))
  have hm : 0 ≤ n * wd := Int.mul_nonneg (by omega) (by omega)
  have hm2 : n * wd ≤ 4096 * 64 := Int.mul_le_mul (by omega) (by omega) (by omega) (by omega)
  rw [if_pos (by omega), wrap_i64 (n := n * wd) (by omega) (by omega), wrap_i64 (n := n * wd + 7) (by omega) (by omega), Int.tdiv_eq_ediv_of_nonneg (by omega), wrap_i64 (by omega) (by omega)]
theorem ref_Size_ok (w : World) (n wd : Int) : Calls Tryz.prog f.ref01_Size #[.int .i64 n, .int .i64 wd] w (Ret fun v w' => w' = w ∧ v = (if 0 ≤ n ∧ n ≤ 4096 ∧ 0 ≤ wd ∧ wd ≤ 64 then .tuple #[.int .i64 ((n * wd + 7) / 8), .int .i64 0] else .tuple #[.int .i64 0, .int .i64 2])) := by
  apply R.ref01_Size_calls
  unfold R.ref01_Size
  have hw : Calls Tryz.prog f.ref01_isWidth #[.int .i64 wd] w (Ret fun v w' => w' = w ∧ v = .bool (decide (0 ≤ wd ∧ wd ≤ 64))) := by
    apply R.ref01_isWidth_calls
    unfold R.ref01_isWidth
    refine IFB_dec (fun h => ⟨rfl, ?_⟩) (fun h => ⟨rfl, ?_⟩)
    · congr 1
      simp
      omega
    · congr 1
      simp
      omega
  refine hw.mono ?_
  rintro _ w1 ⟨_, rfl, rfl, rfl⟩
  refine ⟨_, rfl, IFB_not (IFB_dec (fun h0 => ?_) (fun h => ⟨rfl, by rw [if_neg (by omega)]⟩))⟩
  refine IFB_dec (fun h => ⟨rfl, by rw [if_neg (by omega)]⟩) (fun h1 => IFB_dec (fun h => ⟨rfl, by rw [if_neg (by omega)]⟩) (fun h2 => ⟨rfl, ?_⟩))
  have hm : 0 ≤ n * wd := Int.mul_nonneg (by omega) (by omega)
  have hm2 : n * wd ≤ 4096 * 64 := Int.mul_le_mul (by omega) (by omega) (by omega) (by omega)
  rw [if_pos (by omega), wrap_i64 (n := n * wd) (by omega) (by omega), wrap_i64 (n := n * wd + 7) (by omega) (by omega), Int.tdiv_eq_ediv_of_nonneg (by omega), wrap_i64 (by omega) (by omega)]
theorem ref_Of_ok (w : World) (x wd : Nat) (hx : x < 18446744073709551616) (hw : wd ≤ 64) : Calls Tryz.prog f.ref01_Of #[.int .u64 (x : Int), .int .i64 (wd : Int)] w (Ret fun v w' => w' = w ∧ v = .bool (decide (x < 2 ^ wd))) := by
  apply R.ref01_Of_calls
  unfold R.ref01_Of
  refine ⟨fun s w1 => w1 = w ∧ ∃ k : Nat, k ≤ wd ∧ s = [.int .u64 ((x / 2 ^ k : Nat) : Int), .int .i64 (k : Int)], fun s _ => match s with
      | [_, .int _ i] => wd - i.toNat
      | _ => 0, ⟨rfl, 0, by omega, by simp⟩, ?_⟩
  rintro _ _ w1 ⟨rfl, k, hk, hs⟩
  cases hs
  have hle : x / 2 ^ k ≤ x := Nat.div_le_self _ _
  refine IFB_dec (fun hlt => ?_) (fun hge => ⟨rfl, ?_⟩)
  · have e : IntKind.u64.wrap (Int.tdiv ((x / 2 ^ k : Nat) : Int) 2) = ((x / 2 ^ k / 2 : Nat) : Int) := by
      generalize x / 2 ^ k = y at hle
      rw [Int.tdiv_eq_ediv_of_nonneg (by omega), wrap_u64_id (by omega) (by omega)]
      omega
    rw [e, wrap_succ (by omega)]
    refine ⟨⟨rfl, k + 1, by omega, ?_⟩, ?_⟩
    · rw [Nat.pow_succ, ← Nat.div_div_eq_div_mul]
    · simp only [Int.toNat_natCast]
      omega
  · have : k = wd := by omega
    subst this
    congr 1
    rw [Bool.eq_iff_iff]
    simp only [beq_iff_eq, decide_eq_true_eq]
    have hp : 0 < 2 ^ k := Nat.two_pow_pos k
    constructor
    · intro h
      have h0 : x / 2 ^ k = 0 := by omega
      exact (Nat.div_eq_zero_iff_lt hp).1 h0
    · intro h
      have h0 := (Nat.div_eq_zero_iff_lt hp).2 h
      omega
section
variable {w : World} {a : Option Addr} {c : Nat} {xs : List Nat}
theorem ref_Width_ok (hl : Rd w a (xs.map u64V)) (hn : xs.length ≤ 140737488355328) (hx : ∀ x ∈ xs, x < 18446744073709551616) :
    Calls Tryz.prog f.ref01_Width #[.slice a xs.length c] w (Ret fun v w' => ∃ r : Nat, v = .int .i64 (r : Int) ∧ IsLen (orL xs) r ∧ r ≤ 64 ∧ w' = w) := by
  apply R.ref01_Width_calls
  unfold R.ref01_Width
  refine ⟨fun s w1 => w1 = w ∧ ∃ k r : Nat, k ≤ xs.length ∧ r ≤ 64 ∧ IsLen (orL (xs.take k)) r ∧ s = [.int .i64 (r : Int), .int .i64 (k : Int)], fun s _ => match s with
      | [_, .int _ i] => xs.length - i.toNat
      | _ => 0, ⟨rfl, 0, 0, by omega, by omega, ⟨by simp [orL], .inl rfl⟩, rfl⟩, ?_⟩
  rintro _ _ w1 ⟨rfl, k, r, hk, hr, hlen, hs⟩
  cases hs
  refine IFB_dec (fun hlt => ⟨⟨by omega, hlt⟩, ?_⟩) (fun hge => ?_)
  · have hkl : k < xs.length := by omega
    have hxk := hx _ (List.getElem_mem hkl)
    obtain ⟨p, rfl, hc⟩ := num_at hl hkl
    refine ⟨_, by rw [Int.toNat_natCast]; exact hc, (ref_Of_ok w1 xs[k] r hxk hr).mono ?_⟩
    rintro _ w2 ⟨_, rfl, rfl, rfl⟩
    refine ⟨_, rfl, ?_⟩
    refine ⟨fun s w3 => w3 = w2 ∧ ∃ q : Nat, r ≤ q ∧ q ≤ 64 ∧ (q = r ∨ ¬ xs[k] < 2 ^ (q - 1)) ∧ s = [.int .i64 (q : Int), .bool (decide (xs[k] < 2 ^ q))], fun s _ => match s with
        | [.int _ i, _] => 64 - i.toNat
        | _ => 0, ⟨rfl, r, by omega, by omega, .inl rfl, rfl⟩, ?_⟩
    rintro _ _ w3 ⟨rfl, q, hq1, hq2, hq3, hs⟩
    cases hs
    refine IFB_not (IFB_dec (fun hok => ?_) (fun hno => ⟨⟨by omega, hlt⟩, _, by rw [Int.toNat_natCast]; exact hc, ?_⟩))
    · rw [wrap_succ (by omega)]
      refine ⟨⟨rfl, k + 1, q, by omega, hq2, ?_, rfl⟩, ?_⟩
      · rw [orL_take hkl]
        refine IsLen.of_le fun wd => ?_
        rw [or_lt, ← hlen.le (w := wd)]
        constructor
        · intro h
          exact ⟨by omega, Nat.lt_of_lt_of_le hok (Nat.pow_le_pow_right (by omega) h)⟩
        · rintro ⟨h1, h2⟩
          rcases hq3 with h | h
          · omega
          · rcases Nat.lt_or_ge wd q with hlt2 | hge
            · exact absurd (Nat.lt_of_lt_of_le h2 (Nat.pow_le_pow_right (by omega) (by omega))) h
            · exact hge
      · simp only [Int.toNat_natCast]
        omega
    · have hq64 : q < 64 := by
        rcases Nat.lt_or_ge q 64 with h | h
        · exact h
        · have : q = 64 := by omega
          subst this
          exact absurd hxk hno
      rw [wrap_succ (by omega)]
      refine (ref_Of_ok w3 xs[k] (q + 1) hxk (by omega)).mono ?_
      rintro _ w4 ⟨_, rfl, rfl, rfl⟩
      refine ⟨_, rfl, ⟨rfl, q + 1, by omega, by omega, .inr hno, rfl⟩, ?_⟩
      simp only [Int.toNat_natCast]
      omega
  · have hkk : xs.take k = xs := List.take_of_length_le (by omega)
    rw [hkk] at hlen
    exact ⟨r, rfl, hlen, hr, rfl⟩
end
theorem keeps_putObj (w : World) (l : Nat) (o : Obj) : Keeps (· = l) w (w.putObj l o) :=
  ⟨rfl, rfl, rfl, by simp, fun k _ hn => World.putObj_heap_other hn⟩
def stB (f : Nat → Bool) : Nat → Nat → Nat
  | 0, _ => 0
  | t + 1, j => if j = t / 8 ∧ f t = true then stB f t j ||| 2 ^ (t % 8) else stB f t j
theorem stB_lt (f : Nat → Bool) (t j : Nat) : stB f t j < 256 := by
  induction t with
  | zero => simp [stB]
  | succ t ih =>
    unfold stB
    split
    · exact (or_lt (w := 8)).2 ⟨ih, Nat.pow_lt_pow_right (by omega) (by omega)⟩
    · exact ih
def bitA (xs : List Nat) (w t : Nat) : Bool := (xs.getD (t / w) 0).testBit (t % w)
def sizeN (n w : Nat) : Nat := (n * w + 7) / 8
def packL (xs : List Nat) (w : Nat) : List UInt8 := (List.range (sizeN xs.length w)).map fun j => UInt8.ofNat (stB (bitA xs w) (xs.length * w) j)
theorem packL_len (xs : List Nat) (w : Nat) : (packL xs w).length = sizeN xs.length w := by simp [packL]
def rowC (f : Nat → Bool) (m t : Nat) : Array Value := ⟨(List.range m).map fun j => .int .u8 (stB f t j : Int)⟩
theorem rowC_size (f : Nat → Bool) (m t : Nat) : (rowC f m t).size = m := by simp [rowC]
theorem rowC_get {f : Nat → Bool} {m t j : Nat} (h : j < m) : (rowC f m t)[j]? = some (.int .u8 (stB f t j : Int)) := by simp [rowC, h]
theorem rowC_set {f : Nat → Bool} {m t : Nat} (v : Nat) (hv : v = stB f (t + 1) (t / 8)) : (rowC f m t).setIfInBounds (t / 8) (.int .u8 (v : Int)) = rowC f m (t + 1) := by
  apply Array.ext'
  apply List.ext_getElem?
  intro i
  simp only [Array.toList_setIfInBounds, rowC, List.getElem?_set, List.length_map, List.length_range]
  by_cases h : t / 8 = i
  · subst h
    by_cases h2 : t / 8 < m
    · simp [h2, hv]
    · simp [h2]
  · have e : stB f (t + 1) i = stB f t i := by
      conv => lhs; unfold stB
      rw [if_neg (by omega)]
    by_cases h2 : i < m
    · simp [h, h2, e]
    · simp [h, h2]
theorem rowC_zero (f : Nat → Bool) (m : Nat) : madeCells (Value.int .u8 0).cells (m * 1) = rowC f m 0 := by
  apply Array.ext'
  rw [madeCells_one _ rfl]
  simp [rowC, stB, List.map_const']
theorem rowC_end (xs : List Nat) (w : Nat) : (rowC (bitA xs w) (sizeN xs.length w) (xs.length * w)).toList = (packL xs w).map byteV := by
  simp only [rowC, packL, List.map_map]
  apply List.map_congr_left
  intro j _
  have := stB_lt (bitA xs w) (xs.length * w) j
  exact byteV_of this
/-! ### words of the program -/
theorem bit_prog {x k : Nat} (hx : x < 18446744073709551616) (hk : k < 64) : IntKind.u8.wrap (IntKind.u64.wrap (((BitVec.ofInt 64 (Int.fdiv (x : Int) (2 ^ (min k 64))) &&& BitVec.ofInt 64 1).toNat : Int))) = ((x.testBit k).toNat : Int) := by
  rw [show min k 64 = k by omega, fdiv_pow]
  have hle : x / 2 ^ k ≤ x := Nat.div_le_self _ _
  have e : (BitVec.ofInt 64 ((x / 2 ^ k : Nat) : Int) &&& BitVec.ofInt 64 1).toNat = x / 2 ^ k % 2 := by
    rw [BitVec.toNat_and, BitVec.ofInt_natCast, BitVec.toNat_ofNat, Nat.mod_eq_of_lt (by omega)]
    exact Nat.and_two_pow_sub_one_eq_mod _ 1
  rw [e]
  have hm : x / 2 ^ k % 2 < 2 := Nat.mod_lt _ (by omega)
  rw [Nat.testBit_eq_decide_div_mod_eq]
  generalize x / 2 ^ k % 2 = y at hm
  rw [wrap_u64_id (by omega) (by omega), wrap_u8_id (by omega) (by omega)]
  rcases (by omega : y = 0 ∨ y = 1) with rfl | rfl <;> rfl
theorem and7 {t : Nat} (ht : t < 9223372036854775808) : IntKind.i64.wrap (((BitVec.ofInt 64 (t : Int) &&& BitVec.ofInt 64 7).toNat : Int)) = ((t % 8 : Nat) : Int) := by
  have e : (BitVec.ofInt 64 (t : Int) &&& BitVec.ofInt 64 7).toNat = t % 8 := by
    rw [BitVec.toNat_and, BitVec.ofInt_natCast, BitVec.toNat_ofNat, Nat.mod_eq_of_lt (by omega)]
    exact Nat.and_two_pow_sub_one_eq_mod _ 3
  rw [e, wrap_i64 (by omega) (by omega)]
theorem or8 {a b : Nat} (ha : a < 256) (hb : b < 256) : IntKind.u8.wrap (((BitVec.ofInt 8 (a : Int) ||| BitVec.ofInt 8 (b : Int)).toNat : Int)) = ((a ||| b : Nat) : Int) := by
  have e : (BitVec.ofInt 8 (a : Int) ||| BitVec.ofInt 8 (b : Int)).toNat = a ||| b := by
    rw [BitVec.toNat_or, BitVec.ofInt_natCast, BitVec.ofInt_natCast, BitVec.toNat_ofNat, BitVec.toNat_ofNat, Nat.mod_eq_of_lt (by omega), Nat.mod_eq_of_lt (by omega)]
  have := (or_lt (w := 8)).2 ⟨ha, hb⟩
  rw [e, wrap_u8_id (by omega) (by omega)]
theorem shl_bit {b : Bool} {s : Nat} (hs : s < 8) : IntKind.u8.wrap ((b.toNat : Int) * 2 ^ (min s 8)) = ((b.toNat * 2 ^ s : Nat) : Int) := by
  have hp : 2 ^ s < 2 ^ 8 := Nat.pow_lt_pow_right (by omega) hs
  rw [show min s 8 = s by omega]
  have e : ((b.toNat : Int) * 2 ^ s) = ((b.toNat * 2 ^ s : Nat) : Int) := by norm_cast
  rw [e]
  cases b
  · simp; decide
  · simp only [Bool.toNat_true, Nat.one_mul]
    generalize 2 ^ s = y at hp
    rw [wrap_u8_id (by omega) (by omega)]
theorem stB_step (f : Nat → Bool) (t : Nat) : stB f t (t / 8) ||| (f t).toNat * 2 ^ (t % 8) = stB f (t + 1) (t / 8) := by
  conv => rhs; unfold stB
  cases h : f t
  · simp
  · simp
/-! ### the iterator -/
theorem pack_places_ok (w : World) (n wd : Int) : Calls Tryz.prog f.pack_places #[.int .i64 n, .int .i64 wd] w (Ret fun v w' => ∃ b1 b2, v = .func (.func f.pack_places_c1) #[] #[.pointer (some ⟨b1, 0, none⟩), .pointer (some ⟨b2, 0, none⟩)] ∧ SH (fun _ => False) w w' [(b2, #[.int .i64 wd], ty.int), (b1, #[.int .i64 n], ty.int)]) := by
  apply R.pack_places_calls
  unfold R.pack_places
  exact (SH.start (fun _ => False) w).newB fun b1 w1 _ _ S1 => S1.newB fun b2 w2 _ _ S2 => ⟨b1, b2, rfl, S2⟩
theorem places_ok {n wd l b1 b2 : Nat} (hn : n ≤ 4096) (hw : wd ≤ 64) (J : Nat → World → Prop)
    (hcell : ∀ t w, J t w → w.cell? ⟨b1, 0, none⟩ = some (.int .i64 (n : Int)) ∧ w.cell? ⟨b2, 0, none⟩ = some (.int .i64 (wd : Int))) (hdrew : ∀ t w, J t w → J t w.drew)
    (hstep : ∀ t, t < n * wd → ∀ w, J t w → YLD Tryz.prog l #[.int .i64 ((t / wd : Nat) : Int), .int .i64 ((t % wd : Nat) : Int)] (fun y w' => y = true ∧ J (t + 1) w') w)
    {w : World} (h0 : J 0 w) : Calls Tryz.prog f.pack_places_c1 #[.func (.yield l) #[] #[], .pointer (some ⟨b1, 0, none⟩), .pointer (some ⟨b2, 0, none⟩)] w (Ret fun _ w' => J (n * wd) w') := by
  have hm : n * wd ≤ 4096 * 64 := Nat.mul_le_mul hn hw
  apply R.pack_places_c1_calls
  unfold R.pack_places_c1
  refine ⟨fun s w1 => ∃ t : Nat, t ≤ n * wd ∧ s = [.int .i64 (t : Int)] ∧ J t w1, fun s _ => match s with
      | [.int _ i] => n * wd - i.toNat
      | _ => 0, ⟨0, by omega, rfl, h0⟩, ?_⟩
  rintro _ w1 ⟨t, ht, hs, hj⟩
  cases hs
  obtain ⟨c1, c2⟩ := hcell t w1 hj
  refine ⟨_, c1, _, c2, ?_⟩
  have em : IntKind.i64.wrap ((n : Int) * (wd : Int)) = ((n * wd : Nat) : Int) := by rw [← Int.natCast_mul, wrap_i64 (by omega) (by omega)]
  rw [em]
  refine IFB_dec (fun hlt => ?_) (fun hge => ?_)
  · have hlt' : t < n * wd := by omega
    have hw0 : wd ≠ 0 := by rintro rfl; simp at hlt'
    have hj2 := hdrew t w1 hj
    obtain ⟨d1, d2⟩ := hcell t _ hj2
    refine ⟨_, d2, by omega, _, d2, by omega, ?_⟩
    have e1 : IntKind.i64.wrap (Int.tdiv (t : Int) (wd : Int)) = ((t / wd : Nat) : Int) := by
      have hle : t / wd ≤ t := Nat.div_le_self _ _
      have : Int.tdiv (t : Int) (wd : Int) = ((t / wd : Nat) : Int) := by rw [Int.tdiv_eq_ediv_of_nonneg (by omega)]; norm_cast
      rw [this]
      generalize t / wd = q at hle
      rw [wrap_i64 (by omega) (by omega)]
    have e2 : Int.tmod (t : Int) (wd : Int) = ((t % wd : Nat) : Int) := by rw [Int.tmod_eq_emod_of_nonneg (by omega)]; norm_cast
    rw [e1, e2]
    obtain ⟨fn, tm, asg, bo, hy, hr⟩ := hstep t hlt' _ hj2
    refine ⟨fn, tm, asg, bo, hy, hr.mono ?_⟩
    rintro e w3 ⟨y, he, rfl, hj3⟩
    refine ⟨true, he, IFB_false ?_⟩
    rw [wrap_succ (by omega)]
    refine ⟨⟨t + 1, by omega, rfl, hj3⟩, ?_⟩
    simp only [Int.toNat_natCast]
    omega
  · have : t = n * wd := by omega
    rw [this] at hj
    exact hj
theorem rr_eta {rr : Loop} (h1 : rr.state = .ready) (h2 : rr.pending = none) : ({ rr with state := if (none : Option Code).isNone then .ready else .done, pending := none } : Loop) = rr := by
  cases rr
  simp_all
section
variable {w : World} {a : Option Addr} {c : Nat} {xs : List Nat}
theorem pack_Pack_ok (hl : Rd w a (xs.map u64V)) (hn : xs.length ≤ 4096) {wd : Nat} (hw : wd ≤ 64) (hx : ∀ x ∈ xs, x < 2 ^ wd) :
    Calls Tryz.prog f.pack_Pack #[.int .i64 (wd : Int), .slice a xs.length c] w (Ret fun v w' => ∃ a' c', v = .tuple #[.slice a' (packL xs wd).length c', .int .i64 0] ∧ NewB w w' (packL xs wd) a' c') := by
  have h64 : (2 : Nat) ^ wd ≤ 2 ^ 64 := Nat.pow_le_pow_right (by omega) hw
  have hx64 : ∀ x ∈ xs, x < 18446744073709551616 := fun x h => Nat.lt_of_lt_of_le (hx x h) h64
  have hm : xs.length * wd ≤ 4096 * 64 := Nat.mul_le_mul hn hw
  obtain ⟨m, hmd⟩ : ∃ m, m = sizeN xs.length wd := ⟨_, rfl⟩
  have hmv : m = (xs.length * wd + 7) / 8 := hmd
  apply R.pack_Pack_calls
  unfold R.pack_Pack
  refine (SH.start (fun _ => False) w).newB fun b3 w1 hb3 B1 S1 => S1.newB fun b4 w2 hb4 B2 S2 => ⟨_, _, _, S2.cell 0 rfl rfl, _, S2.cell 1 rfl rfl, (pack_Size_ok w2 (xs.length : Int) (wd : Int)).mono ?_⟩
  rintro _ w3 ⟨_, rfl, rfl, rfl⟩
  rw [if_pos ⟨by omega, by omega, by omega, by omega⟩]
  refine ⟨_, _, rfl, S2.drawB fun w4 B4 S4 => IFB_ne (fun h => absurd rfl h) (fun _ => ⟨_, _, _, S4.cell 0 rfl rfl, _, S4.cell 1 rfl rfl, (pack_Width_ok (hl.grown S4.below) (by omega) hx64).mono ?_⟩)⟩
  rintro _ w5 ⟨_, rfl, r, rfl, hr, hr64, rfl⟩
  have hrw : r ≤ wd := hr.le.2 ((orL_lt xs wd).2 hx)
  refine ⟨_, rfl, S4.cell 1 rfl rfl, IFB_dec (fun h => by omega) (fun _ => ?_)⟩
  have em : ((xs.length : Int) * (wd : Int) + 7) / 8 = (m : Int) := by
    rw [hmv]
    have : ((xs.length : Int) * (wd : Int)) = ((xs.length * wd : Nat) : Int) := by norm_cast
    rw [this]
    omega
  rw [em]
  refine make_new tB (l := (m : Int)) (c := (m : Int)) (by omega) (by omega) (by omega) (by omega) fun bo w6 hbo B6 hO6 => ?_
  rw [Int.toNat_natCast, rowC_zero (bitA xs wd) m] at hO6
  rw [Int.toNat_natCast]
  have S6 := S4.grown B6
  refine ⟨_, _, _, rfl, S6.newB fun b16 w7 hb16 B7 S7 => S7.stoK 0 rfl (show 0 < 1 by decide) fun w8 K8 S8 => ⟨_, _, _, S8.cell 1 rfl rfl, _, S8.cell 2 rfl rfl, (pack_places_ok w8 (xs.length : Int) (wd : Int)).mono ?_⟩⟩
  rintro _ w9 ⟨_, rfl, b1, b2, rfl, P9⟩
  have S9 := S8.grown P9.below
  have hbo6 : bo < w6.heap.size := (Array.getElem?_eq_some_iff.1 hO6).1
  have hO7 := (Keeps.of_below (F := fun _ => False) B7).at hO6 (by simp)
  have hO8 := K8.at hO7 (show ¬ bo = b16 by omega)
  have hO9 := (Keeps.of_below (F := fun _ => False) P9.below).at hO8 (by simp)
  have hbo0 : w.heap.size ≤ bo := Nat.le_trans S4.below.size hbo
  have hbo9 : bo < w9.heap.size := (Array.getElem?_eq_some_iff.1 hO9).1
  have hb49 := S9.lt (x := (b4, _, _)) (List.mem_cons_of_mem _ (List.mem_cons_self ..))
  have hb39 := S9.lt (x := (b3, _, _)) (List.mem_cons_of_mem _ (List.mem_cons_of_mem _ (List.mem_cons_self ..)))
  have hb169 := S9.lt (x := (b16, _, _)) (List.mem_cons_self ..)
  have hb28 := P9.own (b2, _, _) (List.mem_cons_self ..)
  have hb18 := P9.own (b1, _, _) (List.mem_cons_of_mem _ (List.mem_cons_self ..))
  have hb29 := P9.lt (x := (b2, _, _)) (List.mem_cons_self ..)
  have hb19 := P9.lt (x := (b1, _, _)) (List.mem_cons_of_mem _ (List.mem_cons_self ..))
  refine ⟨_, _, _, rfl, by kernel_rfl, fun rr hst hpe hy => ?_⟩
  obtain ⟨W1, hW1⟩ : ∃ W1, W1 = (w9.alloc (.deferred (some []))).alloc (.loop rr) := ⟨_, rfl⟩
  rw [← hW1]
  have B91 : Below w9.heap.size w9 W1 := by rw [hW1]; exact (((Below.refl _ w9).alloc (Nat.le_refl _) _).alloc (by simp) _)
  have sz1 : W1.heap.size = w9.heap.size + 2 := by rw [hW1]; simp
  have hL1 : W1.heap[w9.heap.size + 1]? = some (.loop rr) := by
    rw [hW1]; have := World.alloc_heap_new (w9.alloc (.deferred (some []))) (.loop rr); rwa [World.size_alloc] at this
  have hD1 : W1.heap[w9.heap.size]? = some (.deferred (some [])) := by
    rw [hW1]; exact (Below.heap_alloc _ _ _ (by simp)).trans (World.alloc_heap_new w9 _)
  have K91 := Keeps.of_below (F := fun _ => False) B91
  have hO1 := K91.at hO9 (by simp)
  obtain ⟨L, hLd⟩ : ∃ L, L = w9.heap.size + 1 := ⟨_, rfl⟩
  rw [← hLd] at hL1 hy ⊢
  have Bw1 : Below w.heap.size w W1 := S9.below.trans (B91.mono S9.below.size)
  have w09 := S9.below.size
  -- what holds through the rounds
  have low : ∀ {w' : World}, Keeps (fun k => k = bo ∨ k = L) W1 w' → Below w.heap.size w w' := fun K => Bw1.trans (K.below Bw1.size fun k hk h => by omega)
  have hc3 : ∀ {w' : World}, Keeps (fun k => k = bo ∨ k = L) W1 w' → w'.cell? ⟨b3, 0, none⟩ = some (.int .i64 (wd : Int)) := fun K => K.cell (K91.cell (S9.cell 2 rfl rfl) (by simp)) (by
    have := S6.lt (x := (b3, _, _)) (List.mem_cons_of_mem _ (List.mem_cons_self ..))
    have h4 := S4.lt (x := (b3, _, _)) (List.mem_cons_of_mem _ (List.mem_cons_self ..))
    show ¬ (b3 = bo ∨ b3 = L)
    omega)
  have hc4 : ∀ {w' : World}, Keeps (fun k => k = bo ∨ k = L) W1 w' → w'.cell? ⟨b4, 0, none⟩ = some (.slice a xs.length c) := fun K => K.cell (K91.cell (S9.cell 1 rfl rfl) (by simp)) (by
    have h4 := S4.lt (x := (b4, _, _)) (List.mem_cons_self ..)
    show ¬ (b4 = bo ∨ b4 = L)
    omega)
  have hc16 : ∀ {w' : World}, Keeps (fun k => k = bo ∨ k = L) W1 w' → w'.cell? ⟨b16, 0, none⟩ = some (.slice (some ⟨bo, 0, none⟩) m m) := fun K => K.cell (K91.cell (S9.cell 0 rfl rfl) (by simp)) (by
    show ¬ (b16 = bo ∨ b16 = L)
    omega)
  have hbo8 : bo < w8.heap.size := (Array.getElem?_eq_some_iff.1 hO8).1
  have e18 : w8.heap.size ≤ b1 := by simpa using hb18
  have e28 : w8.heap.size ≤ b2 := by simpa using hb28
  have hb1 : ∀ {w' : World}, Keeps (fun k => k = bo ∨ k = L) W1 w' → w'.cell? ⟨b1, 0, none⟩ = some (.int .i64 (xs.length : Int)) ∧ w'.cell? ⟨b2, 0, none⟩ = some (.int .i64 (wd : Int)) := fun K =>
    ⟨K.cell (K91.cell (P9.cell 1 rfl rfl) (by simp)) (by show ¬ (b1 = bo ∨ b1 = L); omega), K.cell (K91.cell (P9.cell 0 rfl rfl) (by simp)) (by show ¬ (b2 = bo ∨ b2 = L); omega)⟩
  have hyp : ∀ t, t < xs.length * wd → ∀ wx, (Keeps (fun k => k = bo ∨ k = L) W1 wx ∧ wx.heap[bo]? = some (.cells (rowC (bitA xs wd) m t) ty.uint8 (0, 0)) ∧ wx.heap[L]? = some (.loop rr)) →
      YLD Tryz.prog L #[.int .i64 ((t / wd : Nat) : Int), .int .i64 ((t % wd : Nat) : Int)] (fun y w' => y = true ∧ (Keeps (fun k => k = bo ∨ k = L) W1 w' ∧ w'.heap[bo]? = some (.cells (rowC (bitA xs wd) m (t + 1)) ty.uint8 (0, 0)) ∧ w'.heap[L]? = some (.loop rr))) wx := by
    rintro t ht wx ⟨K, hO, hL⟩
    have hw0 : 0 < wd := Nat.pos_of_ne_zero (by rintro rfl; simp at ht)
    have hti : t / wd < xs.length := (Nat.div_lt_iff_lt_mul hw0).2 ht
    have htk : t % wd < wd := Nat.mod_lt _ hw0
    have htm : t / 8 < m := by omega
    refine hy _ _ _ wx hL ⟨hL, ?_⟩
    obtain ⟨w11, hw11⟩ : ∃ w11, w11 = wx.putObj L (.loop { rr with state := .busy }) := ⟨_, rfl⟩
    rw [← hw11]
    have hLlt : L < wx.heap.size := (Array.getElem?_eq_some_iff.1 hL).1
    have K11 : Keeps (fun k => k = L) wx w11 := by rw [hw11]; exact keeps_putObj _ _ _
    have hL11 : w11.heap[L]? = some (.loop { rr with state := .busy }) := by rw [hw11]; exact World.putObj_heap_same hLlt
    have K2 : Keeps (fun k => k = bo ∨ k = L) W1 w11.drew := (K.trans K11 (fun k _ h => .inr h)).drew
    have hO12 : w11.drew.heap[bo]? = some (.cells (rowC (bitA xs wd) m t) ty.uint8 (0, 0)) := K11.at hO (by show ¬ bo = L; omega)
    refine ⟨_, hc3 (K.trans K11 (fun k _ h => .inr h)), ?_⟩
    unfold DRAW
    have et : IntKind.i64.wrap (IntKind.i64.wrap (((t / wd : Nat) : Int) * (wd : Int)) + ((t % wd : Nat) : Int)) = (t : Int) := by
      have h1 : ((t / wd : Nat) : Int) * (wd : Int) = ((t / wd * wd : Nat) : Int) := by rw [Int.natCast_mul]
      have h2 := Nat.div_add_mod t wd
      rw [Nat.mul_comm] at h2
      rw [h1]
      generalize t / wd * wd = q at h2
      generalize t % wd = r' at h2
      rw [wrap_i64 (n := (q : Int)) (by omega) (by omega), wrap_i64 (by omega) (by omega)]
      omega
    have ed : Int.fdiv (t : Int) (2 ^ (min 3 64)) = ((t / 8 : Nat) : Int) := fdiv_pow t 3
    rw [et, ed]
    refine ⟨_, _, _, hc16 K2, ⟨by omega, by omega⟩, ?_⟩
    rw [Int.toNat_natCast]
    have ea : (⟨bo, 0, none⟩ : Addr).add (t / 8 * 1) = ⟨bo, t / 8, none⟩ := by rw [addr_add_blk]; simp
    obtain ⟨p, rfl, hc⟩ := num_at (hl.grown (low K2)) hti
    show ∃ n : Int, w11.drew.cell? ((⟨bo, 0, none⟩ : Addr).add (t / 8 * 1)) = some (.int .u8 n) ∧ _
    rw [ea]
    have hcell : w11.drew.cell? ⟨bo, t / 8, none⟩ = some (.int .u8 (stB (bitA xs wd) t (t / 8) : Int)) := by
      simp only [World.cell?, hO12]
      simpa using rowC_get htm
    refine ⟨_, hcell, _, _, _, hc4 K2, ⟨Int.natCast_nonneg _, by exact_mod_cast hti⟩, _, by rw [Int.toNat_natCast]; exact hc, Int.natCast_nonneg _, ?_⟩
    rw [and7 (by omega), Int.toNat_natCast, Int.toNat_natCast, bit_prog (hx64 _ (List.getElem_mem hti)) (by omega), shl_bit (Nat.mod_lt _ (by omega))]
    have hbit : xs[t / wd].testBit (t % wd) = bitA xs wd t := by simp [bitA, List.getD, hti]
    rw [hbit]
    have hsh : (bitA xs wd t).toNat * 2 ^ (t % 8) < 256 := by
      have : 2 ^ (t % 8) < 2 ^ 8 := Nat.pow_lt_pow_right (by omega) (Nat.mod_lt _ (by omega))
      cases bitA xs wd t
      · simp
      · simpa using this
    rw [or8 (stB_lt _ _ _) hsh, stB_step]
    refine ⟨by omega, ⟨by omega, by omega⟩, ?_⟩
    show STO ((⟨bo, 0, none⟩ : Addr).add (t / 8 * 1)) _ _ _
    rw [ea]
    refine sto_blk hO12 (by rw [rowC_size]; exact htm) fun w13 K13 hO13 => ?_
    have hL13 : w13.heap[L]? = some (.loop { rr with state := .busy }) := K13.at (show w11.drew.heap[L]? = _ from hL11) (by show ¬ L = bo; omega)
    refine ⟨hL13, rfl, ?_⟩
    rw [rr_eta hst hpe]
    rw [rowC_set _ rfl] at hO13
    have hlt13 : L < w13.heap.size := (Array.getElem?_eq_some_iff.1 hL13).1
    refine ⟨(K2.trans K13 (fun k _ h => .inl h)).trans (keeps_putObj _ _ _) (fun k _ h => .inr h), ?_, World.putObj_heap_same hlt13⟩
    exact (World.putObj_heap_other (by omega)).trans hO13
  refine (places_ok (l := L) (b1 := b1) (b2 := b2) hn hw (fun t wx => Keeps (fun k => k = bo ∨ k = L) W1 wx ∧ wx.heap[bo]? = some (.cells (rowC (bitA xs wd) m t) ty.uint8 (0, 0)) ∧ wx.heap[L]? = some (.loop rr))
    (fun t wx hj => hb1 hj.1) (fun t wx hj => ⟨hj.1.drew, hj.2.1, hj.2.2⟩) hyp ⟨.refl _ _, hO1, hL1⟩).mono ?_
  rintro _ w14 ⟨_, rfl, K14, hO14, hL14⟩
  have hlt14 : L < w14.heap.size := (Array.getElem?_eq_some_iff.1 hL14).1
  refine ⟨⟨_, rfl⟩, none, by rw [rr_eta hst hpe]; exact hL14, rfl, ?_⟩
  obtain ⟨w15, hw15⟩ : ∃ w15, w15 = w14.putObj L (.loop { rr with state := .exhausted, pending := none }) := ⟨_, rfl⟩
  rw [← hw15]
  have K15 : Keeps (fun k => k = bo ∨ k = L) W1 w15 := by rw [hw15]; exact K14.trans (keeps_putObj _ _ _) (fun k _ h => .inr h)
  have hO15 : w15.heap[bo]? = some (.cells (rowC (bitA xs wd) m (xs.length * wd)) ty.uint8 (0, 0)) := by rw [hw15]; exact (World.putObj_heap_other (by omega)).trans hO14
  have hD15 : w15.heap[w9.heap.size]? = some (.deferred (some [])) := K15.at hD1 (by show ¬ (w9.heap.size = bo ∨ w9.heap.size = L); omega)
  have B15 := low K15
  refine ⟨_, _, _, hc16 K15, hD15, some ⟨bo, 0, none⟩, m, ?_, ?_⟩
  · rw [packL_len, ← hmd]
  · refine ⟨⟨by simp, .inr ⟨bo, rowC (bitA xs wd) m (xs.length * wd), rfl, (World.putObj_heap_other (by omega)).trans hO15, ?_, by omega, by rw [rowC_size]; omega, ?_⟩⟩, fun k hk => ?_, B15.trans ((keeps_putObj w15 w9.heap.size _).below B15.size fun k hk he => by omega)⟩
    · rw [packL_len, ← hmd]; exact Nat.le_refl _
    · have e := rowC_end xs wd
      rw [← hmd] at e
      rw [e, Nat.mul_one, ← List.length_map (f := byteV), List.take_length]
    · cases hk
      exact hbo0
end
theorem rowC_skip {f : Nat → Bool} {m t : Nat} (h : f t = false) : rowC f m (t + 1) = rowC f m t := by
  unfold rowC
  congr 1
  apply List.map_congr_left
  intro j _
  conv => lhs; unfold stB
  rw [if_neg (by simp [h])]
section
variable {w : World} {a : Option Addr} {c : Nat} {xs : List Nat}
theorem ref_Pack_ok (hl : Rd w a (xs.map u64V)) (hn : xs.length ≤ 4096) {wd : Nat} (hw : wd ≤ 64) (hx : ∀ x ∈ xs, x < 2 ^ wd) :
    Calls Tryz.prog f.ref01_Pack #[.int .i64 (wd : Int), .slice a xs.length c] w (Ret fun v w' => ∃ a' c', v = .tuple #[.slice a' (packL xs wd).length c', .int .i64 0] ∧ NewB w w' (packL xs wd) a' c') := by
  have h64 : (2 : Nat) ^ wd ≤ 2 ^ 64 := Nat.pow_le_pow_right (by omega) hw
  have hx64 : ∀ x ∈ xs, x < 18446744073709551616 := fun x h => Nat.lt_of_lt_of_le (hx x h) h64
  have hm : xs.length * wd ≤ 4096 * 64 := Nat.mul_le_mul hn hw
  obtain ⟨m, hmd⟩ : ∃ m, m = sizeN xs.length wd := ⟨_, rfl⟩
  have hmv : m = (xs.length * wd + 7) / 8 := hmd
  apply R.ref01_Pack_calls
  unfold R.ref01_Pack
  refine (ref_Size_ok w (xs.length : Int) (wd : Int)).mono ?_
  rintro _ w ⟨_, rfl, rfl, rfl⟩
  rw [if_pos ⟨by omega, by omega, by omega, by omega⟩]
  refine ⟨_, _, rfl, IFB_ne (fun h => absurd rfl h) (fun _ => ?_)⟩
  have em : ((xs.length : Int) * (wd : Int) + 7) / 8 = (m : Int) := by
    rw [hmv]
    have : ((xs.length : Int) * (wd : Int)) = ((xs.length * wd : Nat) : Int) := by norm_cast
    rw [this]
    omega
  rw [em]
  refine make_new tB (l := (m : Int)) (c := (m : Int)) (by omega) (by omega) (by omega) (by omega) fun bo w2 hbo B2 hO2 => ?_
  rw [Int.toNat_natCast, rowC_zero (bitA xs wd) m] at hO2
  rw [Int.toNat_natCast]
  refine ⟨_, _, _, rfl, ?_⟩
  have low : ∀ {w' : World}, Keeps (fun k => k = bo) w2 w' → Below w.heap.size w w' := fun K => B2.trans (K.below B2.size fun k hk h => by omega)
  refine ⟨fun s w3 => ∃ i : Nat, i ≤ xs.length ∧ s = [.int .i64 (i : Int)] ∧ Keeps (fun k => k = bo) w2 w3 ∧ w3.heap[bo]? = some (.cells (rowC (bitA xs wd) m (i * wd)) ty.uint8 (0, 0)), fun s _ => match s with
      | [.int _ i] => xs.length - i.toNat
      | _ => 0, ⟨0, by omega, rfl, .refl _ _, by rw [Nat.zero_mul]; exact hO2⟩, ?_⟩
  rintro _ w3 ⟨i, hi, hs, K3, hO3⟩
  cases hs
  refine IFB_dec (fun hlt => ⟨⟨by omega, hlt⟩, ?_⟩) (fun hge => ?_)
  · have hil : i < xs.length := by omega
    have hxi := hx64 _ (List.getElem_mem hil)
    obtain ⟨p, rfl, hc⟩ := num_at (hl.grown (low K3)) hil
    refine ⟨_, by rw [Int.toNat_natCast]; exact hc, (ref_Of_ok w3 xs[i] wd hxi hw).mono ?_⟩
    rintro _ w4 ⟨_, rfl, rfl, rfl⟩
    refine ⟨_, rfl, IFB_not (IFB_dec (fun _ => ⟨⟨by omega, hlt⟩, _, by rw [Int.toNat_natCast]; exact hc, ?_⟩) (fun h => absurd (hx _ (List.getElem_mem hil)) h))⟩
    refine ⟨fun s w5 => ∃ k : Nat, k ≤ wd ∧ s = [.int .u64 ((xs[i] / 2 ^ k : Nat) : Int), .int .i64 (k : Int)] ∧ Keeps (fun k => k = bo) w2 w5 ∧ w5.heap[bo]? = some (.cells (rowC (bitA xs wd) m (i * wd + k)) ty.uint8 (0, 0)), fun s _ => match s with
        | [_, .int _ k] => wd - k.toNat
        | _ => 0, ⟨0, by omega, by simp, K3, hO3⟩, ?_⟩
    rintro _ _ w5 ⟨k, hk, hs, K5, hO5⟩
    cases hs
    refine IFB_dec (fun hlt2 => ?_) (fun hge2 => ?_)
    · have hkw : k < wd := by omega
      have hiw : i * wd + k < xs.length * wd := by
        have : (i + 1) * wd ≤ xs.length * wd := Nat.mul_le_mul_right _ hil
        rw [Nat.succ_mul] at this
        omega
      have hle : xs[i] / 2 ^ k ≤ xs[i] := Nat.div_le_self _ _
      have e2 : IntKind.u64.wrap (Int.tdiv ((xs[i] / 2 ^ k : Nat) : Int) 2) = ((xs[i] / 2 ^ (k + 1) : Nat) : Int) := by
        rw [Nat.pow_succ, ← Nat.div_div_eq_div_mul]
        generalize xs[i] / 2 ^ k = y at hle
        rw [Int.tdiv_eq_ediv_of_nonneg (by omega), wrap_u64_id (by omega) (by omega)]
        omega
      rw [e2, wrap_succ (by omega)]
      have em2 : Int.tmod ((xs[i] / 2 ^ k : Nat) : Int) 2 = ((xs[i] / 2 ^ k % 2 : Nat) : Int) := by
        rw [Int.tmod_eq_emod_of_nonneg (Int.natCast_nonneg _)]
        norm_cast
      rw [em2]
      have hbit : bitA xs wd (i * wd + k) = decide (xs[i] / 2 ^ k % 2 = 1) := by
        have h1 : (i * wd + k) / wd = i := by
          rw [Nat.mul_comm, Nat.mul_add_div (by omega), Nat.div_eq_of_lt hkw, Nat.add_zero]
        have h2 : (i * wd + k) % wd = k := by
          rw [Nat.mul_comm, Nat.mul_add_mod, Nat.mod_eq_of_lt hkw]
        unfold bitA
        rw [h1, h2, Nat.testBit_eq_decide_div_mod_eq]
        simp [List.getD, hil]
      obtain ⟨t, ht⟩ : ∃ t, t = i * wd + k := ⟨_, rfl⟩
      rw [← ht] at hbit hO5 hiw
      have hmu : ∀ wx : World, Keeps (fun k => k = bo) w2 wx → wx.heap[bo]? = some (.cells (rowC (bitA xs wd) m (t + 1)) ty.uint8 (0, 0)) →
          ((∃ k' : Nat, k' ≤ wd ∧ [Value.int .u64 ((xs[i] / 2 ^ (k + 1) : Nat) : Int), .int .i64 ((k + 1 : Nat) : Int)] = [.int .u64 ((xs[i] / 2 ^ k' : Nat) : Int), .int .i64 (k' : Int)] ∧ Keeps (fun k => k = bo) w2 wx ∧ wx.heap[bo]? = some (.cells (rowC (bitA xs wd) m (i * wd + k')) ty.uint8 (0, 0))) ∧ wd - ((k + 1 : Nat) : Int).toNat < wd - ((k : Nat) : Int).toNat) := by
        intro wx K hO
        refine ⟨⟨k + 1, by omega, rfl, K, by rw [← Nat.add_assoc, ← ht]; exact hO⟩, ?_⟩
        simp only [Int.toNat_natCast]
        omega
      refine IFB_eq (fun h1 => ?_) (fun h1 => ?_)
      · have hb1 : bitA xs wd t = true := by
          rw [hbit]
          exact decide_eq_true (by exact_mod_cast h1)
        unfold DRAW
        have et : IntKind.i64.wrap (IntKind.i64.wrap ((i : Int) * (wd : Int)) + (k : Int)) = (t : Int) := by
          have h1 : (i : Int) * (wd : Int) = ((i * wd : Nat) : Int) := by rw [Int.natCast_mul]
          rw [h1, ht]
          generalize i * wd = q at ht
          rw [wrap_i64 (n := (q : Int)) (by omega) (by omega), wrap_i64 (by omega) (by omega)]
          omega
        have ed : IntKind.i64.wrap (Int.tdiv (t : Int) 8) = ((t / 8 : Nat) : Int) := by
          rw [Int.tdiv_eq_ediv_of_nonneg (by omega), wrap_i64 (by omega) (by omega)]
          omega
        have er : Int.tmod (t : Int) 8 = ((t % 8 : Nat) : Int) := by
          rw [Int.tmod_eq_emod_of_nonneg (by omega)]
          omega
        rw [et, ed, er]
        have htm : t / 8 < m := by omega
        refine ⟨⟨by omega, by omega⟩, ?_⟩
        rw [Int.toNat_natCast, Int.toNat_natCast]
        have ea : (⟨bo, 0, none⟩ : Addr).add (t / 8 * 1) = ⟨bo, t / 8, none⟩ := by rw [addr_add_blk]; simp
        have hcell : w5.drew.cell? ((⟨bo, 0, none⟩ : Addr).add (t / 8 * 1)) = some (.int .u8 (stB (bitA xs wd) t (t / 8) : Int)) := by
          rw [ea]
          have : w5.drew.heap[bo]? = some (.cells (rowC (bitA xs wd) m t) ty.uint8 (0, 0)) := hO5
          simp only [World.cell?, this]
          simpa using rowC_get htm
        refine ⟨by omega, _, hcell, ⟨by omega, by omega⟩, ?_⟩
        have esh := shl_bit (b := true) (s := t % 8) (Nat.mod_lt _ (by omega))
        simp only [Bool.toNat_true, Nat.one_mul] at esh
        rw [show (((1 : Nat) : Int)) = 1 from rfl] at esh
        rw [esh]
        have hsh : 2 ^ (t % 8) < 2 ^ 8 := Nat.pow_lt_pow_right (by omega) (Nat.mod_lt _ (by omega))
        rw [or8 (stB_lt _ _ _) hsh]
        have estep := stB_step (bitA xs wd) t
        rw [hb1] at estep
        simp only [Bool.toNat_true, Nat.one_mul] at estep
        rw [estep]
        unfold PTR
        simp only
        rw [ea]
        refine sto_blk (show w5.drew.heap[bo]? = _ from hO5) (by rw [rowC_size]; exact htm) fun w7 K7 hO7 => ?_
        rw [rowC_set _ rfl] at hO7
        exact hmu w7 (K5.drew.trans K7 (fun k _ h => h)) hO7
      · have hb0 : bitA xs wd t = false := by
          rw [hbit]
          exact decide_eq_false (fun h => h1 (by exact_mod_cast h))
        exact hmu w5 K5 (by rw [rowC_skip hb0]; exact hO5)
    · have : k = wd := by omega
      subst this
      rw [wrap_succ (by omega)]
      refine ⟨⟨i + 1, by omega, rfl, K5, by rw [Nat.succ_mul]; exact hO5⟩, ?_⟩
      simp only [Int.toNat_natCast]
      omega
  · have : i = xs.length := by omega
    subst this
    have B3 := low K3
    refine ⟨some ⟨bo, 0, none⟩, m, by rw [packL_len, ← hmd], ⟨by simp, .inr ⟨bo, rowC (bitA xs wd) m (xs.length * wd), rfl, hO3, ?_, by omega, by rw [rowC_size]; omega, ?_⟩⟩, fun k hk => ?_, B3⟩
    · rw [packL_len, ← hmd]; exact Nat.le_refl _
    · have e := rowC_end xs wd
      rw [← hmd] at e
      rw [e, Nat.mul_one, ← List.length_map (f := byteV), List.take_length]
    · cases hk
      exact hbo
end
end Go.Proofs.YtpnaifmmggnimaaGreatDoor
namespace Go.Proofs
set_option linter.unusedVariables false
set_option maxRecDepth 100000
open Go.RowKit Go.Maps Go.Sort Go.Shelf
def Tryz.keys256_ren : Go.Shelf.Ren := ⟨fun | 7 => 256 | 10 => 272 | n => n, fun | 23 => 318 | 26 => 9 | 3 => 92 | 28 => 321 | 0 => 0 | 27 => 320 | 33 => 60 | 4 => 4 | n => n, fun | n => n⟩
theorem Tryz.keys256 : Go.Proofs.SlLaysZ.n7 Tryz.prog Tryz.keys256_ren := {
  mixed := by kernel_rfl
  f7 := ⟨Tryz.f256.name, by decide, Tryz.func256.trans (congrArg some (by kernel_rfl))⟩
  f10 := ⟨Tryz.f272.name, by decide, Tryz.func272.trans (congrArg some (by kernel_rfl))⟩
  t0 := Tryz.underlying0
  a0 := Tryz.isAgg0
  z0 := Tryz.sizeOf0
  v0 := Tryz.zeroValue0
  t4 := Tryz.underlying4
  a4 := Tryz.isAgg4
  z4 := Tryz.sizeOf4
  v4 := Tryz.zeroValue4
  t23 := Tryz.underlying318
  a23 := Tryz.isAgg318
  z23 := Tryz.sizeOf318
  v23 := Tryz.zeroValue318
  t26 := Tryz.underlying9
  a26 := Tryz.isAgg9
  z26 := Tryz.sizeOf9
  v26 := Tryz.zeroValue9
  t27 := Tryz.underlying320
  a27 := Tryz.isAgg320
  z27 := Tryz.sizeOf320
  v27 := Tryz.zeroValue320
  t28 := Tryz.underlying321
  a28 := Tryz.isAgg321
  z28 := Tryz.sizeOf321
  v28 := Tryz.zeroValue321
  t33 := Tryz.underlying60
  a33 := Tryz.isAgg60
  z33 := Tryz.sizeOf60
  v33 := Tryz.zeroValue60 }
def Tryz.sorted255_ren : Go.Shelf.Ren := ⟨fun | 6 => 255 | 8 => 270 | 9 => 271 | 11 => 284 | 13 => 140 | 12 => 285 | 23 => 178 | 24 => 179 | 14 => 288 | 15 => 289 | 16 => 290 | 17 => 291 | 18 => 292 | 19 => 293 | 20 => 294 | 21 => 295 | 22 => 296 | 25 => 297 | 26 => 212 | 27 => 213 | 28 => 298 | 29 => 299 | 30 => 300 | 31 => 301 | n => n, fun | 26 => 9 | 28 => 321 | 24 => 50 | 0 => 0 | 3 => 3 | 37 => 163 | 48 => 184 | 50 => 92 | 4 => 4 | 40 => 236 | 39 => 235 | 45 => 138 | 5 => 5 | 9 => 9 | 51 => 274 | 55 => 278 | 57 => 312 | 58 => 313 | 33 => 60 | n => n, fun | n => n⟩
theorem Tryz.sorted255 : Go.Proofs.SlLaysZ.n6 Tryz.prog Tryz.sorted255_ren := {
  mixed := by kernel_rfl
  f6 := ⟨Tryz.f255.name, by decide, Tryz.func255.trans (congrArg some (by kernel_rfl))⟩
  f8 := ⟨Tryz.f270.name, by decide, Tryz.func270.trans (congrArg some (by kernel_rfl))⟩
  f11 := ⟨Tryz.f284.name, by decide, Tryz.func284.trans (congrArg some (by kernel_rfl))⟩
  t0 := Tryz.underlying0
  a0 := Tryz.isAgg0
  z0 := Tryz.sizeOf0
  v0 := Tryz.zeroValue0
  t24 := Tryz.underlying50
  a24 := Tryz.isAgg50
  z24 := Tryz.sizeOf50
  v24 := Tryz.zeroValue50
  t26 := Tryz.underlying9
  a26 := Tryz.isAgg9
  z26 := Tryz.sizeOf9
  v26 := Tryz.zeroValue9
  t28 := Tryz.underlying321
  a28 := Tryz.isAgg321
  z28 := Tryz.sizeOf321
  v28 := Tryz.zeroValue321
  i26 := by kernel_rfl }
def Tryz.sort271_ren : Go.Shelf.Ren := ⟨fun | 6 => 271 | 8 => 140 | 9 => 285 | 19 => 178 | 20 => 179 | 21 => 288 | 22 => 289 | 23 => 290 | 24 => 291 | 25 => 292 | 26 => 293 | 27 => 294 | 28 => 295 | 29 => 296 | 36 => 297 | 31 => 212 | 32 => 213 | 37 => 298 | 38 => 299 | 39 => 300 | 41 => 301 | n => n, fun | 27 => 50 | 29 => 9 | 3 => 3 | 32 => 163 | 26 => 50 | 0 => 0 | 44 => 184 | 46 => 92 | 4 => 4 | 36 => 236 | 35 => 235 | 41 => 138 | 5 => 5 | 9 => 9 | 53 => 274 | 57 => 278 | 63 => 312 | 64 => 313 | n => n, fun | n => n⟩
theorem Tryz.sort271 : Go.Proofs.SlLaysM.n6 Tryz.prog Tryz.sort271_ren := {
  mixed := by kernel_rfl
  f6 := ⟨Tryz.f271.name, by decide, Tryz.func271.trans (congrArg some (by kernel_rfl))⟩
  f8 := Tryz.func140.trans (congrArg some (by kernel_rfl))
  f9 := ⟨Tryz.f285.name, by decide, Tryz.func285.trans (congrArg some (by kernel_rfl))⟩
  f19 := Tryz.func178.trans (congrArg some (by kernel_rfl))
  f20 := Tryz.func179.trans (congrArg some (by kernel_rfl))
  f21 := ⟨Tryz.f288.name, by decide, Tryz.func288.trans (congrArg some (by kernel_rfl))⟩
  f22 := ⟨Tryz.f289.name, by decide, Tryz.func289.trans (congrArg some (by kernel_rfl))⟩
  f23 := ⟨Tryz.f290.name, by decide, Tryz.func290.trans (congrArg some (by kernel_rfl))⟩
  f24 := ⟨Tryz.f291.name, by decide, Tryz.func291.trans (congrArg some (by kernel_rfl))⟩
  f25 := ⟨Tryz.f292.name, by decide, Tryz.func292.trans (congrArg some (by kernel_rfl))⟩
  f26 := ⟨Tryz.f293.name, by decide, Tryz.func293.trans (congrArg some (by kernel_rfl))⟩
  f27 := ⟨Tryz.f294.name, by decide, Tryz.func294.trans (congrArg some (by kernel_rfl))⟩
  f28 := ⟨Tryz.f295.name, by decide, Tryz.func295.trans (congrArg some (by kernel_rfl))⟩
  f29 := ⟨Tryz.f296.name, by decide, Tryz.func296.trans (congrArg some (by kernel_rfl))⟩
  f31 := Tryz.func212.trans (congrArg some (by kernel_rfl))
  f32 := Tryz.func213.trans (congrArg some (by kernel_rfl))
  f36 := ⟨Tryz.f297.name, by decide, Tryz.func297.trans (congrArg some (by kernel_rfl))⟩
  f37 := ⟨Tryz.f298.name, by decide, Tryz.func298.trans (congrArg some (by kernel_rfl))⟩
  f38 := ⟨Tryz.f299.name, by decide, Tryz.func299.trans (congrArg some (by kernel_rfl))⟩
  f39 := ⟨Tryz.f300.name, by decide, Tryz.func300.trans (congrArg some (by kernel_rfl))⟩
  f41 := ⟨Tryz.f301.name, by decide, Tryz.func301.trans (congrArg some (by kernel_rfl))⟩
  t0 := Tryz.underlying0
  a0 := Tryz.isAgg0
  z0 := Tryz.sizeOf0
  v0 := Tryz.zeroValue0
  t3 := Tryz.underlying3
  a3 := Tryz.isAgg3
  z3 := Tryz.sizeOf3
  v3 := Tryz.zeroValue3
  t4 := Tryz.underlying4
  a4 := Tryz.isAgg4
  z4 := Tryz.sizeOf4
  v4 := Tryz.zeroValue4
  t5 := Tryz.underlying5
  a5 := Tryz.isAgg5
  z5 := Tryz.sizeOf5
  v5 := Tryz.zeroValue5
  t9 := Tryz.underlying9
  a9 := Tryz.isAgg9
  z9 := Tryz.sizeOf9
  v9 := Tryz.zeroValue9
  t26 := Tryz.underlying50
  a26 := Tryz.isAgg50
  z26 := Tryz.sizeOf50
  v26 := Tryz.zeroValue50
  t27 := Tryz.underlying50
  a27 := Tryz.isAgg50
  z27 := Tryz.sizeOf50
  v27 := Tryz.zeroValue50
  t29 := Tryz.underlying9
  a29 := Tryz.isAgg9
  z29 := Tryz.sizeOf9
  v29 := Tryz.zeroValue9
  t32 := Tryz.underlying163
  a32 := Tryz.isAgg163
  z32 := Tryz.sizeOf163
  v32 := Tryz.zeroValue163
  t35 := Tryz.underlying235
  a35 := Tryz.isAgg235
  z35 := Tryz.sizeOf235
  v35 := Tryz.zeroValue235
  t36 := Tryz.underlying236
  a36 := Tryz.isAgg236
  z36 := Tryz.sizeOf236
  v36 := Tryz.zeroValue236
  t41 := Tryz.underlying138
  a41 := Tryz.isAgg138
  z41 := Tryz.sizeOf138
  v41 := Tryz.zeroValue138
  t44 := Tryz.underlying184
  a44 := Tryz.isAgg184
  z44 := Tryz.sizeOf184
  v44 := Tryz.zeroValue184
  t46 := Tryz.underlying92
  a46 := Tryz.isAgg92
  z46 := Tryz.sizeOf92
  v46 := Tryz.zeroValue92
  t53 := Tryz.underlying274
  a53 := Tryz.isAgg274
  z53 := Tryz.sizeOf274
  v53 := Tryz.zeroValue274
  t57 := Tryz.underlying278
  a57 := Tryz.isAgg278
  z57 := Tryz.sizeOf278
  v57 := Tryz.zeroValue278
  t63 := Tryz.underlying312
  a63 := Tryz.isAgg312
  z63 := Tryz.sizeOf312
  v63 := Tryz.zeroValue312
  t64 := Tryz.underlying313
  a64 := Tryz.isAgg313
  z64 := Tryz.sizeOf313
  v64 := Tryz.zeroValue313 }
theorem Tryz.sorts255 (m : Nat) : AnyZ.SortsIn Tryz.prog Tryz.sorted255_ren Fence.wide m :=
  ⟨fun blk off cap ss W hH hblk hsz => callsIn_wide.2 (AnyM.slices_Sort_string Tryz.sort271 blk off cap ss W hH hblk hsz),
   fun p cap W => callsIn_wide.2 (AnyM.slices_Sort_string_none Tryz.sort271 p cap W)⟩
theorem Tryz.maps_Keys_256 (mb : Option Nat) (W : World) : CallsIn Fence.wide 5 Tryz.prog 256 #[.map mb] W fun e w' => e = .returned (.func (.func 272) #[] #[.pointer (some ⟨W.heap.size, 0, none⟩)]) ∧ w' = W.alloc (.cells #[.map mb] 318) :=
  AnyZ.keys_in Tryz.keys256 Fence.wide 5 trivial rfl mb W
set_option maxHeartbeats 1000000 in
theorem Tryz.slices_Sorted_keys_255_256 {H : Type} (b nn : Nat) (D0 : DataW H) (R : Value → Option (DataW H × List MemPlace)) (w : World) (hown : w.ownsMap Tryz.prog 9 R b nn D0) (hmax : Maps.size D0 ≤ maxLen) (hbytes : Maps.size D0 * 16 ≤ 140737488355328) :
    CallsIn Fence.wide 5 Tryz.prog 255 #[.func (.func 272) #[] #[.pointer (some ⟨w.heap.size, 0, none⟩)]] (w.alloc (.cells #[.map (some b)] 318)) fun e w' => ∃ (v : Value) (ss : List (List UInt8)), e = .returned v ∧ ss.Perm (strKeys D0) ∧
      w'.ownsRow (w.alloc (.cells #[.map (some b)] 318)).heap.size 9 1 v ss.length ((ss.mergeSort (fun x y => decide (x ≤ y))).map encStr) ∧ (v = .slice none 0 0 ↔ ss = []) ∧ Below (w.alloc (.cells #[.map (some b)] 318)).heap.size (w.alloc (.cells #[.map (some b)] 318)) w' := by
  have hbl := hown.lt
  have hseq : SeqGives Fence.wide 2 Tryz.prog 272 #[.pointer (some ⟨w.heap.size, 0, none⟩)] encStr (fun ss => ss.Perm (strKeys D0)) (Maps.size D0) (w.alloc (.cells #[.map (some b)] 318)) :=
    AnyZ.keys_gives (ρ := Tryz.keys256_ren) { Tryz.keys256 with } Fence.wide _ trivial rfl (by omega) w.heap.size b nn D0 _ (by simp) (by simp) (by
      obtain ⟨es, clock, hb, Ft, hs, hD⟩ := hown
      exact ⟨es, clock, (Below.heap_alloc _ _ b hbl).trans hb, Ft, hs, hD⟩)
  exact AnyZ.sorted_in Tryz.sorted255 Fence.wide 5 trivial trivial trivial trivial rfl (by omega) (Tryz.sorts255 _) (enters_of Tryz.func271 (by kernel_rfl) rfl) 272 #[.pointer (some ⟨w.heap.size, 0, none⟩)] trivial (enters_of Tryz.func272 (by kernel_rfl) rfl) _ _ hmax hbytes _ hseq
end Go.Proofs
namespace Go.Dn
set_option linter.unusedVariables false
set_option maxRecDepth 100000
open Go.RowKit (Below)
open Go.Maps (has Tidy Keyed)
theorem Keeps.of_grownBy {w w' : World} {b : Nat} (h : w.grownBy w' (some b)) : Keeps (· = b) w w' :=
  ⟨h.os, h.tape, h.output, h.size, fun k hk hn => h.block k hk (fun e => hn (Option.some.inj e))⟩
def MapU (P : Program) (k e : TypeId) (q : IntKind) (w : World) (b n : Nat) (g : List UInt8 → Option Int) : Prop :=
  ∃ D : DataW Unit, w.ownsMap P k (plainElem P e) b n D ∧ Tidy D ∧ ∀ x, has D (.string x) = (g x).isSome ∧ D.atKey (.string x) (.lit (.int q 0)) = .lit (.int q ((g x).getD 0))
section
variable {P : Program} {k e t : TypeId} {q : IntKind} {w : World} {b n : Nat} {g : List UInt8 → Option Int}
theorem MapU.kept (h : MapU P k e q w b n g) {F : Nat → Prop} {w' : World} (K : Keeps F w w') (hn : ¬ F b) : MapU P k e q w' b n g := by
  obtain ⟨D, ⟨es, clock, hb, r⟩, h2⟩ := h
  exact ⟨D, ⟨es, clock, K.at hb hn, r⟩, h2⟩
theorem MapU.lt (h : MapU P k e q w b n g) : b < w.heap.size := by
  obtain ⟨D, h, _⟩ := h
  exact h.lt
theorem MapU.put (h : MapU P k e q w b n g) (hk : P.underlying k = some .string) (he : P.underlying e = some (.int q)) (ht : P.underlying t = some (.map k e)) (hn : n < maxLen) {s : ByteArray} (hs : s.size ≤ maxLen) {v : Int} (hv : (Lit.int q v).wf = true)
    {f : World → Prop} (hf : ∀ w', Keeps (· = b) w w' → MapU P k e q w' b (n + 1) (fun y => if y = bl s then some v else g y) → f w') : OPU P (Instr.mapUpdate t (.map (some b)) (.string s) (.int q v)) f w := by
  obtain ⟨D, hD, hT, hg⟩ := h
  have hkey : keyOf P k (.string s) = some (.string (bl s)) := by simp [keyOf, hk, mapKey, hs, bl]
  obtain ⟨w', hrun, hown, hgrow⟩ := hD.update (Maps.string_keyed hk) ht hn hkey (plainElem_int he hv)
  unfold OPU
  rw [hrun]
  have hkl : WideAt.IsKeyLit (.string (bl s)) := by simp [WideAt.IsKeyLit]
  refine hf w' (.of_grownBy hgrow) ⟨_, hown, hT.put hkl _, fun x => ?_⟩
  by_cases hx : x = bl s
  · subst hx
    simp only [if_true]
    exact ⟨Maps.has_put_same hT.isMap hkl _, Maps.atKey_put_same hT.isMap hkl _ _⟩
  · have hne : Lit.string x ≠ .string (bl s) := fun e => hx (by injection e)
    simp only [hx, if_false]
    exact ⟨(Maps.has_put_other hne _).trans (hg x).1, (Maps.atKey_put_other hne _ _).trans (hg x).2⟩
theorem MapU.get (h : MapU P k e q w b n g) (hk : P.underlying k = some .string) (he : P.underlying e = some (.int q)) (ht : P.underlying t = some (.map k e)) (hz : (zeroValue e).run P w = .ok (.int q 0) w) {s : ByteArray} (hs : s.size ≤ maxLen)
    {f : Value → World → Prop} (hf : f (.int q ((g (bl s)).getD 0)) w) : OPR P (Instr.lookup t (.map (some b)) (.string s) false) f w := by
  obtain ⟨D, hD, hT, hg⟩ := h
  have hkey : keyOf P k (.string s) = some (.string (bl s)) := by simp [keyOf, hk, mapKey, hs, bl]
  obtain ⟨c, hrun, hat, _⟩ := hD.lookup_int (Maps.string_keyed hk) ht he hz hkey
  rw [(hg (bl s)).2] at hat
  have : c = (g (bl s)).getD 0 := by injection hat with h1; injection h1 with _ h2; exact h2.symm
  unfold OPR
  rw [hrun, this]
  exact hf
theorem MapU.keys (h : MapU P k e q w b n g) (hk : P.underlying k = some .string) : ∃ D : DataW Unit, w.ownsMap P k (plainElem P e) b n D ∧ Maps.size D ≤ n ∧ (strKeys D).Nodup ∧ ∀ x, x ∈ strKeys D ↔ (g x).isSome = true := by
  obtain ⟨D, hD, hT, hg⟩ := h
  obtain ⟨es, e1, hpw⟩ := hT
  obtain ⟨es', hD', hko⟩ := hD.keysOf
  obtain rfl : es = es' := by rw [e1] at hD'; simpa using hD'
  have hstr : ∀ p ∈ es, ∃ x, p.1 = .string x := fun p hp => by obtain ⟨v, hv⟩ := hko p hp; obtain ⟨x, _, hx, _⟩ := Maps.keyOf_str hk hv; exact ⟨x, hx⟩
  have hnd : (strKeys D).Nodup := by
    rw [e1]
    show (es.map fun p => strOf p.1).Nodup
    refine List.pairwise_map.2 (hpw.imp_of_mem fun {p r} hp' hq' hne e => hne ?_)
    obtain ⟨a, ha⟩ := hstr p hp'
    obtain ⟨c, hc⟩ := hstr r hq'
    rw [ha, hc] at e ⊢
    exact congrArg _ e
  refine ⟨D, hD, ?_, hnd, fun x => ?_⟩
  · obtain ⟨es2, clock, _, _, hs, e2⟩ := hD
    rw [e2]
    simp only [Maps.size, length_sorted, List.length_map, Array.length_toList]
    exact hs
  · rw [← (hg x).1, e1, Maps.has_eq, List.any_eq_true]
    show x ∈ es.map (fun p => strOf p.1) ↔ _
    rw [List.mem_map]
    constructor
    · rintro ⟨p, hp', rfl⟩
      obtain ⟨a, ha⟩ := hstr p hp'
      exact ⟨p, hp', by rw [ha]; simp [Lit.sameKey, strOf]⟩
    · rintro ⟨p, hp', hs⟩
      obtain ⟨a, ha⟩ := hstr p hp'
      rw [ha] at hs
      exact ⟨p, hp', by rw [ha]; simpa [Lit.sameKey, strOf] using hs⟩
end
end Go.Dn
namespace Go.Proofs.YtpnaifmmggnimaaGreatDoor
set_option maxRecDepth 100000
open Go.Dn Go.Proofs
open Go.RowKit (Below)
set_option linter.unusedVariables false
theorem row_of_owns {w : World} {base : Nat} {e : TypeId} {v : Value} {n : Nat} {xs : List Value} (h : w.ownsRow base e 1 v n xs) : ∃ a c, v = .slice a n c ∧ Row w e 1 a n c xs ∧ ∀ k, rowB a = some k → base ≤ k := by
  obtain ⟨hl, ⟨rfl, rfl⟩ | ⟨g, cap, cur, rfl, hb, hg, h1, h2, h3, h4⟩⟩ := h
  · exact ⟨none, 0, rfl, ⟨hl, .inl ⟨rfl, rfl, rfl⟩⟩, by simp [rowB]⟩
  · refine ⟨_, cap, rfl, ⟨hl, .inr ⟨g, cur, rfl, hg, h1, ?_, h3, h4⟩⟩, fun k hk => ?_⟩
    · exact Nat.le_trans h2 (by decide)
    · cases hk; exact hb
structure IsRise (ls t : List (List UInt8)) : Prop where
  up : t.Pairwise (· < ·)
  mem : ∀ x, x ∈ t ↔ x ∈ ls
theorem lt_nodup {t : List (List UInt8)} (h : t.Pairwise (· < ·)) : t.Nodup := h.imp fun {a b} hab e => by subst e; exact List.lt_irrefl _ hab
theorem IsRise.one {ls t u : List (List UInt8)} (h : IsRise ls t) (h' : IsRise ls u) : t = u := by
  have hp : t.Perm u := (List.perm_ext_iff_of_nodup (lt_nodup h.up) (lt_nodup h'.up)).2 fun x => (h.mem x).trans (h'.mem x).symm
  exact List.Perm.eq_of_pairwise (le := fun a b => a < b) (fun a b _ _ h1 h2 => absurd h2 (List.lt_asymm h1)) h.up h'.up hp
theorem rise_sort {ls ss : List (List UInt8)} (hnd : ss.Nodup) (hm : ∀ x, x ∈ ss ↔ x ∈ ls) : IsRise ls (ss.mergeSort (fun x y => decide (x ≤ y))) := by
  have tr : ∀ a b c : List UInt8, leB a b = true → leB b c = true → leB a c = true := fun a b c h1 h2 => by simp only [leB, decide_eq_true_eq] at *; exact List.le_trans h1 h2
  have to : ∀ a b : List UInt8, (leB a b || leB b a) = true := fun a b => by simp only [leB, Bool.or_eq_true, decide_eq_true_eq]; exact List.le_total a b
  have hs := List.pairwise_mergeSort tr to ss
  have hp := List.mergeSort_perm ss leB
  have hn : (ss.mergeSort leB).Nodup := hp.nodup_iff.2 hnd
  refine ⟨?_, fun x => (hp.mem_iff).trans (hm x)⟩
  refine (hs.and hn).imp fun {a b} ⟨h1, h2⟩ => ?_
  simp only [leB, decide_eq_true_eq] at h1
  rcases Decidable.em (a < b) with h | h
  · exact h
  · exact absurd (List.le_antisymm h1 (List.not_lt.1 h)) h2
theorem und_str : Tryz.prog.underlying ty.string = some .string := by kernel_rfl
theorem und_u64 : Tryz.prog.underlying ty.uint64 = some (.int .u64) := by kernel_rfl
abbrev MapS (w : World) (b n : Nat) (g : List UInt8 → Option Int) : Prop := MapU Tryz.prog ty.string ty.uint64 .u64 w b n g
theorem sortedKeys_ok {w : World} {b n : Nat} {g : List UInt8 → Option Int} (h : MapS w b n g) (hn : n ≤ 4096) {ls : List (List UInt8)} (hg : ∀ x, (g x).isSome = true ↔ x ∈ ls) {k : Value → World → Prop}
    (hk : ∀ a c t w', IsRise ls t → Row w' ty.string 1 a t.length c (t.map encStr) → (∀ k, rowB a = some k → w.heap.size ≤ k) → Below w.heap.size w w' → k (.slice a t.length c) w') :
    Calls Tryz.prog f.maps_Keys_map_string_uint64_string_uint64 #[.map (some b)] w (fun e w1 => ∃ (fn : FuncId) (fi ca : Array Value), e = .returned (.func (.func fn) fi ca) ∧
      Calls Tryz.prog f.slices_Sorted_string #[.func (.func fn) fi ca] w1 (fun e w2 => ∃ (a : Option Addr) (l c : Nat), e = .returned (.slice a l c) ∧ k (.slice a l c) w2)) := by
  obtain ⟨D, hD, hsz, hnd, hmem⟩ := h.keys und_str
  refine (callsIn_wide.1 (Tryz.maps_Keys_256 (some b) w)).mono ?_
  rintro _ w1 ⟨rfl, rfl⟩
  refine ⟨_, _, _, rfl, (callsIn_wide.1 (Tryz.slices_Sorted_keys_255_256 b n D (plainElem Tryz.prog ty.uint64) w hD (Nat.le_trans (Nat.le_trans hsz hn) (by decide)) (by omega))).mono ?_⟩
  rintro _ w2 ⟨v, ss, rfl, hperm, hrow, _, hb⟩
  obtain ⟨a, c, rfl, hR, hnew⟩ := row_of_owns hrow
  have hr := rise_sort (ls := ls) (hperm.nodup_iff.2 hnd) (fun x => (hperm.mem_iff).trans ((hmem x).trans (hg x)))
  have hlen : (ss.mergeSort (fun x y => decide (x ≤ y))).length = ss.length := List.length_mergeSort _
  have sz : w.heap.size ≤ (w.alloc (.cells #[.map (some b)] ty.map_string_uint64)).heap.size := by simp
  refine ⟨_, _, _, rfl, ?_⟩
  have := hk a c _ w2 hr (by rw [hlen]; exact hR) (fun k hk => Nat.le_trans sz (hnew k hk)) (((Below.refl _ w).alloc (Nat.le_refl _) _).trans (hb.mono sz))
  rwa [hlen] at this
def valC (v : Val) : List Value := [.int .i64 v.1, .int .i64 v.2.1, .string v.2.2]
def stU (f : Nat → Bool) (w : Nat) : Nat → Nat → Nat
  | 0, _ => 0
  | t + 1, j => if j = t / w ∧ f t = true then stU f w t j ||| 2 ^ (t % w) else stU f w t j
def bitB (l : List UInt8) (t : Nat) : Bool := (l.getD (t / 8) 0).toNat.testBit (t % 8)
def unpackL (l : List UInt8) (n w : Nat) : List Nat := (List.range n).map (stU (bitB l) w (n * w))
/-! ### rows of numbers -/
/-! ### words -/
end Go.Proofs.YtpnaifmmggnimaaGreatDoor
namespace Go.Proofs.YtpnaifmmggnimaaGreatDoor
set_option maxRecDepth 100000
open Go.Dn Go.Proofs
open Go.RowKit (Below)
set_option linter.unusedVariables false
/-! ### what package-level variables hold -/
/-! ### Number, Signed, Text -/
def zigN (n : Int) : Nat := if n < 0 then (-(2 * n) - 1).toNat else (2 * n).toNat
theorem zigN_lt {n : Int} (h1 : -9223372036854775808 ≤ n) (h2 : n ≤ 9223372036854775807) : zigN n < 18446744073709551616 := by unfold zigN; split <;> omega
theorem zig_prog {n : Int} (h1 : -9223372036854775808 ≤ n) (h2 : n ≤ 9223372036854775807) :
    IntKind.u64.wrap (((BitVec.ofInt 64 (IntKind.u64.wrap (IntKind.i64.wrap (n * 2 ^ (min 1 64)))) ^^^ BitVec.ofInt 64 (IntKind.u64.wrap (Int.fdiv n (2 ^ (min 63 64))))).toNat : Int)) = (zigN n : Int) := by
  have e1 : IntKind.u64.wrap (IntKind.i64.wrap (n * 2 ^ (min 1 64))) = (2 * n) % 18446744073709551616 := by
    rw [wrap_u64, wrap_i64_def]
    have : n * 2 ^ (min 1 64) = 2 * n := by rw [show (2 : Int) ^ (min 1 64) = 2 from rfl]; omega
    rw [this]
    split <;> omega
  rw [e1]
  by_cases hn : n < 0
  · have e2 : Int.fdiv n (2 ^ (min 63 64)) = -1 := by
      rw [Int.fdiv_eq_ediv_of_nonneg _ (by decide), show (2 : Int) ^ (min 63 64) = 9223372036854775808 from rfl]
      omega
    rw [e2, show IntKind.u64.wrap (-1) = 18446744073709551615 by decide]
    obtain ⟨m, hm⟩ : ∃ m : Nat, (2 * n) % 18446744073709551616 = (m : Int) := ⟨((2 * n) % 18446744073709551616).toNat, by omega⟩
    have hmlt : m < 18446744073709551616 := by omega
    rw [hm, show BitVec.ofInt 64 18446744073709551615 = BitVec.allOnes 64 by decide, BitVec.xor_allOnes, BitVec.toNat_not, BitVec.ofInt_natCast, BitVec.toNat_ofNat, Nat.mod_eq_of_lt (by omega), wrap_u64_id (by omega) (by omega)]
    unfold zigN
    rw [if_pos hn]
    omega
  · have e2 : Int.fdiv n (2 ^ (min 63 64)) = 0 := by
      rw [Int.fdiv_eq_ediv_of_nonneg _ (by decide), show (2 : Int) ^ (min 63 64) = 9223372036854775808 from rfl]
      omega
    obtain ⟨m, rfl⟩ : ∃ m : Nat, n = (m : Int) := ⟨n.toNat, by omega⟩
    rw [e2, show IntKind.u64.wrap 0 = 0 by decide, show BitVec.ofInt 64 0 = 0#64 by decide, BitVec.xor_zero]
    have : (2 * (m : Int)) % 18446744073709551616 = ((2 * m : Nat) : Int) := by omega
    rw [this, BitVec.ofInt_natCast, BitVec.toNat_ofNat, Nat.mod_eq_of_lt (by omega), wrap_u64_id (by omega) (by omega)]
    unfold zigN
    rw [if_neg hn]
    omega
theorem wire_Signed_ok {w : World} {a : Option Addr} {c : Nat} (l : List UInt8) (hl : Rd w a (l.map byteV)) (n : Int) (h1 : -9223372036854775808 ≤ n) (h2 : n ≤ 9223372036854775807) (hs : l.length + 10 ≤ 140737488355328) :
    Calls Tryz.prog f.wire_Signed #[.slice a l.length c, .int .i64 n] w (Ret fun v w' => ∃ a c, v = .slice a (l ++ digitsL (zigN n)).length c ∧ NewB w w' (l ++ digitsL (zigN n)) a c) := by
  apply R.wire_Signed_calls
  unfold R.wire_Signed
  rw [zig_prog h1 h2]
  refine (wire_Number_ok l hl (zigN n) (zigN_lt h1 h2) hs).mono ?_
  rintro _ w1 ⟨_, rfl, a1, c1, rfl, h⟩
  exact ⟨_, _, _, rfl, a1, c1, rfl, h⟩
/-! ### Lay -/
/-! ### Show -/
end Go.Proofs.YtpnaifmmggnimaaGreatDoor
namespace Go.Proofs.YtpnaifmmggnimaaGreatDoor
set_option maxRecDepth 100000
open Go.Dn Go.Proofs
open Go.RowKit (Below)
set_option linter.unusedVariables false
def i64V (x : Int) : Value := .int .i64 x
def I64 (x : Int) : Prop := -9223372036854775808 ≤ x ∧ x ≤ 9223372036854775807
theorem wrap_I64 (x : Int) : I64 (IntKind.i64.wrap x) := by
  rw [wrap_i64_def]
  unfold I64
  split <;> omega
def lenN (x : Nat) : Nat := if x = 0 then 0 else Nat.log2 x + 1
theorem lenN_is (x : Nat) : IsLen x (lenN x) := by
  unfold lenN
  split
  · rename_i h
    subst h
    exact ⟨by decide, .inl rfl⟩
  · rename_i h
    exact ⟨Nat.lt_log2_self, .inr (by rw [Nat.add_sub_cancel]; exact Nat.log2_self_le h)⟩
def sigL (x : Int) : List UInt8 := digitsL (zigN x)
theorem sigL_len {x : Int} (h : I64 x) : (sigL x).length ≤ 10 := digitsL_len10 (zigN_lt h.1 h.2)
def runsL : List Int → List UInt8
  | [] => []
  | x :: r => digitsL ((r.takeWhile (· == x)).length + 1) ++ (sigL x ++ runsL (r.drop (r.takeWhile (· == x)).length))
termination_by l => l.length
decreasing_by simp only [List.length_drop, List.length_cons]; omega
structure IsRun (l : List Int) (k n : Nat) : Prop where
  pos : 0 < n
  le : k + n ≤ l.length
  all : ∀ j, j < n → l[k + j]? = l[k]?
  stop : k + n = l.length ∨ l[k + n]? ≠ l[k]?
theorem takeWhile_len {x : Int} : ∀ {r : List Int} {n : Nat}, n ≤ r.length → (∀ j, j < n → r[j]? = some x) → (n = r.length ∨ r[n]? ≠ some x) → (r.takeWhile (· == x)).length = n
  | [], n, h1, _, _ => by simp at h1; simp [h1]
  | y :: r, 0, _, _, h3 => by
    rcases h3 with h3 | h3
    · simp at h3
    · simp only [List.getElem?_cons_zero, ne_eq, Option.some.injEq] at h3
      rw [List.takeWhile_cons_of_neg (by simpa using h3)]
      rfl
  | y :: r, n + 1, h1, h2, h3 => by
    have h0 := h2 0 (by omega)
    simp only [List.getElem?_cons_zero, Option.some.injEq] at h0
    rw [List.takeWhile_cons_of_pos (by simpa using h0), List.length_cons]
    rw [takeWhile_len (r := r) (n := n) (by simpa using h1) (fun j hj => by have := h2 (j + 1) (by omega); simpa using this) (by
      rcases h3 with h3 | h3
      · exact .inl (by simpa using h3)
      · exact .inr (by simpa using h3))]
theorem runs_cut {l : List Int} {k n : Nat} (h : IsRun l k n) : runsL (l.drop k) = digitsL n ++ (sigL (l.getD k 0) ++ runsL (l.drop (k + n))) := by
  have hp := h.pos
  have hl := h.le
  have hk : k < l.length := by omega
  have hg : l.getD k 0 = l[k] := by simp [hk]
  have hk? : l[k]? = some l[k] := List.getElem?_eq_getElem hk
  rw [List.drop_eq_getElem_cons hk, hg]
  conv => lhs; unfold runsL
  have hT : ((l.drop (k + 1)).takeWhile (· == l[k])).length = n - 1 := by
    apply takeWhile_len
    · rw [List.length_drop]; omega
    · intro j hj
      rw [List.getElem?_drop, ← hk?, ← h.all (j + 1) (by omega)]
      congr 1
      omega
    · rcases h.stop with h3 | h3
      · left; rw [List.length_drop]; omega
      · right
        rw [List.getElem?_drop, ← hk?]
        have e : k + 1 + (n - 1) = k + n := by omega
        rw [e]
        exact h3
  rw [hT, List.drop_drop, show n - 1 + 1 = n by omega, show k + 1 + (n - 1) = k + n by omega]
theorem runsL_nil : runsL [] = [] := by unfold runsL; rfl
def stepsN (l : List Int) : List Nat := (List.range (l.length - 1)).map fun i => zigN (IntKind.i64.wrap (l.getD (i + 1) 0 - l.getD i 0))
def minTo (l : List Int) (k : Nat) : Int := (l.take k).foldl (fun m x => if x < m then x else m) (l.headD 0)
def minL (l : List Int) : Int := minTo l l.length
def frameN (l : List Int) : List Nat := l.map fun x => (x - minL l).toNat
theorem minTo_succ {l : List Int} {k : Nat} (hk : k < l.length) : minTo l (k + 1) = if l[k] < minTo l k then l[k] else minTo l k := by
  unfold minTo
  rw [List.take_succ_eq_append_getElem hk, List.foldl_append]
  rfl
theorem foldl_min_le (l : List Int) : ∀ m : Int, l.foldl (fun m x => if x < m then x else m) m ≤ m ∧ (∀ x ∈ l, l.foldl (fun m x => if x < m then x else m) m ≤ x) ∧ (l.foldl (fun m x => if x < m then x else m) m = m ∨ l.foldl (fun m x => if x < m then x else m) m ∈ l) := by
  induction l with
  | nil => intro m; simp
  | cons y l ih =>
    intro m
    obtain ⟨h1, h2, h3⟩ := ih (if y < m then y else m)
    rw [List.foldl_cons]
    refine ⟨?_, ?_, ?_⟩
    · refine Int.le_trans h1 ?_
      split <;> omega
    · intro x hx
      rcases List.mem_cons.1 hx with rfl | hx
      · refine Int.le_trans h1 ?_
        split <;> omega
      · exact h2 x hx
    · rcases h3 with h3 | h3
      · rw [h3]
        split
        · right; exact List.mem_cons_self ..
        · left; rfl
      · right; exact List.mem_cons_of_mem _ h3
theorem minL_le {l : List Int} {x : Int} (h : x ∈ l) : minL l ≤ x := by
  unfold minL minTo
  rw [List.take_length]
  exact (foldl_min_le l _).2.1 x h
theorem minTo_I64 {l : List Int} (h : ∀ x ∈ l, I64 x) (h0 : 0 < l.length) (k : Nat) : I64 (minTo l k) := by
  unfold minTo
  have hh : I64 (l.headD 0) := by
    cases l with
    | nil => simp at h0
    | cons y l => exact h y (List.mem_cons_self ..)
  rcases (foldl_min_le (l.take k) (l.headD 0)).2.2 with e | e
  · rw [e]; exact hh
  · exact h _ (List.mem_of_mem_take e)
theorem stepsN_lt {l : List Int} : ∀ x ∈ stepsN l, x < 18446744073709551616 := by
  intro x hx
  obtain ⟨i, _, rfl⟩ := List.mem_map.1 hx
  have := wrap_I64 (l.getD (i + 1) 0 - l.getD i 0)
  exact zigN_lt this.1 this.2
theorem frameN_lt {l : List Int} (h : ∀ x ∈ l, I64 x) : ∀ x ∈ frameN l, x < 18446744073709551616 := by
  intro x hx
  obtain ⟨y, hy, rfl⟩ := List.mem_map.1 hx
  have h1 := h y hy
  have h2 := minTo_I64 h (List.length_pos_of_mem hy) l.length
  have h3 := minL_le hy
  unfold minL at h3 ⊢
  unfold I64 at h1 h2
  omega
def packedL (first : Int) (s : List Nat) : List UInt8 := sigL first ++ (UInt8.ofNat (lenN (orL s)) :: packL s (lenN (orL s)))
def intsL (form : Nat) (l : List Int) : List UInt8 :=
  match form with
  | 0 => 0 :: l.flatMap sigL
  | 1 => 1 :: runsL l
  | 2 => 2 :: (if l = [] then [] else packedL (l.headD 0) (stepsN l))
  | _ => 3 :: (if l = [] then [] else packedL (minL l) (frameN l))
theorem lenN_le64 {s : List Nat} (h : ∀ x ∈ s, x < 18446744073709551616) : lenN (orL s) ≤ 64 := (lenN_is _).le.2 ((orL_lt s 64).2 h)
theorem packedL_len {f : Int} {s : List Nat} (hf : I64 f) (h : ∀ x ∈ s, x < 18446744073709551616) : (packedL f s).length ≤ 12 + s.length * 8 := by
  have h1 := sigL_len hf
  have h2 := packL_len s (lenN (orL s))
  have h3 := lenN_le64 h
  unfold packedL
  simp only [List.length_append, List.length_cons]
  unfold sizeN at h2
  have h4 : s.length * lenN (orL s) ≤ s.length * 64 := Nat.mul_le_mul_left _ h3
  omega
theorem flatSig_len {l : List Int} (h : ∀ x ∈ l, I64 x) : (l.flatMap sigL).length ≤ l.length * 10 := by
  induction l with
  | nil => simp
  | cons x l ih =>
    have h1 := sigL_len (h x (List.mem_cons_self ..))
    have h2 := ih fun y hy => h y (List.mem_cons_of_mem _ hy)
    simp only [List.flatMap_cons, List.length_append, List.length_cons]
    omega
theorem runsL_len : ∀ (n : Nat) (l : List Int), l.length ≤ n → n ≤ 4096 → (∀ x ∈ l, I64 x) → (runsL l).length ≤ l.length * 20
  | _, [], _, _, _ => by rw [runsL_nil]; simp
  | 0, x :: l, h, _, _ => by simp at h
  | n + 1, x :: l, h, hn, hx => by
    unfold runsL
    have h1 := sigL_len (hx x (List.mem_cons_self ..))
    have hT : (l.takeWhile (· == x)).length ≤ l.length := (List.takeWhile_sublist _).length_le
    have hl : l.length ≤ n := by simpa using h
    have h2 := digitsL_len10 (n := (l.takeWhile (· == x)).length + 1) (by omega)
    have h3 := runsL_len n (l.drop (l.takeWhile (· == x)).length) (by rw [List.length_drop]; omega) (by omega) (fun y hy => hx y (List.mem_cons_of_mem _ (List.mem_of_mem_drop hy)))
    rw [List.length_drop] at h3
    simp only [List.length_append, List.length_cons]
    omega
theorem intsL_len {l : List Int} (f : Nat) (hn : l.length ≤ 4096) (h : ∀ x ∈ l, I64 x) : (intsL f l).length ≤ 13 + l.length * 20 := by
  unfold intsL
  split
  · have := flatSig_len h
    simp only [List.length_cons]
    omega
  · have := runsL_len 4096 l hn (by omega) h
    simp only [List.length_cons]
    omega
  · split
    · simp only [List.length_cons, List.length_nil]
      omega
    · rename_i h0
      have hp : 0 < l.length := List.length_pos_iff.2 h0
      have h1 : I64 (l.headD 0) := by
        have := minTo_I64 h hp 0
        simpa [minTo] using this
      have := packedL_len h1 (stepsN_lt (l := l))
      have e : (stepsN l).length = l.length - 1 := by simp [stepsN]
      rw [e] at this
      simp only [List.length_cons]
      omega
  · split
    · simp only [List.length_cons, List.length_nil]
      omega
    · rename_i h0
      have hp : 0 < l.length := List.length_pos_iff.2 h0
      have := packedL_len (minTo_I64 h hp l.length) (frameN_lt h)
      have e : (frameN l).length = l.length := by simp [frameN]
      rw [e] at this
      unfold minL
      simp only [List.length_cons]
      omega
section
variable {w : World} {a : Option Addr} {c : Nat}
theorem ref_Zig_ok (n : Int) (h1 : -9223372036854775808 ≤ n) (h2 : n ≤ 9223372036854775807) : Calls Tryz.prog f.ref02_Zig #[.int .i64 n] w (Ret fun v w' => v = .int .u64 (zigN n : Int) ∧ w' = w) := by
  apply R.ref02_Zig_calls
  unfold R.ref02_Zig
  refine IFB_dec (fun h => ⟨?_, rfl⟩) (fun h => ⟨?_, rfl⟩)
  · rw [wrap_i64 (n := n + 1) (by omega) (by omega), wrap_i64 (n := 0 - (n + 1)) (by omega) (by omega), wrap_u64_id (n := 0 - (n + 1)) (by omega) (by omega), wrap_u64_id (n := 2 * (0 - (n + 1))) (by omega) (by omega), wrap_u64_id (by omega) (by omega)]
    unfold zigN
    rw [if_pos h]
    congr 1
    omega
  · rw [wrap_u64_id (n := n) (by omega) (by omega), wrap_u64_id (by omega) (by omega)]
    unfold zigN
    rw [if_neg h]
    congr 1
    omega
theorem ref_Signed_ok (l : List UInt8) (hl : Rd w a (l.map byteV)) (n : Int) (h1 : -9223372036854775808 ≤ n) (h2 : n ≤ 9223372036854775807) (hs : l.length + 10 ≤ 140737488355328) :
    Calls Tryz.prog f.ref02_Signed #[.slice a l.length c, .int .i64 n] w (Ret fun v w' => ∃ a c, v = .slice a (l ++ digitsL (zigN n)).length c ∧ NewB w w' (l ++ digitsL (zigN n)) a c) := by
  apply R.ref02_Signed_calls
  unfold R.ref02_Signed
  refine (ref_Zig_ok n h1 h2).mono ?_
  rintro _ w ⟨_, rfl, rfl, rfl⟩
  refine ⟨_, rfl, (ref_Number_ok l hl (zigN n) (zigN_lt h1 h2) hs).mono ?_⟩
  rintro _ w1 ⟨_, rfl, a1, c1, rfl, h⟩
  exact ⟨_, _, _, rfl, a1, c1, rfl, h⟩
end
def laidL (ls : List ByteArray) : List UInt8 := ls.flatMap textL
theorem laidL_take {ls : List ByteArray} {k : Nat} (hk : k < ls.length) : laidL (ls.take (k + 1)) = laidL (ls.take k) ++ textL ls[k] := by
  unfold laidL
  rw [List.take_succ_eq_append_getElem hk, List.flatMap_append]
  simp
theorem textL_len {s : ByteArray} (h : s.size ≤ 1024) : (textL s).length ≤ 1034 := by
  have := digitsL_len10 (n := s.size) (by omega)
  have := bl_length s
  simp [textL]
  omega
theorem laidL_len {ls : List ByteArray} (h : ∀ s ∈ ls, s.size ≤ 1024) : (laidL ls).length ≤ ls.length * 1034 := by
  induction ls with
  | nil => simp [laidL]
  | cons s ls ih =>
    have h1 := textL_len (h s (List.mem_cons_self ..))
    have h2 := ih fun x hx => h x (List.mem_cons_of_mem _ hx)
    simp only [laidL, List.flatMap_cons, List.length_append, List.length_cons] at *
    omega
theorem tP : slT Tryz.prog ty.L_L_uint8 = some (ty.L_uint8, 1, 24, .slice none 0 0) := by kernel_rfl
theorem str_at {w : World} {a : Option Addr} {ls : List ByteArray} (hl : Rd w a (ls.map Value.string)) {i : Nat} (hi : i < ls.length) : ∃ p, a = some p ∧ w.cell? (p.add (i * 1)) = some (.string ls[i]) := by
  obtain ⟨p, hp, hc⟩ := hl i (.string ls[i]) (by simp [hi])
  exact ⟨p, hp, by rw [Nat.mul_one]; exact hc⟩
theorem dict_laid_ok {w : World} {a : Option Addr} {c : Nat} {ls : List ByteArray} (hl : Rd w a (ls.map Value.string)) (hn : ls.length ≤ 4096) (hz : ∀ s ∈ ls, s.size ≤ 1024) :
    Calls Tryz.prog f.dict_laid #[.slice a ls.length c] w (Ret fun v w' => ∃ a' c', v = .slice a' (laidL ls).length c' ∧ NewB w w' (laidL ls) a' c') := by
  apply R.dict_laid_calls
  unfold R.dict_laid
  refine ⟨fun s w1 => ∃ (ps : List PartB) (pa : Option Addr) (pc : Nat), s = [.slice pa ps.length pc, .int .i64 (ps.length : Int)] ∧ ps.length ≤ ls.length ∧ Row w1 ty.L_uint8 1 pa ps.length pc (ps.map partV1) ∧ (∀ k, rowB pa = some k → w.heap.size ≤ k) ∧
      (∀ p ∈ ps, Rd w1 p.1 (p.2.2.map byteV) ∧ (∀ k, rowB pa = some k → rowB p.1 ≠ some k) ∧ ∀ k, rowB p.1 = some k → k < w1.heap.size) ∧ flatB ps = laidL (ls.take ps.length) ∧ Below w.heap.size w w1, fun s _ => match s with
      | [_, .int _ i] => ls.length - i.toNat
      | _ => 0, ⟨[], none, 0, rfl, by simp, Row.nil _ _ _, by simp [rowB], by simp, by simp [flatB, laidL], .refl _ _⟩, ?_⟩
  rintro pa _ pc _ w1 ⟨ps, _, _, hs, hle, hR, hnew, hps, hfl, B1⟩
  cases hs
  refine IFB_dec (fun hlt => ⟨⟨by omega, hlt⟩, ?_⟩) (fun hge => ?_)
  · have hkl : ps.length < ls.length := by omega
    obtain ⟨p, rfl, hc⟩ := str_at (hl.grown B1) hkl
    have hsz := hz _ (List.getElem_mem hkl)
    refine ⟨_, by rw [Int.toNat_natCast]; exact hc, (wire_Text_ok (c := 0) [] (Rd.nil _ _) ls[ps.length] (by omega) (by simp; omega)).mono ?_⟩
    rintro _ w3 ⟨_, rfl, a3, c3, rfl, h3⟩
    rw [List.nil_append] at h3 ⊢
    refine ⟨_, _, _, _, rfl, (SH.start (fun _ => False) w3).newB fun b12 w4 hb12 B4 S4 => ?_⟩
    have h4 := h3.grown B4
    have hsrc : Rd w4 (some ⟨b12, 0, none⟩) [partV1 (a3, c3, textL ls[ps.length])] := by
      have := Rd.of_block0 (S4.get 0 rfl)
      simpa [partV1] using this
    obtain ⟨a5, c5, w5, hrun, hrow, hk, hnw⟩ := append_row (ty := ty.L_L_uint8) (mc := 1) tP rfl (by omega) (by omega) (hR.grown (h4.bel)) hsrc (m := 1) rfl (by simp [partV1]; rfl) (by omega)
    unfold OPR
    rw [hrun]
    refine ⟨_, _, _, rfl, ?_⟩
    have e1 : (ps ++ [(a3, c3, textL ls[ps.length])]).length = ps.length + 1 := by simp
    have B4' : Below w.heap.size w w4 := B1.trans (h4.bel.mono B1.size)
    refine ⟨⟨ps ++ [(a3, c3, textL ls[ps.length])], a5, c5, ?_, by omega, ?_, fun k hk5 => ?_, fun q hq => ?_, ?_, B4'.trans (hk.below B4'.size fun k hlt hkk => ?_)⟩, ?_⟩
    · rw [wrap_succ (by omega), e1]
    · rw [e1, List.map_append]
      exact hrow
    · rcases hnw k hk5 with h | h
      · exact hnew k h
      · exact Nat.le_trans B4'.size h
    · have hpl : ∀ k, rowB pa = some k → k < w1.heap.size := fun k h => hR.lt h
      have hfar : ∀ k, rowB pa = some k → rowB q.1 ≠ some k := by
        intro k hk1 hk2
        rcases List.mem_append.1 hq with h | h
        · exact (hps q h).2.1 k hk1 hk2
        · simp only [List.mem_singleton] at h
          subst h
          have := h3.new k hk2
          have := hpl k hk1
          omega
      have hrd4 : Rd w4 q.1 (q.2.2.map byteV) := by
        rcases List.mem_append.1 hq with h | h
        · exact (hps q h).1.grown h4.bel
        · simp only [List.mem_singleton] at h
          subst h
          exact h4.rd
      have hql : ∀ k, rowB q.1 = some k → k < w4.heap.size := by
        intro k hk2
        rcases List.mem_append.1 hq with h' | h'
        · exact Nat.lt_of_lt_of_le ((hps q h').2.2 k hk2) h4.bel.size
        · simp only [List.mem_singleton] at h'
          subst h'
          exact h4.row.lt hk2
      refine ⟨?_, fun k hk5 hk2 => ?_, fun k hk2 => Nat.lt_of_lt_of_le (hql k hk2) hk.size⟩
      · exact hrd4.keeps hk (fun p hp hF => hfar p.block hF (by rw [hp]; rfl))
      · rcases hnw k hk5 with h | h
        · exact hfar k h hk2
        · have := hql k hk2
          omega
    · rw [e1, laidL_take hkl, ← hfl]
      simp [flatB]
    · have := hnew k hkk
      omega
    · simp only [Int.toNat_natCast]
      rw [wrap_succ (by omega)]
      omega
  · have hpl : ps.length = ls.length := by omega
    rw [hpl, List.take_length] at hfl
    have hlen := laidL_len hz
    refine (slices_Concat_ok ps hR.rd (fun p hp => (hps p hp).1) (by omega) (by rw [hfl]; omega)).mono ?_
    rintro _ w2 ⟨_, rfl, a2, c2, rfl, h2⟩
    rw [hfl] at h2 ⊢
    exact ⟨_, _, _, rfl, a2, c2, rfl, h2.before B1⟩
def longB (ls : List ByteArray) : Bool := ls.any fun s => decide (1024 < s.size)
theorem longB_false {ls : List ByteArray} (h : longB ls = false) : ∀ s ∈ ls, s.size ≤ 1024 := by
  intro s hs
  have := List.any_eq_false.1 h s hs
  simpa using this
theorem long_ok (w : World) (s : ByteArray) : Calls Tryz.prog f.dict_Encode_c1 #[.string s] w (Ret fun v w' => w' = w ∧ v = .bool (decide (1024 < s.size))) := by
  apply R.dict_Encode_c1_calls
  unfold R.dict_Encode_c1
  refine ⟨rfl, ?_⟩
  congr 1
  rw [Bool.eq_iff_iff]
  simp
  omega
theorem enters_long : enters Tryz.prog f.dict_Encode_c1 = true := by kernel_rfl
section
variable {w : World} {a : Option Addr} {c : Nat} {ls : List ByteArray}
theorem ContainsFunc_ok (hl : Rd w a (ls.map Value.string)) (hn : ls.length ≤ 9223372036854775807) :
    Calls Tryz.prog f.slices_ContainsFunc_string_string #[.slice a ls.length c, .func (.func f.dict_Encode_c1) #[] #[]] w (Ret fun v w' => w' = w ∧ v = .bool (longB ls)) := by
  have idx : Calls Tryz.prog f.slices_IndexFunc_string_string #[.slice a ls.length c, .func (.func f.dict_Encode_c1) #[] #[]] w (Ret fun v w' => w' = w ∧ ∃ i : Int, v = .int .i64 i ∧ (0 ≤ i ↔ longB ls = true)) := by
    apply R.slices_IndexFunc_string_string_calls
    unfold R.slices_IndexFunc_string_string
    refine ⟨fun s w1 => w1 = w ∧ ∃ k : Nat, k ≤ ls.length ∧ s = [.int .i64 (k : Int)] ∧ longB (ls.take k) = false, fun s _ => match s with
        | [.int _ i] => ls.length - i.toNat
        | _ => 0, ⟨rfl, 0, by omega, rfl, rfl⟩, ?_⟩
    rintro _ w1 ⟨rfl, k, hk, hs, hlo⟩
    cases hs
    refine IFB_dec (fun hlt => ⟨⟨by omega, hlt⟩, ?_⟩) (fun hge => ?_)
    · have hkl : k < ls.length := by omega
      obtain ⟨p, rfl, hc⟩ := str_at hl hkl
      refine ⟨_, by rw [Int.toNat_natCast]; exact hc, ?_⟩
      rw [enters_long]
      refine (long_ok w1 ls[k]).mono ?_
      rintro _ w2 ⟨_, rfl, rfl, rfl⟩
      refine ⟨_, rfl, IFB_dec (fun h => ⟨rfl, _, rfl, ?_⟩) (fun h => ?_)⟩
      · refine ⟨fun _ => ?_, fun _ => by omega⟩
        exact List.any_eq_true.2 ⟨ls[k], List.getElem_mem hkl, by simpa using h⟩
      · rw [wrap_succ (by omega)]
        refine ⟨⟨rfl, k + 1, by omega, rfl, ?_⟩, ?_⟩
        · unfold longB at hlo ⊢
          rw [List.take_succ_eq_append_getElem hkl, List.any_append, hlo]
          simp
          omega
        · simp only [Int.toNat_natCast]
          omega
    · have hkk : ls.take k = ls := List.take_of_length_le (by omega)
      rw [hkk] at hlo
      refine ⟨rfl, _, rfl, ?_⟩
      rw [hlo]
      simp
  apply R.slices_ContainsFunc_string_string_calls
  unfold R.slices_ContainsFunc_string_string
  refine idx.mono ?_
  rintro _ w1 ⟨_, rfl, rfl, i, rfl, hi⟩
  refine ⟨_, rfl, rfl, ?_⟩
  congr 1
  rw [Bool.eq_iff_iff, decide_eq_true_eq]
  exact hi
end
def placesL (t : List (List UInt8)) (ls : List ByteArray) : List Nat := ls.map fun s => t.idxOf (bl s)
inductive EncIs (ls : List ByteArray) : Int → List UInt8 → Prop
  | plain : EncIs ls 0 (0 :: laidL ls)
  | table (t : List (List UInt8)) (w : Nat) (ht : IsRise (ls.map bl) t) (hw : IsLen (orL (placesL t ls)) w) : EncIs ls 1 ((1 :: digitsL t.length) ++ (laidL (t.map sof) ++ (UInt8.ofNat w :: packL (placesL t ls) w)))
theorem EncIs.one {ls : List ByteArray} {f : Int} {b c : List UInt8} (h : EncIs ls f b) (h' : EncIs ls f c) : b = c := by
  cases h with
  | plain => cases h'; rfl
  | table t w ht hw =>
    cases h' with
    | table t' w' ht' hw' =>
      have := ht.one ht'
      subst this
      rw [hw.one hw']
def encOk (f : Int) (ls : List ByteArray) : Prop := 0 ≤ f ∧ f ≤ 1 ∧ ls.length ≤ 4096 ∧ longB ls = false
instance (f : Int) (ls : List ByteArray) : Decidable (encOk f ls) := by unfold encOk; infer_instance
def EncV (f : Int) (ls : List ByteArray) (w w' : World) (r : Value) : Prop :=
  (¬ encOk f ls ∧ r = .tuple #[.slice none 0 0, .int .i64 2] ∧ Below w.heap.size w w') ∨ (encOk f ls ∧ ∃ b a c, EncIs ls f b ∧ r = .tuple #[.slice a b.length c, .int .i64 0] ∧ NewB w w' b a c)
theorem nodup_len {α : Type} [DecidableEq α] : ∀ {t l : List α}, t.Nodup → (∀ x ∈ t, x ∈ l) → t.length ≤ l.length
  | [], _, _, _ => by simp
  | x :: t, l, hn, hs => by
    have hx := hs x (List.mem_cons_self ..)
    obtain ⟨h1, h2⟩ := List.nodup_cons.1 hn
    have := nodup_len (t := t) (l := l.erase x) h2 fun y hy => (List.mem_erase_of_ne (a := y) (b := x) (by rintro rfl; exact h1 hy)).2 (hs y (List.mem_cons_of_mem _ hy))
    rw [List.length_erase_of_mem hx] at this
    have : 0 < l.length := List.length_pos_of_mem hx
    simp only [List.length_cons]
    omega
theorem make_map {w : World} {f : Value → World → Prop} (hf : ∀ b w', w.heap.size ≤ b → Below w.heap.size w w' → MapS w' b 0 (fun _ => none) → f (.map (some b)) w') : OPR Tryz.prog (Instr.makeMap ty.map_string_uint64 none) f w := by
  unfold OPR
  rw [show (Instr.makeMap ty.map_string_uint64 none).run Tryz.prog w = .ok (.map (some w.heap.size)) (w.alloc (.map #[] 0)) from rfl]
  refine hf _ _ (Nat.le_refl _) ((Below.refl _ w).alloc (Nat.le_refl _) _) ⟨_, World.ownsMap_made _ _ _ _, Maps.tidy_empty, fun x => ⟨rfl, rfl⟩⟩
theorem und_map : Tryz.prog.underlying ty.map_string_uint64 = some (.map ty.string ty.uint64) := by kernel_rfl
theorem tU : slT Tryz.prog ty.L_uint64 = some (ty.uint64, 1, 8, .int .u64 0) := by kernel_rfl
theorem zero_u64 (w : World) : (zeroValue ty.uint64).run Tryz.prog w = .ok (.int .u64 0) w := by
  have h : (Tryz.prog.info? ty.uint64).bind (·.zero) = some (.int .u64 0) := by kernel_rfl
  cases hi : Tryz.prog.info? ty.uint64 with
  | none => rw [hi] at h; cases h
  | some i =>
    rw [hi] at h
    have hz : i.zero = some (.int .u64 0) := h
    simp [zeroValue, typeInfo, hi, hz]
theorem encStr_sof (x : List UInt8) : encStr x = .string (sof x) := rfl
theorem map_enc (t : List (List UInt8)) : t.map encStr = (t.map sof).map Value.string := by simp [encStr_sof]
section
variable {w : World} {a : Option Addr} {c : Nat} {ls : List ByteArray}
def g1 (l : List (List UInt8)) (x : List UInt8) : Option Int := if x ∈ l then some 0 else none
def g2 (l t : List (List UInt8)) (i : Nat) (x : List UInt8) : Option Int := if x ∈ t.take i then some (t.idxOf x : Int) else g1 l x
theorem g1_step {l : List ByteArray} {k : Nat} (hk : k < l.length) : (fun y => if y = bl l[k] then some 0 else g1 ((l.take k).map bl) y) = g1 ((l.take (k + 1)).map bl) := by
  funext y
  unfold g1
  rw [List.take_succ_eq_append_getElem hk, List.map_append]
  simp only [List.mem_append, List.map_cons, List.map_nil, List.mem_singleton]
  by_cases h1 : y = bl l[k]
  · simp [h1]
  · simp [h1]
theorem g2_step {l t : List (List UInt8)} (hnd : t.Nodup) {i : Nat} (hi : i < t.length) : (fun y => if y = t[i] then some (i : Int) else g2 l t i y) = g2 l t (i + 1) := by
  funext y
  unfold g2
  rw [List.take_succ_eq_append_getElem hi]
  simp only [List.mem_append, List.mem_singleton]
  by_cases h1 : y = t[i]
  · subst h1
    have : t.idxOf t[i] = i := hnd.idxOf_getElem i hi
    simp [this]
  · simp [h1]
theorem dict_Encode_ok (form : Int) (hl : Rd w a (ls.map Value.string)) (hn : ls.length ≤ 9223372036854775807) : Calls Tryz.prog f.dict_Encode #[.int .i64 form, .slice a ls.length c] w (Ret fun v w' => EncV form ls w w' v) := by
  apply R.dict_Encode_calls
  unfold R.dict_Encode
  have bad : ¬ encOk form ls → EncV form ls w w (.tuple #[.slice none 0 0, .int .i64 2]) := fun h => .inl ⟨h, rfl, .refl _ _⟩
  refine IFB_dec (fun h => bad fun hk => by have := hk.1; omega) (fun h1 => IFB_dec (fun h => bad fun hk => by have := hk.2.1; omega) (fun h2 => IFB_dec (fun h => bad fun hk => by have := hk.2.2.1; omega) (fun h3 => (ContainsFunc_ok hl hn).mono ?_)))
  rintro _ w ⟨_, rfl, rfl, rfl⟩
  refine ⟨_, rfl, IFB_of (fun h => bad fun hk => by have := hk.2.2.2; rw [h] at this; cases this) (fun hlong => ?_)⟩
  have hok : encOk form ls := ⟨by omega, by omega, by omega, hlong⟩
  have hz := longB_false hlong
  have hn4 : ls.length ≤ 4096 := by omega
  have hlen := laidL_len hz
  refine IFB_eq (fun h0 => ?_) (fun h0 => ?_)
  · subst h0
    refine (SH.start (fun _ => False) w).newB fun b5 w2 hb5 B2 S2 => (dict_laid_ok (hl.grown B2) hn4 hz).mono ?_
    rintro _ w3 ⟨_, rfl, a3, c3, rfl, h3⟩
    have S3 := S2.grown h3.bel
    refine ⟨_, _, _, rfl, S3.newB fun b8 w4 hb8 B4 S4 => ?_⟩
    have hp : Rd w4 (some ⟨b8, 0, none⟩) ([(some ⟨b5, 0, none⟩, 1, [0]), (a3, c3, laidL ls)].map partV1) := by
      have := Rd.of_block0 (S4.get 0 rfl)
      simpa [partV1] using this
    have hb5' : Rd w4 (some ⟨b5, 0, none⟩) ([0].map byteV) := by
      have := Rd.of_block0 (S4.get 1 rfl)
      simpa [byteV] using this
    refine (slices_Concat_ok (c := 2) [(some ⟨b5, 0, none⟩, 1, [0]), (a3, c3, laidL ls)] hp (fun p hp => ?_) (by simp) (by rw [flat2]; simp; omega)).mono ?_
    · simp only [List.mem_cons, List.not_mem_nil, or_false] at hp
      rcases hp with rfl | rfl
      · exact hb5'
      · exact (h3.grown B4).rd
    rintro _ w5 ⟨_, rfl, a5, c5, rfl, h5⟩
    refine ⟨_, _, _, rfl, .inr ⟨hok, 0 :: laidL ls, a5, c5, .plain, ?_, ?_⟩⟩
    · rw [flat2]; rfl
    · rw [flat2] at h5
      exact h5.before S4.below
  · have hf1 : form = 1 := by omega
    subst hf1
    have m4 : 8193 ≤ maxLen := by decide
    refine make_map fun b w6 hb B6 M6 => ⟨_, rfl, ?_⟩
    have M6' : MapS w6 b 0 (g1 ((ls.take 0).map bl)) := by
      have : g1 ((ls.take 0).map bl) = fun _ => none := by funext x; simp [g1]
      rw [this]; exact M6
    refine ⟨fun s w7 => ∃ k : Nat, k ≤ ls.length ∧ s = [.int .i64 (k : Int)] ∧ MapS w7 b k (g1 ((ls.take k).map bl)) ∧ Keeps (· = b) w6 w7, fun s _ => match s with
        | [.int _ i] => ls.length - i.toNat
        | _ => 0, ⟨0, by omega, rfl, M6', .refl _ _⟩, ?_⟩
    rintro _ w7 ⟨k, hk, hs, M7, K7⟩
    cases hs
    have B7 : Below w.heap.size w w7 := B6.trans (K7.below B6.size fun k hk he => by omega)
    refine IFB_dec (fun hlt => ⟨⟨by omega, hlt⟩, ?_⟩) (fun hge => ?_)
    · have hkl : k < ls.length := by omega
      obtain ⟨p, rfl, hc⟩ := str_at (hl.grown B7) hkl
      have hsz := hz _ (List.getElem_mem hkl)
      refine ⟨_, by rw [Int.toNat_natCast]; exact hc, M7.put und_str und_u64 und_map (by omega) (by omega) (by decide) fun w8 K8 M8 => ?_⟩
      rw [g1_step hkl] at M8
      rw [wrap_succ (by omega)]
      refine ⟨⟨k + 1, by omega, rfl, M8, K7.trans K8 (fun _ _ h => h)⟩, ?_⟩
      simp only [Int.toNat_natCast]
      omega
    have hkk : k = ls.length := by omega
    rw [hkk, List.take_length] at M7
    refine (sortedKeys_ok M7 hn4 (ls := ls.map bl) (fun x => by unfold g1; split <;> simp [*]) (k := fun v w' => ∃ a c t, v = .slice a t.length c ∧ IsRise (ls.map bl) t ∧ Row w' ty.string 1 a t.length c (t.map encStr) ∧ (∀ k, rowB a = some k → w7.heap.size ≤ k) ∧ Below w7.heap.size w7 w')
      (fun a c t w' q1 q2 q3 q4 => ⟨a, c, t, rfl, q1, q2, q3, q4⟩)).mono ?_
    rintro _ w9 ⟨fn, fi, ca, rfl, hS⟩
    refine ⟨_, _, _, rfl, hS.mono ?_⟩
    rintro _ w10 ⟨aT, lT, cT, rfl, aT2, cT2, t, ht, hr, hRow, hnew, B10⟩
    obtain ⟨rfl, rfl, rfl⟩ : aT = aT2 ∧ lT = t.length ∧ cT = cT2 := by cases ht; exact ⟨rfl, rfl, rfl⟩
    refine ⟨_, _, _, rfl, ?_⟩
    have hbl := M7.lt
    have M10 := M7.kept (Keeps.of_below (F := fun _ => False) B10) (by simp)
    have hnd := lt_nodup hr.up
    have htl : t.length ≤ ls.length := by
      have := nodup_len hnd (fun x hx => (hr.mem x).1 hx)
      simpa using this
    have htz : ∀ s ∈ t.map sof, s.size ≤ 1024 := by
      intro s hs
      obtain ⟨x, hx, rfl⟩ := List.mem_map.1 hs
      obtain ⟨s', hs', rfl⟩ := List.mem_map.1 ((hr.mem x).1 hx)
      rw [sof_bl]
      exact hz s' hs'
    rw [map_enc] at hRow
    have hlT : (t.map sof).length = t.length := by simp
    have M10' : MapS w10 b (ls.length + 0) (g2 (ls.map bl) t 0) := by
      have : g2 (ls.map bl) t 0 = g1 (ls.map bl) := by funext x; simp [g2]
      rw [this]; exact M10
    have far : ∀ p, aT = some p → ¬ p.block = b := by
      intro p hp he
      have := hnew p.block (by rw [hp]; rfl)
      omega
    refine ⟨fun s w11 => ∃ i : Nat, i ≤ t.length ∧ s = [.int .i64 (i : Int)] ∧ MapS w11 b (ls.length + i) (g2 (ls.map bl) t i) ∧ Keeps (· = b) w10 w11, fun s _ => match s with
        | [.int _ i] => t.length - i.toNat
        | _ => 0, ⟨0, by omega, rfl, M10', .refl _ _⟩, ?_⟩
    rintro _ w11 ⟨i, hi, hs, M11, K11⟩
    cases hs
    have hRd11 : Rd w11 aT ((t.map sof).map Value.string) := hRow.rd.keeps K11 far
    refine IFB_dec (fun hlt => ⟨⟨by omega, hlt⟩, ?_⟩) (fun hge => ?_)
    · have hil : i < t.length := by omega
      obtain ⟨p, hp, hc⟩ := str_at hRd11 (by rw [hlT]; exact hil)
      subst hp
      have hsz : (sof t[i]).size ≤ 1024 := htz _ (List.mem_map.2 ⟨_, List.getElem_mem hil, rfl⟩)
      rw [List.getElem_map] at hc
      refine ⟨_, by rw [Int.toNat_natCast]; exact hc, ?_⟩
      rw [wrap_u64_id (by omega) (by omega)]
      refine M11.put und_str und_u64 und_map (by omega) (by omega) (by simp [Lit.wf, IntKind.min, IntKind.max, IntKind.signed, IntKind.bits]; omega) fun w12 K12 M12 => ?_
      rw [bl_sof, g2_step hnd hil] at M12
      rw [wrap_succ (by omega)]
      refine ⟨⟨i + 1, by omega, rfl, M12, K11.trans K12 (fun _ _ h => h)⟩, ?_⟩
      simp only [Int.toNat_natCast]
      omega
    have hii : i = t.length := by omega
    rw [hii] at M11
    have B11 : Below w.heap.size w w11 := by
      have B0 : Below w.heap.size w w10 := B7.trans (B10.mono B7.size)
      exact B0.trans (K11.below B0.size fun k hk he => by omega)
    refine ⟨fun s w13 => ∃ (kk : Nat) (pa : Option Addr) (pc : Nat), s = [.slice pa kk pc, .int .i64 (kk : Int)] ∧ kk ≤ ls.length ∧ Row w13 ty.uint64 1 pa kk pc ((placesL t (ls.take kk)).map u64V) ∧ (∀ k, rowB pa = some k → w11.heap.size ≤ k) ∧ Below w11.heap.size w11 w13, fun s _ => match s with
        | [_, .int _ i] => ls.length - i.toNat
        | _ => 0, ⟨0, none, 0, rfl, by omega, Row.nil _ _ _, by simp [rowB], .refl _ _⟩, ?_⟩
    rintro pa kk pc _ w13 ⟨_, _, _, hs, hkl, hR13, hnw13, B13⟩
    cases hs
    have Bw13 : Below w.heap.size w w13 := B11.trans (B13.mono B11.size)
    have M13 := M11.kept (Keeps.of_below (F := fun _ => False) B13) (by simp)
    refine IFB_dec (fun hlt => ⟨⟨by omega, hlt⟩, ?_⟩) (fun hge => ?_)
    · have hkl' : kk < ls.length := by omega
      obtain ⟨p, hp, hc⟩ := str_at (hl.grown Bw13) hkl'
      subst hp
      have hsz := hz _ (List.getElem_mem hkl')
      have hin : bl ls[kk] ∈ t := (hr.mem _).2 (List.mem_map.2 ⟨_, List.getElem_mem hkl', rfl⟩)
      have hgv : (g2 (ls.map bl) t t.length (bl ls[kk])).getD 0 = (t.idxOf (bl ls[kk]) : Int) := by
        unfold g2
        rw [List.take_length, if_pos hin]
        rfl
      refine ⟨_, by rw [Int.toNat_natCast]; exact hc, M13.get und_str und_u64 und_map (zero_u64 _) (by omega) ?_⟩
      rw [hgv]
      refine ⟨_, rfl, (SH.start (fun _ => False) w13).newB fun b32 w15 hb32 B15 S15 => ?_⟩
      have hsrc : Rd w15 (some ⟨b32, 0, none⟩) [u64V (t.idxOf (bl ls[kk]))] := by
        have := Rd.of_block0 (S15.get 0 rfl)
        simpa [u64V] using this
      obtain ⟨a5, c5, w16, hrun, hrow, hk5, hnw⟩ := append_row (ty := ty.L_uint64) (mc := 1) tU rfl (by omega) (by omega) (hR13.grown B15) hsrc (m := 1) rfl (by simp [u64V]; rfl) (by omega)
      unfold OPR
      rw [hrun]
      refine ⟨_, _, _, rfl, ?_⟩
      have B15' : Below w11.heap.size w11 w15 := B13.trans (B15.mono B13.size)
      rw [wrap_succ (by omega)]
      refine ⟨⟨kk + 1, a5, c5, rfl, by omega, ?_, fun k hk => ?_, B15'.trans (hk5.below B15'.size fun k hk he => by have := hnw13 k he; omega)⟩, ?_⟩
      · have : placesL t (ls.take (kk + 1)) = placesL t (ls.take kk) ++ [t.idxOf (bl ls[kk])] := by
          unfold placesL
          rw [List.take_succ_eq_append_getElem hkl', List.map_append]
          rfl
        rw [this, List.map_append]
        exact hrow
      · rcases hnw k hk with h | h
        · exact hnw13 k h
        · exact Nat.le_trans B15'.size h
      · simp only [Int.toNat_natCast]
        omega
    have hke : kk = ls.length := by omega
    subst hke
    rw [List.take_length] at hR13
    have hpl : (placesL t ls).length = ls.length := by simp [placesL]
    have hpx : ∀ x ∈ placesL t ls, x < 4097 := by
      intro x hx
      obtain ⟨s, hs, rfl⟩ := List.mem_map.1 hx
      have := List.idxOf_le_length (l := t) (a := bl s)
      omega
    have hRp := hR13.rd
    rw [← hpl]
    refine (pack_Width_ok hRp (by omega) (fun x hx => by have := hpx x hx; omega)).mono ?_
    rintro _ w17 ⟨_, rfl, wd, rfl, hwd, hwd64, rfl⟩
    refine ⟨_, rfl, (pack_Pack_ok hRp (by omega) hwd64 ((orL_lt _ _).1 hwd.1)).mono ?_⟩
    rintro _ w18 ⟨_, rfl, a18, c18, rfl, h18⟩
    refine ⟨_, _, _, _, rfl, (SH.start (fun _ => False) w18).newB fun b40 w19 hb40 B19 S19 => ?_⟩
    have hb40' : Rd w19 (some ⟨b40, 0, none⟩) ([1].map byteV) := by
      have := Rd.of_block0 (S19.get 0 rfl)
      simpa [byteV] using this
    rw [wrap_u64_id (by omega) (by omega)]
    refine (wire_Number_ok (c := 1) [1] hb40' t.length (by omega) (by simp)).mono ?_
    rintro _ w20 ⟨_, rfl, a20, c20, rfl, h20⟩
    have T20 : Below w11.heap.size w11 w20 := by
      refine B13.trans ((h18.bel.mono B13.size).trans ?_)
      exact (B19.mono (Nat.le_trans B13.size h18.bel.size)).trans (h20.bel.mono (Nat.le_trans B13.size (Nat.le_trans h18.bel.size B19.size)))
    have hRT20 := hRd11.grown T20
    refine ⟨_, _, _, rfl, ?_⟩
    rw [← hlT]
    refine (dict_laid_ok (c := cT) hRT20 (by omega) htz).mono ?_
    rintro _ w21 ⟨_, rfl, a21, c21, rfl, h21⟩
    refine ⟨_, _, _, rfl, (SH.start (fun _ => False) w21).newB fun b45 w22 hb45 B22 S22 => S22.newB fun b46 w23 hb46 B23 S23 => ?_⟩
    rw [wrap_u8_id (by omega) (by omega)] at S22 S23
    obtain ⟨ps, hps⟩ : ∃ ps : List PartB, ps = [(a20, c20, [1] ++ digitsL t.length), (a21, c21, laidL (t.map sof)), (some ⟨b45, 0, none⟩, 1, [UInt8.ofNat wd]), (a18, c18, packL (placesL t ls) wd)] := ⟨_, rfl⟩
    have hp : Rd w23 (some ⟨b46, 0, none⟩) (ps.map partV1) := by
      have := Rd.of_block0 (S23.get 0 rfl)
      rw [hps]
      simpa [partV1] using this
    have n23 := below_trans B22 B23
    have hpb : ∀ p ∈ ps, Rd w23 p.1 (p.2.2.map byteV) := by
      intro p hp
      rw [hps] at hp
      simp only [List.mem_cons, List.not_mem_nil, or_false] at hp
      rcases hp with rfl | rfl | rfl | rfl
      · exact (h20.rd.grown h21.bel).grown n23
      · exact h21.rd.grown n23
      · have := Rd.of_block0 (S23.get 1 rfl)
        simpa [byteV_of (show wd < 256 by omega)] using this
      · exact ((((h18.rd.grown B19).grown h20.bel).grown h21.bel).grown n23)
    have hfl : flatB ps = (1 :: digitsL t.length) ++ (laidL (t.map sof) ++ (UInt8.ofNat wd :: packL (placesL t ls) wd)) := by
      rw [hps]
      simp [flatB]
    have l1 := digitsL_len10 (n := t.length) (by omega)
    have l2 := laidL_len htz
    have l3 := packL_len (placesL t ls) wd
    have l4 : sizeN (placesL t ls).length wd ≤ 4096 * 64 + 7 := by
      unfold sizeN
      have : (placesL t ls).length * wd ≤ 4096 * 64 := Nat.mul_le_mul (by omega) hwd64
      omega
    have hps4 : ps.length = 4 := by rw [hps]; rfl
    have hcc := slices_Concat_ok (c := 4) ps hp hpb (by omega) (by rw [hfl]; simp only [List.length_append, List.length_cons]; omega)
    rw [hps4] at hcc
    refine hcc.mono ?_
    rintro _ w24 ⟨_, rfl, a24, c24, rfl, h24⟩
    rw [hfl] at h24 ⊢
    refine ⟨_, _, _, rfl, .inr ⟨hok, _, a24, c24, .table t wd hr hwd, rfl, h24.before ?_⟩⟩
    exact (B11.trans (T20.mono B11.size)).trans (((h21.bel).mono (Nat.le_trans B11.size T20.size)).trans (n23.mono (Nat.le_trans (Nat.le_trans B11.size T20.size) h21.bel.size)))
end
end Go.Proofs.YtpnaifmmggnimaaGreatDoor
