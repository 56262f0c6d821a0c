/-
  Texts of this claim, laid one behind the other by a program of mine (install.py): P.Sch4, P.Sch5, P.ValA, Dn.Maps, P.Rise, Dn.MapsB, P.Sch6, P.Kd, P.Qu, P.Kd2, Dn.St, Dn.St2, Dn.Lit, P.Node, P.Formed, P.Formed2, P.Idx, P.PlLaw, P.Kind, P.Kind2, P.SortC, P.Same, Dn.St3, Dn.Ld, P.Uses, P.Uses2, P.Name.
-/
import Derived.Test.YtbpdfpfgijhokaaGreatDoorM3
import Derived.Maps.Own
import Derived.Maps.Views
import Derived.Sort.KeysCollected
import Derived.Lib.ItoaLen
import Derived.Test.YtbpdfpfgijhokaaGreatDoorM1
import Derived.Sort.OwnSorted
import Derived.Lib.SlicesCompact
namespace Go.Proofs.YtbpdfpfgijhokaaGreatDoor
set_option maxRecDepth 100000
open Go.Dn Go.Proofs
open Go.RowKit (Below)
set_option linter.unusedVariables false
theorem BIF_len {vs : List Value} {n : Nat} {X : Prop} (h : vs.length = n) (hx : X) : bif (Nat.beq (List.length vs) n && true) then X else False := by
  subst h
  rw [Nat.beq_refl]
  exact hx
theorem LIKEL_bools : ∀ (us : List Bool) {n : Nat} {f : List Value → Prop}, us.length = n → f (us.map .bool) → LIKEL (List.replicate n (.bool false)) f
  | [], _, _, hn, h => by subst hn; exact h
  | u :: us, _, _, hn, h => by subst hn; exact ⟨u, LIKEL_bools us rfl h⟩
def setB (l : List UInt8) : List Bool := (List.range 256).map fun j => l.contains (UInt8.ofNat j)
theorem setB_cells (l : List UInt8) : Lib.setCells l = ⟨(setB l).map .bool⟩ := by
  rw [Lib.setCells_eq]
  apply Array.ext'
  simp [setB, List.map_map, Function.comp_def]
theorem strings_Trim_ok (s cut : ByteArray) (hs : s.size ≤ 9223372036854775807) (h2 : 2 ≤ cut.size) (hz : cut.size < 4294967281) (ha : ∀ (j : Nat) b, cut.data.toList[j]? = some b → b.toNat < 128) (w : World) :
    Calls Tryz.prog f.strings_Trim #[.string s, .string cut] w (Ret fun r w' => ∃ q, r = .string q ∧ (q = ⟨#[]⟩ ↔ (bl s).all (bl cut).contains = true) ∧ Below w.heap.size w w') := by
  apply R.strings_Trim_calls
  unfold R.strings_Trim
  have he : ∀ x : ByteArray, bytesEq x ⟨#[]⟩ = true → x = ⟨#[]⟩ := fun x h => by rw [bytesEq_iff] at h; simpa using h
  refine IFB_of (fun h => ?_) (fun h0 => IFB_of (fun h => ?_) (fun h1 => ?_))
  · have := he s h
    subst this
    exact ⟨_, rfl, by simp [bl], .refl _ _⟩
  · have := he cut h
    subst this
    exact absurd h2 (by decide)
  · refine ⟨fun st w' => st = [.bool false] ∧ w' = w, IFB_eq (fun h => by omega) (fun _ => ⟨rfl, rfl⟩), ?_⟩
    rintro t w1 ⟨ht, rfl⟩
    have : t = false := by simpa using ht
    subst this
    refine IFB_false ((Tryz.strings_makeASCIISet (fun _ => by kernel_rfl) cut w1 hz ha).mono ?_)
    rintro _ w5 ⟨rfl, rfl⟩
    rw [setB_cells]
    have hbl : (setB cut.data.toList).length = 256 := by simp [setB]
    refine LIKEL_bools (setB cut.data.toList) hbl ⟨true, rfl, ?_⟩
    have B0 : Below w1.heap.size w1 (w1.alloc (.cells ⟨(setB cut.data.toList).map .bool⟩ ty.strings_asciiSet)) := (Below.refl _ w1).alloc (Nat.le_refl _) _
    have S0 := (SH.start (fun _ => False) w1).grown B0
    have h1 : ∀ v ∈ (setB cut.data.toList).map Value.bool, v.oneCell' = true := by
      intro v hv
      obtain ⟨u, _, rfl⟩ := List.mem_map.1 hv
      rfl
    have hl2 : ((setB cut.data.toList).map Value.bool).length = 256 := by rw [List.length_map]; exact hbl
    refine S0.newB fun b12 w6 _ _ S => BIF_len hl2 (S.stoAll 0 rfl hl2 h1 fun w7 _ S => IFB_true ?_)
    have hc : ∀ x : UInt8, w7.cell? ⟨b12, x.toNat, none⟩ = some (.bool ((bl cut).contains x)) := fun x => S.cell 0 rfl (by
      rw [← setB_cells]
      exact Lib.setCells_at _ _)
    refine (trimRight_ok (bl cut).contains hc s hs).mono ?_
    rintro _ w8 ⟨_, rfl, l, m, rfl, hl, hm, hlast, rfl⟩
    refine ⟨_, rfl, (trimLeft_ok (bl cut).contains hc (sof l)).mono ?_⟩
    rintro _ w9 ⟨_, rfl, q, p, rfl, hq, hp, hfirst, rfl⟩
    refine ⟨_, rfl, _, rfl, ?_, S.below⟩
    rw [bl_sof] at hq
    rw [hl, hq, List.all_append, List.all_append, hm, hp]
    rcases hfirst with rfl | ⟨c, r, rfl, hcf⟩
    · simp [sof]
    · simp [sof]
      intro hcc
      simp_all
theorem byte_all {p : UInt8 → Bool} (h : (List.range 256).all (fun n => p (UInt8.ofNat n)) = true) (c : UInt8) : p c = true := by
  have := List.all_eq_true.1 h c.toNat (List.mem_range.2 c.toNat_lt)
  simpa using this
def lettersS : ByteArray := ⟨#[97, 98, 99, 100, 101, 102, 103, 104, 105, 106, 107, 108, 109, 110, 111, 112, 113, 114, 115, 116, 117, 118, 119, 120, 121, 122]⟩
def othersS : ByteArray := ⟨#[97, 98, 99, 100, 101, 102, 103, 104, 105, 106, 107, 108, 109, 110, 111, 112, 113, 114, 115, 116, 117, 118, 119, 120, 121, 122, 48, 49, 50, 51, 52, 53, 54, 55, 56, 57, 95]⟩
theorem lets_eq (c : UInt8) : decide (Lib.indexByte lettersS.data.toList c ≥ 0) = letB c := by
  have := byte_all (p := fun c => decide (Lib.indexByte lettersS.data.toList c ≥ 0) == letB c) (by kernel_rfl) c
  simpa using this
theorem oths_eq (c : UInt8) : (bl othersS).contains c = (letB c || othB c) := by
  have := byte_all (p := fun c => (bl othersS).contains c == (letB c || othB c)) (by kernel_rfl) c
  simpa using this
theorem isName_eq {s : ByteArray} (h1 : 1 ≤ s.size) (h2 : s.size ≤ 24) : isNameB s = (letB (sget s 0) && (bl s).all fun c => letB c || othB c) := by
  have hl : (bl s).length = s.size := bl_length s
  have he : ∀ i (hi : i < (bl s).length), sget s i = (bl s)[i] := fun i hi => by rw [sget_eq]; simp [List.getD, hi]
  rw [Bool.eq_iff_iff]
  simp only [isNameB, Bool.and_eq_true, List.all_eq_true, List.mem_range, decide_eq_true_eq, h1, h2, and_true]
  constructor
  · intro h
    refine ⟨?_, fun c hc => ?_⟩
    · have := h 0 (by omega)
      simpa [nameAt] using this
    · obtain ⟨i, hi, rfl⟩ := List.getElem_of_mem hc
      have := h i (by omega)
      rw [nameAt, he i hi] at this
      simp only [Bool.or_eq_true, Bool.and_eq_true] at this ⊢
      rcases this with h | h
      · exact .inl h
      · exact .inr h.1
  · rintro ⟨h0, h⟩ i hi
    have hi' : i < (bl s).length := by omega
    have := h _ (List.getElem_mem hi')
    rw [nameAt]
    by_cases hz : i = 0
    · subst hz
      simp [h0]
    · rw [he i hi']
      simp only [Bool.or_eq_true, Bool.and_eq_true] at this ⊢
      rcases this with h | h
      · exact .inl h
      · exact .inr ⟨h, by simpa using hz⟩
theorem schema_IsName_ok (s : ByteArray) (hs : s.size ≤ 9223372036854775807) (w : World) : Calls Tryz.prog f.schema_IsName #[.string s] w (Ret fun r w' => r = .bool (isNameB s) ∧ Below w.heap.size w w') := by
  apply R.schema_IsName_calls
  unfold R.schema_IsName
  refine IFB_not (IFB_of (fun h => ?_) (fun h0 => ?_))
  · rw [bytesEq_iff] at h
    have : s = ⟨#[]⟩ := by simpa using h
    subst this
    exact ⟨rfl, .refl _ _⟩
  rw [bytesEq_iff] at h0
  have hne : s ≠ ⟨#[]⟩ := by simpa using h0
  have h1 : 1 ≤ s.size := by
    rcases Nat.eq_zero_or_pos s.size with h | h
    · exact absurd (bl_inj (by rw [List.eq_nil_of_length_eq_zero ((bl_length s).trans h)]; rfl)) hne
    · exact h
  refine IFB_dec (fun h2 => ?_) (fun h2 => ⟨?_, .refl _ _⟩)
  case refine_2 =>
    have h2' : ¬ s.size ≤ 24 := by omega
    simp [isNameB, h2']
  have h2' : s.size ≤ 24 := by omega
  have hb := (sget s 0).toNat_lt
  refine ⟨⟨by omega, by omega⟩, (Tryz.strings_IndexByte lettersS ((sget s 0).toNat : Int) w).mono ?_⟩
  rintro _ w1 ⟨rfl, rfl⟩
  refine ⟨_, rfl, ?_⟩
  have e : ((sget s 0).toNat : Int).toNat.toUInt8 = sget s 0 := by simp
  rw [e, lets_eq]
  refine IFB_of (fun h3 => ?_) (fun h3 => ⟨?_, .refl _ _⟩)
  · refine (strings_Trim_ok s othersS hs (by decide) (by decide) ?_ w1).mono ?_
    · intro j b hj
      have h : othersS.data.toList.all (fun b => decide (b.toNat < 128)) = true := by decide
      exact of_decide_eq_true (List.all_eq_true.1 h b (List.mem_of_getElem? hj))
    rintro _ w2 ⟨_, rfl, q, rfl, hq, B⟩
    refine ⟨_, rfl, ?_, B⟩
    congr 1
    rw [bytesEq_iff, isName_eq h1 h2', h3, Bool.true_and, Bool.eq_iff_iff, decide_eq_true_eq, hq]
    simp only [List.all_eq_true, oths_eq]
  · rw [isName_eq h1 h2', h3, Bool.false_and]
end Go.Proofs.YtbpdfpfgijhokaaGreatDoor
namespace Go.Dn
set_option linter.unusedVariables false
set_option maxRecDepth 100000
open Go.RowKit (Below)
open Go.Maps (has Tidy Keyed)
section
variable {P : Program} {k e t : TypeId} {q : IntKind} {w : World} {b n : Nat} {g : List UInt8 → Option Int}
end
end Go.Dn
namespace Go.Proofs.YtbpdfpfgijhokaaGreatDoor
set_option maxRecDepth 100000
open Go.Dn Go.Proofs
open Go.RowKit (Below)
set_option linter.unusedVariables false
structure IsRise (ls t : List (List UInt8)) : Prop where
  up : t.Pairwise (· < ·)
  mem : ∀ x, x ∈ t ↔ x ∈ ls
end Go.Proofs.YtbpdfpfgijhokaaGreatDoor
namespace Go.Dn
set_option linter.unusedVariables false
set_option maxRecDepth 100000
open Go.RowKit (Below)
open Go.Maps (has Tidy Keyed)
section
variable {P : Program} {k e t : TypeId} {w : World} {b n : Nat} {g : List UInt8 → Bool}
end
end Go.Dn
namespace Go.Proofs.YtbpdfpfgijhokaaGreatDoor
set_option maxRecDepth 100000
open Go.Dn Go.Proofs
open Go.RowKit (Below)
set_option linter.unusedVariables false
theorem flat_get {α : Type} {g : α → List Value} {n : Nat} (hg : ∀ x, (g x).length = n) : ∀ (ls : List α) (i j : Nat) (hi : i < ls.length), j < n → (ls.flatMap g)[i * n + j]? = (g ls[i])[j]?
  | [], i, j, hi, _ => by simp at hi
  | v :: ls, 0, j, _, hj => by
    simp only [List.flatMap_cons, Nat.zero_mul, Nat.zero_add, List.getElem_cons_zero]
    rw [List.getElem?_append_left (by rw [hg]; exact hj)]
  | v :: ls, i + 1, j, hi, hj => by
    simp only [List.flatMap_cons, List.getElem_cons_succ]
    have e : (i + 1) * n + j = n + (i * n + j) := by rw [Nat.add_mul]; omega
    rw [e, List.getElem?_append_right (by rw [hg]; omega), hg, Nat.add_sub_cancel_left]
    exact flat_get hg ls i j (by simpa using hi) hj
abbrev Col := ByteArray × Int × Bool
def colC (c : Col) : List Value := [.string c.1, .int .i64 c.2.1, .bool c.2.2]
def colOk (c : Col) : Bool := isNameB c.1 && decide (1 ≤ c.2.1 ∧ c.2.1 ≤ 3)
def rightCols (cs : List Col) : Bool := decide (1 ≤ cs.length ∧ cs.length ≤ 16) && cs.all colOk && decide ((cs.map (·.1)).Nodup)
section
variable {w : World} {a : Option Addr} {c : Nat} {cs : List Col}
end
end Go.Proofs.YtbpdfpfgijhokaaGreatDoor
namespace Go.Proofs.YtbpdfpfgijhokaaGreatDoor
set_option maxRecDepth 100000
open Go.Dn Go.Proofs
open Go.RowKit (Below)
set_option linter.unusedVariables false
/-! ### kinds -/
def wantOf (op : Int) : Int := if op = 12 ∨ op = 13 ∨ op = 14 then 2 else if op = 16 then 3 else if 3 ≤ op ∧ op ≤ 8 then 1 else 0
def ownKind (op : Int) : Int := if 9 ≤ op ∧ op ≤ 15 then 2 else 1
def alikeK (a b : Int) : Bool := decide (a = b) || decide (a = 0) || decide (b = 0)
def findC (cs : List Col) (s : ByteArray) : Option Nat := cs.findIdx? fun c => decide (c.1 = s)
def kindAt (cs : List Col) (s : ByteArray) : Except Int Int :=
  match findC cs s with
  | none => .error 120
  | some i => .ok (cs.getD i (E0, 0, false)).2.1
def kindN (cs : List Col) (op : Int) (nm : ByteArray) (v : Val) (l : List Int) : Except Int Int :=
  if wantOf op ≠ 0 ∧ l.any (fun k => !alikeK k (wantOf op)) = true then .error 121 else
  if op = 1 then kindAt cs nm else if op = 2 then .ok v.1 else
  if (op = 9 ∨ op = 10 ∨ op = 11) ∧ alikeK (l.getD 0 0) (l.getD 1 0) = false then .error 121 else .ok (ownKind op)
mutual
def Ex.kind (cs : List Col) : Ex → Except Int Int
  | .mk op nm v ks =>
    match Ex.kinds cs ks with
    | .error e => .error e
    | .ok l => kindN cs op nm v l
def Ex.kinds (cs : List Col) : List Ex → Except Int (List Int)
  | [] => .ok []
  | k :: ks =>
    match Ex.kind cs k with
    | .error e => .error e
    | .ok i => match Ex.kinds cs ks with
      | .error e => .error e
      | .ok l => .ok (i :: l)
end
/-! ### names -/
mutual
/-- the names of the columns, node by node -/
def Ex.names : Ex → List ByteArray
  | .mk op nm _ ks => (if op = 1 then [nm] else []) ++ Ex.namesL ks
def Ex.namesL : List Ex → List ByteArray
  | [] => []
  | k :: ks => k.names ++ Ex.namesL ks
end
theorem nodes_names : ∀ (x : Ex) (d : Nat), x.okA (41 - d) = true → ((x.nodes d).filter fun p => decide (p.2.op = 1)).map (fun p => p.2.nm) = x.names := by
  intro x
  induction x using Ex.ind with
  | h op nm v ks ih =>
    intro d h
    have hd : d ≤ 40 := by
      apply Classical.byContradiction
      intro hn
      rw [show 41 - d = 0 by omega] at h
      simp [Ex.okA] at h
    rw [show 41 - d = (41 - (d + 1)) + 1 by omega] at h
    simp only [Ex.okA, Bool.and_eq_true] at h
    have hL : ∀ (l : List Ex), (∀ k ∈ l, k ∈ ks) → Ex.okL l (41 - (d + 1)) = true → ((Ex.nodesL l (d + 1)).filter fun p => decide (p.2.op = 1)).map (fun p => p.2.nm) = Ex.namesL l := by
      intro l
      induction l with
      | nil => intro _ _; simp [Ex.nodesL, Ex.namesL]
      | cons k l ihl =>
        intro hl hok
        simp only [Ex.okL, Bool.and_eq_true] at hok
        simp only [Ex.nodesL, Ex.namesL, List.filter_append, List.map_append, ih k (hl k (by simp)) (d + 1) hok.1, ihl (fun y hy => hl y (by simp [hy])) hok.2]
    simp only [Ex.nodes, Ex.names, if_pos hd]
    by_cases h1 : op = 1
    · rw [List.filter_cons_of_pos (by simp [Ex.op, h1]), List.map_cons, hL ks (fun _ h => h) h.2, if_pos h1]
      rfl
    · rw [List.filter_cons_of_neg (by simp [Ex.op, h1]), hL ks (fun _ h => h) h.2, if_neg h1]
      rfl
/-! ### alike -/
mutual
def Ex.same : Ex → Ex → Bool
  | .mk op nm v ks, .mk op' nm' v' ks' => decide (op = op' ∧ nm = nm' ∧ v = v') && Ex.sameL ks ks'
def Ex.sameL : List Ex → List Ex → Bool
  | [], [] => true
  | x :: xs, y :: ys => x.same y && Ex.sameL xs ys
  | _, _ => false
end
theorem same_iff : ∀ (x y : Ex), x.same y = true ↔ x = y := by
  intro x
  induction x using Ex.ind with
  | h op nm v ks ih =>
    rintro ⟨op', nm', v', ks'⟩
    have hL : ∀ (l l' : List Ex), (∀ k ∈ l, k ∈ ks) → (Ex.sameL l l' = true ↔ l = l') := by
      intro l
      induction l with
      | nil => intro l' _; cases l' <;> simp [Ex.sameL]
      | cons k l ihl =>
        intro l' hl
        cases l' with
        | nil => simp [Ex.sameL]
        | cons k' l' =>
          simp only [Ex.sameL, Bool.and_eq_true, ih k (hl k (by simp)), ihl l' (fun y hy => hl y (by simp [hy])), List.cons.injEq]
    simp only [Ex.same, Bool.and_eq_true, decide_eq_true_eq, hL ks ks' (fun _ h => h), Ex.mk.injEq]
    constructor
    · rintro ⟨⟨h1, h2, h3⟩, h4⟩; exact ⟨h1, h2, h3, h4⟩
    · rintro ⟨h1, h2, h3, h4⟩; exact ⟨⟨h1, h2, h3⟩, h4⟩
theorem sameL_iff : ∀ (l l' : List Ex), Ex.sameL l l' = true ↔ l = l'
  | [], l' => by cases l' <;> simp [Ex.sameL]
  | x :: l, [] => by simp [Ex.sameL]
  | x :: l, y :: l' => by simp only [Ex.sameL, Bool.and_eq_true, same_iff, sameL_iff l l', List.cons.injEq]
theorem Ex.same_len : ∀ {xs ys : List Ex}, xs.length ≠ ys.length → Ex.sameL xs ys = false
  | [], [], h => absurd rfl h
  | [], _ :: _, _ => rfl
  | _ :: _, [], _ => rfl
  | x :: xs, y :: ys, h => by
    simp only [Ex.sameL, Ex.same_len (xs := xs) (ys := ys) (by simpa using h), Bool.and_false]
/-! ### texts -/
def lit (l : List UInt8) : ByteArray := ⟨l.toArray⟩
def signOf (op : Int) : ByteArray :=
  if op = 13 then ⟨#[111, 114]⟩ else if op = 12 then ⟨#[97, 110, 100]⟩ else if op = 9 then ⟨#[61]⟩ else if op = 10 then ⟨#[60]⟩ else if op = 11 then ⟨#[60, 61]⟩ else
  if op = 3 then ⟨#[43]⟩ else if op = 4 then ⟨#[45]⟩ else if op = 5 then ⟨#[42]⟩ else if op = 6 then ⟨#[47]⟩ else ⟨#[37]⟩
def rowOf (op : Int) : Int :=
  if op = 13 then 1 else if op = 12 then 2 else if op = 14 then 3 else if op = 15 then 4 else if op = 9 ∨ op = 10 ∨ op = 11 then 5 else if op = 3 ∨ op = 4 then 6 else if op = 5 ∨ op = 6 ∨ op = 7 then 7 else
  if op = 8 then 8 else 9
def lvlOf (op : Int) (v : Val) : Int := if op = 2 ∧ v.2.1 < 0 then 8 else rowOf op
def Ex.lvl (x : Ex) : Int := lvlOf x.op x.v
def brak (s : ByteArray) : ByteArray := ⟨#[40]⟩ ++ s ++ ⟨#[41]⟩
def wrapT (l need : Int) (s : ByteArray) : ByteArray := if l < need then brak s else s
def isNum (op : Int) (v : Val) : Bool := decide (op = 2 ∧ v.1 = 1)
def leftNeed (op : Int) : Int := if rowOf op = 5 then 6 else rowOf op
def kidT (ts : List (Int × Bool × ByteArray)) (i : Nat) (need : Int) : ByteArray := wrapT (ts.getD i (9, false, E0)).1 need (ts.getD i (9, false, E0)).2.2
def nodeT (op : Int) (nm : ByteArray) (v : Val) (ts : List (Int × Bool × ByteArray)) : ByteArray :=
  if op = 1 then nm else if op = 2 then sof (showL v) else
  if op = 16 then ⟨#[108, 101, 110, 40]⟩ ++ kidT ts 0 1 ++ ⟨#[41]⟩ else
  if op = 14 then ⟨#[110, 111, 116, 32]⟩ ++ kidT ts 0 3 else
  if op = 15 then kidT ts 0 5 ++ ⟨#[32, 105, 115, 32, 110, 117, 108, 108]⟩ else
  if op = 8 then (if (ts.getD 0 (9, false, E0)).2.1 = true then ⟨#[45, 40]⟩ ++ kidT ts 0 1 ++ ⟨#[41]⟩ else ⟨#[45]⟩ ++ kidT ts 0 8) else
  kidT ts 0 (leftNeed op) ++ ⟨#[32]⟩ ++ signOf op ++ ⟨#[32]⟩ ++ kidT ts 1 (rowOf op + 1)
mutual
def Ex.text : Ex → ByteArray
  | .mk op nm v ks => nodeT op nm v (Ex.texts ks)
def Ex.texts : List Ex → List (Int × Bool × ByteArray)
  | [] => []
  | k :: ks => (k.lvl, isNum k.op k.v, k.text) :: Ex.texts ks
end
def Ex.at (x : Ex) (need : Int) : ByteArray := wrapT x.lvl need x.text
theorem lvl_ge (op : Int) (v : Val) : 1 ≤ lvlOf op v := by
  unfold lvlOf rowOf
  repeat' split
  all_goals omega
theorem at_one (x : Ex) : x.at 1 = x.text := by
  unfold Ex.at wrapT
  rw [if_neg]
  have := lvl_ge x.op x.v
  unfold Ex.lvl
  omega
theorem showL_len {v : Val} (h : rightB v = true) (hv : ValOk v) : (showL v).length ≤ 2050 := by
  unfold showL
  have hk := right_kind h
  split
  · decide
  · split
    · have := Lib.itoa_length_le v.2.1 hv.lo hv.hi
      omega
    · split
      · unfold Lib.formatBool
        split <;> decide
      · have hq := quoteL_len (bl v.2.2)
        have hb := bl_length v.2.2
        simp only [List.length_append, List.length_cons, List.length_nil]
        omega
end Go.Proofs.YtbpdfpfgijhokaaGreatDoor
namespace Go.Proofs.YtbpdfpfgijhokaaGreatDoor
set_option maxRecDepth 100000
open Go.Dn Go.Proofs
open Go.RowKit (Below)
set_option linter.unusedVariables false
abbrev Itm := ByteArray × Int × Ex
structure Qu where
  it : List Itm
  wh : List Ex
  gr : List Ex
  od : List (Int × Bool)
  lim : Int
/-! ### cells -/
def ItC (F : Nat → Prop) (w : World) (i : Itm) (cs : List Value) : Prop := ∃ c, cs = .string i.1 :: .int .i64 i.2.1 :: c ∧ ExC F w i.2.2 c ∧ i.1.size ≤ maxLen ∧ i64 i.2.1
def RowsC {α : Type} (C : α → List Value → Prop) : List α → List Value → Prop
  | [], cs => cs = []
  | x :: xs, cs => ∃ c r, cs = c ++ r ∧ C x c ∧ RowsC C xs r
def keyC (k : Int × Bool) (cs : List Value) : Prop := cs = [.int .i64 k.1, .bool k.2] ∧ i64 k.1
section
variable {α : Type} {C D : α → List Value → Prop} {F G : Nat → Prop} {w w' : World}
theorem RowsC.mono (h : ∀ x c, C x c → D x c) : ∀ {l : List α} {cs : List Value}, RowsC C l cs → RowsC D l cs
  | [], cs, hr => hr
  | x :: l, cs, ⟨c, r, e, h1, h2⟩ => ⟨c, r, e, h x c h1, RowsC.mono h h2⟩
theorem RowsC.len {n : Nat} (hn : ∀ x c, C x c → c.length = n) : ∀ {l : List α} {cs : List Value}, RowsC C l cs → cs.length = l.length * n
  | [], cs, h => by unfold RowsC at h; subst h; simp
  | x :: xs, cs, ⟨c, r, e, h1, h2⟩ => by
    subst e
    have := hn x c h1
    have := RowsC.len hn h2
    simp only [List.length_append, List.length_cons, Nat.add_mul, Nat.one_mul]
    omega
theorem RowsC.get {n : Nat} (hn : ∀ x c, C x c → c.length = n) : ∀ {l : List α} {cs : List Value}, RowsC C l cs → ∀ (i : Nat) (hi : i < l.length), C l[i] ((cs.drop (i * n)).take n)
  | [], cs, h, i, hi => by simp at hi
  | x :: xs, cs, ⟨c, r, e, h1, h2⟩, i, hi => by
    subst e
    have hl := hn x c h1
    cases i with
    | zero =>
      have : ((c ++ r).drop (0 * n)).take n = c := by rw [Nat.zero_mul, List.drop_zero, List.take_append_of_le_length (by omega), List.take_of_length_le (by omega)]
      rw [this]
      exact h1
    | succ i =>
      have : ((c ++ r).drop ((i + 1) * n)).take n = (r.drop (i * n)).take n := by
        rw [List.drop_append, List.drop_eq_nil_of_le (by rw [Nat.add_mul]; omega), List.nil_append, hl, Nat.add_mul]
        congr 2
        omega
      rw [this]
      exact RowsC.get hn h2 i (by simpa using hi)
theorem RowsC.append : ∀ {l m : List α} {cs ds : List Value}, RowsC C l cs → RowsC C m ds → RowsC C (l ++ m) (cs ++ ds)
  | [], m, cs, ds, h, h' => by unfold RowsC at h; subst h; exact h'
  | x :: xs, m, cs, ds, ⟨c, r, e, h1, h2⟩, h' => by
    subst e
    rw [List.append_assoc]
    exact ⟨c, r ++ ds, rfl, h1, RowsC.append h2 h'⟩
theorem RowsC.one {x : α} {c : List Value} (h : C x c) : RowsC C [x] c := ⟨c, [], by simp, h, rfl⟩
theorem rowsC_exL : ∀ {l : List Ex} {cs : List Value}, RowsC (ExC F w) l cs ↔ ExL F w l cs
  | [], cs => by unfold RowsC ExL; exact Iff.rfl
  | x :: l, cs => by
    unfold ExL
    constructor
    · rintro ⟨c, r, e, h1, h2⟩; exact ⟨c, r, e, h1, rowsC_exL.1 h2⟩
    · rintro ⟨c, r, e, h1, h2⟩; exact ⟨c, r, e, h1, rowsC_exL.2 h2⟩
theorem ItC.len {i : Itm} {cs : List Value} (h : ItC F w i cs) : cs.length = 8 := by
  obtain ⟨c, rfl, h, _⟩ := h
  have := h.len
  simp [this]
theorem keyC_len {k : Int × Bool} {cs : List Value} (h : keyC k cs) : cs.length = 2 := by rw [h.1]; rfl
theorem ItC.grown (hk : Below w.heap.size w w') {i : Itm} {cs : List Value} (h : ItC F w i cs) : ItC F w' i cs := by
  obtain ⟨c, e, h1, h2⟩ := h
  exact ⟨c, e, h1.grown hk, h2⟩
end
/-! ### which queries may be -/
def keyWords : List ByteArray :=
  [⟨#[115, 101, 108, 101, 99, 116]⟩, ⟨#[119, 104, 101, 114, 101]⟩, ⟨#[103, 114, 111, 117, 112]⟩, ⟨#[98, 121]⟩, ⟨#[111, 114, 100, 101, 114]⟩, ⟨#[108, 105, 109, 105, 116]⟩, ⟨#[97, 115]⟩, ⟨#[97, 110, 100]⟩, ⟨#[111, 114]⟩, ⟨#[110, 111, 116]⟩,
   ⟨#[105, 115]⟩, ⟨#[110, 117, 108, 108]⟩, ⟨#[116, 114, 117, 101]⟩, ⟨#[102, 97, 108, 115, 101]⟩, ⟨#[108, 101, 110]⟩, ⟨#[100, 101, 115, 99]⟩, ⟨#[99, 111, 117, 110, 116]⟩, ⟨#[115, 117, 109]⟩, ⟨#[109, 105, 110]⟩, ⟨#[109, 97, 120]⟩]
def isKeyB (s : ByteArray) : Bool := keyWords.any fun k => decide (k = s)
def okName (s : ByteArray) : Bool := isNameB s && !isKeyB s
def rightX (x : Ex) : Bool := x.formed && x.names.all okName
def bareX (x : Ex) : Bool := decide (x.op = 0) && decide (x.nm = E0) && decide (x.v = V0) && decide (x.ks.length = 0)
def rightI (i : Itm) : Bool := okName i.1 && decide (0 ≤ i.2.1 ∧ i.2.1 ≤ 5) && (if i.2.1 = 1 then bareX i.2.2 else rightX i.2.2)
def placeOf (l : List Itm) (s : ByteArray) : Option Nat := l.findIdx? fun x => decide (x.1 = s)
def rightK (l : List Itm) (k : Int) : Bool := decide (0 ≤ k ∧ k < l.length) && decide (placeOf l (l.getD k.toNat (E0, 0, .mk 0 E0 V0 [])).1 = some k.toNat)
def smallQ (q : Qu) : Bool :=
  decide (1 ≤ q.it.length ∧ q.it.length ≤ 16 ∧ q.wh.length ≤ 1 ∧ q.gr.length ≤ 4 ∧ q.od.length ≤ 4 ∧ -1 ≤ q.lim ∧ q.lim ≤ 4096) && q.it.all rightI && q.wh.all rightX && q.gr.all rightX && q.od.all fun k => rightK q.it k.1
def aggName (a : Int) : ByteArray := if a = 2 then ⟨#[99, 111, 117, 110, 116]⟩ else if a = 3 then ⟨#[115, 117, 109]⟩ else if a = 4 then ⟨#[109, 105, 110]⟩ else ⟨#[109, 97, 120]⟩
def itemT (i : Itm) : ByteArray :=
  (if i.2.1 = 0 then i.2.2.text else if i.2.1 = 1 then ⟨#[99, 111, 117, 110, 116, 40, 42, 41]⟩ else aggName i.2.1 ++ ⟨#[40]⟩ ++ i.2.2.text ++ ⟨#[41]⟩) ++ ⟨#[32, 97, 115, 32]⟩ ++ i.1
def commas : List ByteArray → ByteArray
  | [] => E0
  | [x] => x
  | x :: y :: l => x ++ ⟨#[44, 32]⟩ ++ commas (y :: l)
def partT (head : ByteArray) (l : List ByteArray) : ByteArray := if l.length = 0 then E0 else head ++ commas l
def keyT (l : List Itm) (k : Int × Bool) : ByteArray := (l.getD k.1.toNat (E0, 0, .mk 0 E0 V0 [])).1 ++ if k.2 then ⟨#[32, 100, 101, 115, 99]⟩ else E0
def limT (n : Int) : ByteArray := if 0 ≤ n then ⟨#[32, 108, 105, 109, 105, 116, 32]⟩ ++ sof (Lib.itoa n) else E0
def quT (q : Qu) : ByteArray :=
  partT ⟨#[115, 101, 108, 101, 99, 116, 32]⟩ (q.it.map itemT) ++ partT ⟨#[32, 119, 104, 101, 114, 101, 32]⟩ (q.wh.map Ex.text) ++ partT ⟨#[32, 103, 114, 111, 117, 112, 32, 98, 121, 32]⟩ (q.gr.map Ex.text) ++
  partT ⟨#[32, 111, 114, 100, 101, 114, 32, 98, 121, 32]⟩ (q.od.map (keyT q.it)) ++ limT q.lim
def rightQ (q : Qu) : Bool := smallQ q && decide ((quT q).size ≤ 4096)
/-! ### plans -/
mutual
/-- numbers of 64 bits, texts that may be -/
def Ex.fit : Ex → Prop
  | .mk op nm v ks => (i64 op ∧ i64 v.1 ∧ i64 v.2.1 ∧ nm.size ≤ maxLen ∧ v.2.2.size ≤ maxLen) ∧ Ex.fitL ks
def Ex.fitL : List Ex → Prop
  | [] => True
  | k :: ks => k.fit ∧ Ex.fitL ks
end
theorem fitL_iff : ∀ {l : List Ex}, Ex.fitL l ↔ ∀ k ∈ l, k.fit
  | [] => by simp [Ex.fitL]
  | k :: l => by simp [Ex.fitL, fitL_iff (l := l)]
theorem ExC.fit {F : Nat → Prop} {w : World} {x : Ex} {cs : List Value} (h : ExC F w x cs) : x.fit := by
  revert cs
  induction x using Ex.ind with
  | h op nm v ks ih =>
    intro cs h
    obtain ⟨a, cap, rs, rfl, h1, h2, h3, h4, h5, ⟨g1, g2, g3, g4, g5⟩, h7⟩ := h.open
    refine ⟨⟨g1, g3, g4, g2, g5⟩, fitL_iff.2 fun k hk => ?_⟩
    obtain ⟨i, hi, rfl⟩ := List.mem_iff_getElem.1 hk
    exact ih _ hk (h7.get i hi)
def Ex.fair (x : Ex) (d : Nat) : Prop := x.okA d = true ∧ (∀ s ∈ x.names, s.size ≤ 24) ∧ x.fit
theorem okName_size {s : ByteArray} (h : okName s = true) : s.size ≤ 24 := by
  simp only [okName, isNameB, Bool.and_eq_true, decide_eq_true_eq] at h
  exact h.1.2
theorem rightX_fair {x : Ex} (h : rightX x = true) (hf : x.fit) : x.fair 40 := by
  simp only [rightX, Ex.formed, Bool.and_eq_true, List.all_eq_true, decide_eq_true_eq] at h
  exact ⟨h.1.1, fun s hs => okName_size (h.2 s hs), hf⟩
theorem namesL_mem : ∀ {l : List Ex} {k : Ex}, k ∈ l → ∀ s ∈ k.names, s ∈ Ex.namesL l
  | x :: l, k, hk, s, hs => by
    simp only [Ex.namesL, List.mem_append]
    rcases List.mem_cons.1 hk with rfl | hk
    · exact .inl hs
    · exact .inr (namesL_mem hk s hs)
theorem Ex.fair.kid {op : Int} {nm : ByteArray} {v : Val} {ks : List Ex} {d : Nat} (h : (Ex.mk op nm v ks).fair (d + 1)) : okN (.mk op nm v ks) = true ∧ ∀ k ∈ ks, k.fair d := by
  obtain ⟨h1, h2⟩ := formed_kid h.1
  refine ⟨h1, fun k hk => ⟨h2 k hk, fun s hs => h.2.1 s ?_, ?_⟩⟩
  · simp only [Ex.names, List.mem_append]
    exact .inr (namesL_mem hk s hs)
  · have := h.2.2
    unfold Ex.fit at this
    exact fitL_iff.1 this.2 k hk
theorem okN_iff {x : Ex} : okN x = true ↔ (x.ks.length : Int) = manyOf x.op ∧ (x.op = 1 ∨ x.nm = E0) ∧ (x.op = 2 ∨ x.v = V0) ∧ rightB x.v = true := by
  simp only [okN, Bool.and_eq_true, Bool.or_eq_true, decide_eq_true_eq, and_assoc]
theorem okN_op {x : Ex} (h : okN x = true) : 1 ≤ x.op ∧ x.op ≤ 16 := by
  obtain ⟨h1, _⟩ := okN_iff.1 h
  unfold manyOf at h1
  repeat' split at h1
  all_goals omega
theorem okN_kids {op : Int} {nm : ByteArray} {v : Val} {ks : List Ex} (h : okN (.mk op nm v ks) = true) :
    ((op = 1 ∨ op = 2) ∧ ks = []) ∨ ((op = 8 ∨ op = 14 ∨ op = 15 ∨ op = 16) ∧ ∃ k, ks = [k]) ∨ ((3 ≤ op ∧ op ≤ 13 ∧ op ≠ 8) ∧ ∃ k k', ks = [k, k']) := by
  obtain ⟨h1, _⟩ := okN_iff.1 h
  simp only [Ex.ks, Ex.op] at h1
  unfold manyOf at h1
  split at h1
  · exact .inl ⟨by assumption, by cases ks with | nil => rfl | cons a l => simp at h1; omega⟩
  · split at h1
    · refine .inr (.inl ⟨by assumption, ?_⟩)
      match ks, h1 with
      | [k], _ => exact ⟨k, rfl⟩
      | [], h => simp at h
      | _ :: _ :: _, h => simp at h; omega
    · split at h1
      · refine .inr (.inr ⟨⟨by omega, by omega, by omega⟩, ?_⟩)
        match ks, h1 with
        | [k, k'], _ => exact ⟨k, k', rfl⟩
        | [], h => simp at h
        | [_], h => simp at h
        | _ :: _ :: _ :: _, h => simp at h; omega
      · omega
theorem kidT0 (k : Ex) (l : List Ex) (need : Int) : kidT (Ex.texts (k :: l)) 0 need = k.at need := rfl
theorem kidT1 (k k' : Ex) (l : List Ex) (need : Int) : kidT (Ex.texts (k :: k' :: l)) 1 need = k'.at need := rfl
theorem at_size (x : Ex) (need : Int) : (x.at need).size ≤ x.text.size + 2 := by
  unfold Ex.at wrapT
  split
  · simp only [brak, ByteArray.size_append]
    have e1 : (ByteArray.mk #[40]).size = 1 := rfl
    have e2 : (ByteArray.mk #[41]).size = 1 := rfl
    omega
  · omega
theorem sign_size (op : Int) : (signOf op).size ≤ 3 := by
  unfold signOf
  repeat' split
  all_goals decide
theorem text_size : ∀ (x : Ex) (d : Nat), x.fair d → x.text.size ≤ 2100 * x.size := by
  intro x
  induction x using Ex.ind with
  | h op nm v ks ih =>
    intro d h
    cases d with
    | zero => have := h.1; simp [Ex.okA] at this
    | succ d =>
      obtain ⟨ho, hk⟩ := h.kid
      have hv : ValOk v := by have := h.2.2; unfold Ex.fit at this; exact ⟨this.1.2.2.1.1, this.1.2.2.1.2⟩
      unfold Ex.text nodeT
      rcases okN_kids ho with ⟨hop, rfl⟩ | ⟨hop, k, rfl⟩ | ⟨hop, k, k', rfl⟩
      · simp only [Ex.size, Ex.sizeL]
        rcases hop with rfl | rfl
        · rw [if_pos rfl]
          have := h.2.1 nm (by simp [Ex.names])
          omega
        · rw [if_neg (by decide), if_pos rfl, size_sof]
          have := showL_len (okN_iff.1 ho).2.2.2 hv
          simp only [Ex.v] at this
          omega
      · have ht := ih k (by simp) d (hk k (by simp))
        have hs : (Ex.mk op nm v [k]).size = k.size + 1 := by simp [Ex.size, Ex.sizeL]
        have h1 := at_size k 1
        have h3 := at_size k 3
        have h5 := at_size k 5
        have h8 := at_size k 8
        rw [hs]
        simp only [kidT0]
        have e1 : (ByteArray.mk #[108, 101, 110, 40]).size = 4 := rfl
        have e2 : (ByteArray.mk #[41]).size = 1 := rfl
        have e3 : (ByteArray.mk #[110, 111, 116, 32]).size = 4 := rfl
        have e4 : (ByteArray.mk #[32, 105, 115, 32, 110, 117, 108, 108]).size = 8 := rfl
        have e5 : (ByteArray.mk #[45, 40]).size = 2 := rfl
        have e6 : (ByteArray.mk #[45]).size = 1 := rfl
        rcases hop with rfl | rfl | rfl | rfl
        · rw [if_neg (by decide), if_neg (by decide), if_neg (by decide), if_neg (by decide), if_neg (by decide), if_pos rfl]
          split
          · simp only [ByteArray.size_append]; omega
          · simp only [ByteArray.size_append]; omega
        · rw [if_neg (by decide), if_neg (by decide), if_neg (by decide), if_pos rfl]
          simp only [ByteArray.size_append]; omega
        · rw [if_neg (by decide), if_neg (by decide), if_neg (by decide), if_neg (by decide), if_pos rfl]
          simp only [ByteArray.size_append]; omega
        · rw [if_neg (by decide), if_neg (by decide), if_pos rfl]
          simp only [ByteArray.size_append]; omega
      · have ht := ih k (by simp) d (hk k (by simp))
        have ht' := ih k' (by simp) d (hk k' (by simp))
        have hs : (Ex.mk op nm v [k, k']).size = k.size + k'.size + 1 := by simp [Ex.size, Ex.sizeL]
        have h1 := at_size k (leftNeed op)
        have h2 := at_size k' (rowOf op + 1)
        have h3 := sign_size op
        have e2 : (ByteArray.mk #[32]).size = 1 := rfl
        rw [hs, if_neg (by omega), if_neg (by omega), if_neg (by omega), if_neg (by omega), if_neg (by omega), if_neg (by omega)]
        simp only [kidT0, kidT1, ByteArray.size_append]
        omega
theorem rightX_text {x : Ex} (h : rightX x = true) (hf : x.fit) : x.text.size ≤ 840000 := by
  have h1 := text_size x 40 (rightX_fair h hf)
  simp only [rightX, Ex.formed, Bool.and_eq_true, decide_eq_true_eq] at h
  have := h.1.2
  omega
end Go.Proofs.YtbpdfpfgijhokaaGreatDoor
namespace Go.Dn
set_option linter.unusedVariables false
set_option maxRecDepth 100000
open Go.RowKit (Below)
structure It where
  blk : Option Nat
  ok : World → Prop
  st : ∀ w w', (∀ k, blk = some k → w'.heap[k]? = w.heap[k]?) → ok w → ok w'
  lt : ∀ w, ok w → ∀ k, blk = some k → k < w.heap.size
def It.obj (b : Nat) (o : Obj) : It where
  blk := some b
  ok := fun w => w.heap[b]? = some o
  st := fun w w' h h0 => (h b rfl).trans h0
  lt := fun w h k hk => by cases hk; exact (Array.getElem?_eq_some_iff.1 h).1
def It.cells (b : Nat) (cs : Array Value) (t : TypeId) : It := It.obj b (.cells cs t (0, 0))
def It.row (e : TypeId) (sz : Nat) (a : Option Addr) (n c : Nat) (xs : List Value) : It where
  blk := rowB a
  ok := fun w => Row w e sz a n c xs
  st := fun w w' h h0 => by
    refine ⟨h0.1, ?_⟩
    rcases h0.2 with h1 | ⟨g, cur, rfl, hg, r⟩
    · exact .inl h1
    · exact .inr ⟨g, cur, rfl, (h g rfl).trans hg, r⟩
  lt := fun w h k hk => h.lt hk
def It.rd (a : Option Addr) (xs : List Value) : It where
  blk := match xs with | [] => none | _ => rowB a
  ok := fun w => Rd w a xs
  st := fun w w' h h0 => by
    intro j v hv
    obtain ⟨p, hp, hc⟩ := h0 j v hv
    subst hp
    refine ⟨p, rfl, ?_⟩
    cases xs with
    | nil => simp at hv
    | cons x xs =>
      rw [World.cell?_of_block (w := w) (by rw [addr_add_block]; exact h p.block rfl)]
      exact hc
  lt := fun w h k hk => by
    cases xs with
    | nil => cases hk
    | cons x xs =>
      obtain ⟨p, rfl, hc⟩ := h 0 x rfl
      have := World.block_lt_of_cell? _ _ hc
      rw [addr_add_block] at this
      cases hk
      exact this
structure ST (w0 w : World) (H : List It) : Prop where
  bel : Below w0.heap.size w0 w
  ok : ∀ x ∈ H, x.ok w
  nd : H.Pairwise (fun x y => ∀ k, x.blk = some k → y.blk ≠ some k)
  own : ∀ x ∈ H, ∀ k, x.blk = some k → w0.heap.size ≤ k
section
variable {w0 w : World} {H : List It}
theorem ST.start (w : World) : ST w w [] := ⟨.refl _ _, by simp, by simp, by simp⟩
theorem ST.get (S : ST w0 w H) (n : Nat) {x : It} (hn : H[n]? = some x) : x.ok w := S.ok x (List.mem_of_getElem? hn)
theorem ST.grown (S : ST w0 w H) {w' : World} (h : Below w.heap.size w w') : ST w0 w' H where
  bel := S.bel.trans (h.mono S.bel.size)
  ok := fun x hx => x.st w w' (fun k hk => h.block k (x.lt w (S.ok x hx) k hk)) (S.ok x hx)
  nd := S.nd
  own := S.own
theorem ST.add (S : ST w0 w H) {w' : World} (h : Below w.heap.size w w') (y : It) (hy : y.ok w') (hb : ∀ k, y.blk = some k → w.heap.size ≤ k) : ST w0 w' (y :: H) where
  bel := (S.grown h).bel
  ok := fun x hx => by
    rcases List.mem_cons.1 hx with rfl | hx
    · exact hy
    · exact (S.grown h).ok x hx
  nd := List.pairwise_cons.2 ⟨fun x hx k hk hk' => by have := x.lt w (S.ok x hx) k hk'; have := hb k hk; omega, S.nd⟩
  own := fun x hx k hk => by
    rcases List.mem_cons.1 hx with rfl | hx
    · exact Nat.le_trans S.bel.size (hb k hk)
    · exact S.own x hx k hk
theorem pair_ne {l : List It} (h : l.Pairwise (fun x y => ∀ k, x.blk = some k → y.blk ≠ some k)) {i j : Nat} {x y : It} (hi : l[i]? = some x) (hj : l[j]? = some y) (hne : i ≠ j) {k : Nat} (hk : x.blk = some k) : y.blk ≠ some k := by
  obtain ⟨h1, rfl⟩ := List.getElem?_eq_some_iff.1 hi
  obtain ⟨h2, rfl⟩ := List.getElem?_eq_some_iff.1 hj
  rcases Nat.lt_or_gt_of_ne hne with hlt | hlt
  · exact (List.pairwise_iff_getElem.1 h) i j h1 h2 hlt k hk
  · intro he
    exact (List.pairwise_iff_getElem.1 h) j i h2 h1 hlt k he hk
theorem ST.chg (S : ST w0 w H) (n : Nat) {x : It} (hn : H[n]? = some x) {w' : World} (K : Keeps (fun k => x.blk = some k) w w') (y : It) (hy : y.ok w') (hb : ∀ k, y.blk = some k → x.blk = some k ∨ w.heap.size ≤ k) : ST w0 w' (H.set n y) where
  bel := S.bel.trans (K.below S.bel.size fun k hk h => by have := S.own x (List.mem_of_getElem? hn) k h; omega)
  ok := by
    intro z hz
    obtain ⟨i, hi⟩ := List.mem_iff_getElem?.1 hz
    by_cases hin : n = i
    · subst hin
      rw [List.getElem?_set_self (List.getElem?_eq_some_iff.1 hn).1] at hi
      cases hi
      exact hy
    · rw [List.getElem?_set_ne hin] at hi
      have hz' := S.ok z (List.mem_of_getElem? hi)
      refine z.st w w' (fun k hk => K.block k (z.lt w hz' k hk) ?_) hz'
      exact fun h => pair_ne S.nd hi hn (Ne.symm hin) hk h
  nd := by
    refine List.pairwise_iff_getElem.2 fun i j hi hj hij k hk hk' => ?_
    rw [List.length_set] at hi hj
    have hni := (List.getElem?_eq_some_iff.1 hn).1
    have old : ∀ {i j : Nat} (hi : i < H.length) (hj : j < H.length), i ≠ j → H[i].blk = some k → H[j].blk ≠ some k := fun hi hj hne h => pair_ne S.nd (List.getElem?_eq_getElem hi) (List.getElem?_eq_getElem hj) hne h
    have hx : H[n] = x := (List.getElem?_eq_some_iff.1 hn).2
    have far : ∀ {j : Nat} (hj : j < H.length), j ≠ n → H[j].blk = some k → y.blk ≠ some k := fun {j} hj hne h h' => by
      rcases hb k h' with h2 | h2
      · rw [← hx] at h2
        exact old hni hj (Ne.symm hne) h2 h
      · have := H[j].lt w (S.ok _ (List.getElem_mem hj)) k h
        omega
    by_cases h1 : n = i
    · subst h1
      rw [List.getElem_set_self] at hk
      rw [List.getElem_set_ne (by omega)] at hk'
      exact far hj (by omega) hk' hk
    · rw [List.getElem_set_ne h1] at hk
      by_cases h2 : n = j
      · subst h2
        rw [List.getElem_set_self] at hk'
        exact far hi (by omega) hk hk'
      · rw [List.getElem_set_ne h2] at hk'
        exact old hi hj (by omega) hk hk'
  own := by
    intro z hz k hk
    obtain ⟨i, hi⟩ := List.mem_iff_getElem?.1 hz
    by_cases hin : n = i
    · subst hin
      rw [List.getElem?_set_self (List.getElem?_eq_some_iff.1 hn).1] at hi
      cases hi
      rcases hb k hk with h | h
      · exact S.own x (List.mem_of_getElem? hn) k h
      · exact Nat.le_trans S.bel.size h
    · rw [List.getElem?_set_ne hin] at hi
      exact S.own z (List.mem_of_getElem? hi) k hk
theorem ST.sub (S : ST w0 w H) {H' : List It} (h : H'.Sublist H) : ST w0 w H' := ⟨S.bel, fun x hx => S.ok x (h.subset hx), S.nd.sublist h, fun x hx => S.own x (h.subset hx)⟩
theorem ST.drop (S : ST w0 w H) (n : Nat) : ST w0 w (H.drop n) := S.sub (List.drop_sublist _ _)
theorem ST.perm (S : ST w0 w H) {H' : List It} (h : H.Perm H') : ST w0 w H' :=
  ⟨S.bel, fun x hx => S.ok x (h.mem_iff.2 hx), (h.pairwise_iff (fun h k hk hk' => h k hk' hk)).1 S.nd, fun x hx => S.own x (h.mem_iff.2 hx)⟩
theorem ST.pull (S : ST w0 w H) (n : Nat) {x : It} (hn : H[n]? = some x) : ST w0 w (x :: H.eraseIdx n) where
  bel := S.bel
  ok := fun y hy => by
    rcases List.mem_cons.1 hy with rfl | hy
    · exact S.get n hn
    · exact S.ok y (List.mem_of_mem_eraseIdx hy)
  nd := by
    refine List.pairwise_cons.2 ⟨fun y hy k hk hk' => ?_, S.nd.sublist (List.eraseIdx_sublist ..)⟩
    obtain ⟨i, hi, hne⟩ := List.mem_eraseIdx_iff_getElem?.1 hy
    exact pair_ne S.nd hn hne (Ne.symm hi) hk hk'
  own := fun y hy => by
    rcases List.mem_cons.1 hy with rfl | hy
    · exact S.own _ (List.mem_of_getElem? hn)
    · exact S.own y (List.mem_of_mem_eraseIdx hy)
theorem ST.join (S : ST w0 w H) {w' : World} {P : List It} (T : ST w w' P) : ST w0 w' (P ++ H) where
  bel := S.bel.trans (T.bel.mono S.bel.size)
  ok := fun x hx => by
    rcases List.mem_append.1 hx with h | h
    · exact T.ok x h
    · exact (S.grown T.bel).ok x h
  nd := List.pairwise_append.2 ⟨T.nd, S.nd, fun x hx y hy k hk hk' => by have := T.own x hx k hk; have := y.lt w (S.ok y hy) k hk'; omega⟩
  own := fun x hx k hk => by
    rcases List.mem_append.1 hx with h | h
    · exact Nat.le_trans S.bel.size (T.own x h k hk)
    · exact S.own x h k hk
theorem ST.newB (S : ST w0 w H) {cs : Array Value} {t : TypeId} {k : Nat → World → Prop} (hk : ∀ b w', w.heap.size ≤ b → Below w.heap.size w w' → ST w0 w' (It.cells b cs t :: H) → k b w') : NEWB cs t k w :=
  hk _ _ (Nat.le_refl _) ((Below.refl _ w).alloc (Nat.le_refl _) _) (S.add ((Below.refl _ w).alloc (Nat.le_refl _) _) _ (heap_alloc_new w _) (fun k hk => by cases hk; exact Nat.le_refl _))
theorem ST.draw (S : ST w0 w H) {k : World → Prop} (hk : ∀ w', Below w.heap.size w w' → ST w0 w' H → k w') : DRAW k w := hk _ ((Below.refl _ w).drew) (S.grown ((Below.refl _ w).drew))
theorem ST.cell (S : ST w0 w H) (n : Nat) {b : Nat} {cs : Array Value} {t : TypeId} (hn : H[n]? = some (It.cells b cs t)) {i : Nat} {v : Value} (hv : cs[i]? = some v) : w.cell? ⟨b, i, none⟩ = some v := by
  have : w.heap[b]? = some (.cells cs t (0, 0)) := S.get n hn
  simp [World.cell?, this, hv]
theorem ST.blk (S : ST w0 w H) (n : Nat) {b : Nat} {cs : Array Value} {t : TypeId} (hn : H[n]? = some (It.cells b cs t)) : w.heap[b]? = some (.cells cs t (0, 0)) := S.get n hn
theorem ST.rdc (S : ST w0 w H) (n : Nat) {b : Nat} {cs : Array Value} {t : TypeId} (hn : H[n]? = some (It.cells b cs t)) : Rd w (some ⟨b, 0, none⟩) cs.toList := Rd.of_block0 (S.blk n hn)
theorem ST.rw (S : ST w0 w H) (n : Nat) {e : TypeId} {sz : Nat} {a : Option Addr} {m c : Nat} {xs : List Value} (hn : H[n]? = some (It.row e sz a m c xs)) : Row w e sz a m c xs := S.get n hn
theorem ST.rd (S : ST w0 w H) (n : Nat) {e : TypeId} {sz : Nat} {a : Option Addr} {m c : Nat} {xs : List Value} (hn : H[n]? = some (It.row e sz a m c xs)) : Rd w a xs := (S.rw n hn).rd
theorem ST.sto (S : ST w0 w H) (n : Nat) {b : Nat} {cs cs' : Array Value} {t : TypeId} (hn : H[n]? = some (It.cells b cs t)) {i : Nat} {v : Value} {k : World → Prop} (hi : i < cs.size) (hc : cs.setIfInBounds i v = cs')
    (hk : ∀ w', ST w0 w' (H.set n (It.cells b cs' t)) → k w') : STO ⟨b, i, none⟩ v k w := by
  subst hc
  have hb := S.blk n hn
  refine ⟨by rw [S.cell n hn (Array.getElem?_eq_getElem hi)]; rfl, by simp [World.frozen?, hb], hk _ (S.chg n hn ((keeps_setCell w b i v).mono fun k _ h => by subst h; rfl) _ (heap_setCell_at hb v) (fun k hk => .inl hk))⟩
theorem ST.lit3 (S : ST w0 w H) {z0 z1 z2 v0 v1 v2 : Value} {t : TypeId} {k : Nat → World → Prop} (hk : ∀ b w', w.heap.size ≤ b → ST w0 w' (It.cells b #[v0, v1, v2] t :: H) → k b w') :
    NEWB #[z0, z1, z2] t (fun b w => STO ⟨b, 0, none⟩ v0 (fun w => STO ⟨b, 1, none⟩ v1 (fun w => STO ⟨b, 2, none⟩ v2 (fun w => k b w) w) w) w) w :=
  S.newB fun b w1 hb _ S1 => S1.sto 0 rfl (cs' := #[v0, z1, z2]) (by simp) rfl fun w2 S2 => S2.sto 0 rfl (cs' := #[v0, v1, z2]) (by simp) rfl fun w3 S3 => S3.sto 0 rfl (cs' := #[v0, v1, v2]) (by simp) rfl fun w4 S4 => hk b w4 hb S4
theorem ST.nil (S : ST w0 w H) (e : TypeId) (sz : Nat) : ST w0 w (It.row e sz none 0 0 [] :: H) := S.add (.refl _ _) _ (Row.nil w e sz) (fun k hk => by cases hk)
theorem ST.app (S : ST w0 w H) (n : Nat) {P : Program} {t ty e : TypeId} {sz bytes : Nat} {z : Value} {a : Option Addr} {m c : Nat} {xs : List Value} (hn : H[n]? = some (It.row e sz a m c xs)) (hT : slT P t = some (e, sz, bytes, z)) (hz : z.cells.size = sz) (hsz : 0 < sz) (hb0 : 0 < bytes)
    {b : Option Addr} {mm mc : Nat} {news : List Value} (hs : Rd w b news) (hl : news.length = mm * sz) (h1 : ∀ u ∈ news, u.oneCell' = true) (hby : (m + mm) * bytes ≤ 140737488355328) {f : Value → World → Prop}
    (hf : ∀ a' c' w', ST w0 w' (H.set n (It.row e sz a' (m + mm) c' (xs ++ news))) → f (.slice a' (m + mm) c') w') : OPR P (Builtin.append_ #[t, t] ty #[.slice a m c, .slice b mm mc]) f w := by
  obtain ⟨a', c', w', hrun, hrow, hk, hnew⟩ := append_row (ty := ty) (mc := mc) hT hz hsz hb0 (S.rw n hn) hs hl h1 hby
  unfold OPR
  rw [hrun]
  exact hf a' c' w' (S.chg n hn hk _ hrow hnew)
theorem ST.range (S : ST w0 w H) (rr : Loop) : ST w0 ((w.alloc (.deferred (some []))).alloc (.loop rr)) (It.obj (w.heap.size + 1) (.loop rr) :: It.obj w.heap.size (.deferred (some [])) :: H) := by
  have B1 : Below w.heap.size w (w.alloc (.deferred (some []))) := (Below.refl _ w).alloc (Nat.le_refl _) _
  have S1 := S.add B1 (It.obj w.heap.size (.deferred (some []))) (heap_alloc_new w _) (fun k hk => by cases hk; exact Nat.le_refl _)
  have S2 := S1.add ((Below.refl _ _).alloc (Nat.le_refl _) (.loop rr)) (It.obj (w.alloc (.deferred (some []))).heap.size (.loop rr)) (heap_alloc_new _ _) (fun k hk => by cases hk; exact Nat.le_refl _)
  rwa [World.size_alloc] at S2
theorem keeps_put (w : World) (l : Nat) (o : Obj) : Keeps (· = l) w (w.putObj l o) := ⟨rfl, rfl, rfl, by simp, fun k _ hn => World.putObj_heap_other hn⟩
theorem ST.put (S : ST w0 w H) (n : Nat) {b : Nat} {o : Obj} (hn : H[n]? = some (It.obj b o)) (o' : Obj) : ST w0 (w.putObj b o') (H.set n (It.obj b o')) :=
  S.chg n hn ((keeps_put w b o').mono fun k _ h => by subst h; rfl) _ (World.putObj_heap_same (Array.getElem?_eq_some_iff.1 (S.get n hn)).1) (fun k hk => .inl hk)
theorem ST.begr (S : ST w0 w H) (n : Nat) {L : Nat} {rr : Loop} (hn : H[n]? = some (It.obj L (.loop rr))) {k : World → Prop} (hk : ∀ w', ST w0 w' (H.set n (It.obj L (.loop { rr with state := .busy }))) → k w') : BEGR rr L k w :=
  ⟨S.get n hn, hk _ (S.put n hn _)⟩
theorem rr_same {rr : Loop} (h1 : rr.state = .ready) (h2 : rr.pending = none) : ({ rr with state := if (none : Option Code).isNone then .ready else .done, pending := none } : Loop) = rr := by
  cases rr
  simp_all
theorem ST.endr0 (S : ST w0 w H) (n : Nat) {L : Nat} {rr : Loop} (h1 : rr.state = .ready) (h2 : rr.pending = none) (hn : H[n]? = some (It.obj L (.loop { rr with state := .busy }))) {k : Bool → World → Prop} (hk : ∀ w', ST w0 w' (H.set n (It.obj L (.loop rr))) → k true w') : ENDR rr L k none w := by
  refine ⟨S.get n hn, ?_⟩
  have := S.put n hn (.loop { rr with state := if (none : Option Code).isNone then .ready else .done, pending := none })
  rw [rr_same h1 h2] at this ⊢
  exact hk _ this
theorem ST.endr1 (S : ST w0 w H) (n : Nat) {L : Nat} {rr : Loop} {j : Code} (hn : H[n]? = some (It.obj L (.loop { rr with state := .busy }))) {k : Bool → World → Prop} (hk : ∀ w', ST w0 w' (H.set n (It.obj L (.loop { rr with state := .done, pending := some j }))) → k false w') : ENDR rr L k (some j) w :=
  ⟨S.get n hn, hk _ (S.put n hn _)⟩
theorem ST.endl0 (S : ST w0 w H) (n : Nat) {L : Nat} {rr : Loop} (h1 : rr.state = .ready) (h2 : rr.pending = none) (hn : H[n]? = some (It.obj L (.loop rr))) {k : Option Code → World → Prop} (hk : ∀ w', ST w0 w' (H.set n (It.obj L (.loop { rr with state := .exhausted, pending := none }))) → k none w') : ENDL rr L k w :=
  ⟨none, by rw [rr_same h1 h2]; exact S.get n hn, hk _ (S.put n hn _)⟩
theorem ST.endl1 (S : ST w0 w H) (n : Nat) {L : Nat} {rr : Loop} {j : Code} (hn : H[n]? = some (It.obj L (.loop { rr with state := .done, pending := some j }))) {k : Option Code → World → Prop} (hk : ∀ w', ST w0 w' (H.set n (It.obj L (.loop { rr with state := .exhausted, pending := some j }))) → k (some j) w') : ENDL rr L k w :=
  ⟨some j, S.get n hn, hk _ (S.put n hn _)⟩
theorem YLD.mono {P : Program} {l : Nat} {args : Array Value} {k k' : Bool → World → Prop} {w : World} (h : YLD P l args k w) (hk : ∀ y w', k y w' → k' y w') : YLD P l args k' w := by
  obtain ⟨f, tm, asg, bo, hy, hr⟩ := h
  refine ⟨f, tm, asg, bo, hy, hr.mono ?_⟩
  rintro e w' ⟨t, he, h⟩
  exact ⟨t, he, hk t w' h⟩
end
section
variable {w0 w : World} {H : List It}
theorem ST.lit6 (S : ST w0 w H) {z0 z1 z2 z3 z4 z5 v0 v1 v2 v3 v4 v5 : Value} {t : TypeId} {k : Nat → World → Prop} (hk : ∀ b w', w.heap.size ≤ b → ST w0 w' (It.cells b #[v0, v1, v2, v3, v4, v5] t :: H) → k b w') :
    NEWB #[z0, z1, z2, z3, z4, z5] t (fun b w => STO ⟨b, 0, none⟩ v0 (fun w => STO ⟨b, 1, none⟩ v1 (fun w => STO ⟨b, 2, none⟩ v2 (fun w => STO ⟨b, 3, none⟩ v3 (fun w => STO ⟨b, 4, none⟩ v4 (fun w => STO ⟨b, 5, none⟩ v5 (fun w => k b w) w) w) w) w) w) w) w :=
  S.newB fun b w1 hb _ S1 => S1.sto 0 rfl (cs' := #[v0, z1, z2, z3, z4, z5]) (by simp) rfl fun w2 S2 => S2.sto 0 rfl (cs' := #[v0, v1, z2, z3, z4, z5]) (by simp) rfl fun w3 S3 => S3.sto 0 rfl (cs' := #[v0, v1, v2, z3, z4, z5]) (by simp) rfl fun w4 S4 =>
    S4.sto 0 rfl (cs' := #[v0, v1, v2, v3, z4, z5]) (by simp) rfl fun w5 S5 => S5.sto 0 rfl (cs' := #[v0, v1, v2, v3, v4, z5]) (by simp) rfl fun w6 S6 => S6.sto 0 rfl (cs' := #[v0, v1, v2, v3, v4, v5]) (by simp) rfl fun w7 S7 => hk b w7 hb S7
def msI (ms : List Nat) : List It := ms.map fun m => It.obj m (.deferred (some []))
theorem ST.shut : ∀ {ms : List Nat} {w : World} {k : World → Prop}, ST w0 w (msI ms ++ H) → (∀ w', ST w0 w' H → k w') → SHUT ms k w
  | [], w, k, S, hk => hk w S
  | m :: ms, w, k, S, hk => ⟨S.get 0 rfl, ST.shut ((S.put 0 rfl (.deferred none)).drop 1) hk⟩
theorem ST.mid (l : List It) {X B : List It} (S : ST w0 w (X ++ (l ++ B))) : ST w0 w (l ++ (X ++ B)) := S.perm (List.perm_append_comm_assoc X l B)
theorem ST.unmid (l : List It) {X B : List It} (S : ST w0 w (l ++ (X ++ B))) : ST w0 w (X ++ (l ++ B)) := S.perm (List.perm_append_comm_assoc l X B)
end
section
variable {w0 w : World} {H : List It}
end
end Go.Dn
namespace Go.Proofs.YtbpdfpfgijhokaaGreatDoor
set_option maxRecDepth 100000
open Go.Dn Go.Proofs
open Go.RowKit (Below)
set_option linter.unusedVariables false
abbrev XC (w : World) (x : Ex) (cs : List Value) : Prop := ExC (fun _ => False) w x cs
theorem ex_at {F : Nat → Prop} {w0 w : World} {a : Option Addr} {rs : List Value} {ks : List Ex} (hr : Rd w a rs) (hk : ExL F w0 ks rs) {i : Nat} (hi : i < ks.length) :
    ∃ p a' cap', a = some p ∧ ExC F w0 ks[i] (exHead ks[i] a' cap') ∧ w.cell? (p.add (i * 6)) = some (.int .i64 ks[i].op) ∧ w.cell? ((p.add (i * 6)).add 1) = some (.string ks[i].nm) ∧ w.cell? ((p.add (i * 6)).add 2) = some (.int .i64 ks[i].v.1) ∧
      w.cell? ((p.add (i * 6)).add 3) = some (.int .i64 ks[i].v.2.1) ∧ w.cell? ((p.add (i * 6)).add 4) = some (.string ks[i].v.2.2) ∧ w.cell? ((p.add (i * 6)).add 5) = some (.slice a' ks[i].ks.length cap') := by
  have h := hk.get i hi
  obtain ⟨a', cap', _, he, _⟩ := h.open
  rw [he] at h
  have hl := hk.len
  have get : ∀ j v, (exHead ks[i] a' cap')[j]? = some v → rs[i * 6 + j]? = some v := by
    intro j v hj
    rw [← he, List.getElem?_take] at hj
    split at hj
    · rw [List.getElem?_drop] at hj; exact hj
    · cases hj
  obtain ⟨p, rfl, h0⟩ := hr (i * 6 + 0) _ (get 0 _ rfl)
  have cell : ∀ j v, (exHead ks[i] a' cap')[j]? = some v → w.cell? ((p.add (i * 6)).add j) = some v := by
    intro j v hj
    obtain ⟨q, hq, hc⟩ := hr (i * 6 + j) v (get j v hj)
    cases hq
    rwa [addr_add_add]
  exact ⟨p, a', cap', rfl, h, by simpa using h0, cell 1 _ rfl, cell 2 _ rfl, cell 3 _ rfl, cell 4 _ rfl, cell 5 _ rfl⟩
def Yld {α : Type} (w0 : World) (L : Nat) (tot : List α) (C : α → List Value → Prop) (I : List α → List It → Prop) (J : List It → Prop) : Prop :=
  ∀ done x rest vs HN B w, tot = done ++ x :: rest → I done B → ST w0 w (HN ++ B) → C x vs → YLD Tryz.prog L ⟨vs⟩ (fun y w' => ∃ B', ST w0 w' (HN ++ B') ∧ ((y = true ∧ I (done ++ [x]) B') ∨ (y = false ∧ J B'))) w
def nodeC (w0 : World) (p : Nat × Ex) (vs : List Value) : Prop := ∃ cs, vs = [.int .i64 (p.1 : Int), .agg ⟨cs⟩] ∧ XC w0 p.2 cs
def depI (b d : Nat) : It := It.cells b #[.int .i64 (d : Int)] ty.int
def exI (b : Nat) (cs : List Value) : It := It.cells b ⟨cs⟩ ty.api_Expr
theorem expr_nodes_ok {w : World} {x : Ex} {a : Option Addr} {cap : Nat} (d : Nat) : Calls Tryz.prog f.expr_nodes #[.agg ⟨exHead x a cap⟩, .int .i64 (d : Int)] w (Ret fun v w' => ∃ bd bx, v = .func (.func f.expr_nodes_c1) #[] #[.pointer (some ⟨bd, 0, none⟩), .pointer (some ⟨bx, 0, none⟩)] ∧
    ST w w' [depI bd d, exI bx (exHead x a cap)]) := by
  apply R.expr_nodes_calls
  unfold R.expr_nodes
  exact (ST.start w).newB fun b1 w1 _ _ S1 => S1.newB fun b2 w2 _ _ S2 => ⟨b2, b1, rfl, S2⟩
def oneL (L : Nat) : Array Value := #[.func (.yield L) #[] #[]]
theorem nodes_c1_ok {w0 : World} : ∀ (x : Ex) (d : Nat), d ≤ 41 → ∀ (L : Nat) (tot : List (Nat × Ex)) (I : List (Nat × Ex) → List It → Prop) (J : List It → Prop), Yld w0 L tot (nodeC w0) I J → ∀ (a : Option Addr) (cap : Nat), XC w0 x (exHead x a cap) →
    ∀ (done rest : List (Nat × Ex)) (HN B : List It) (w : World) (bd bx : Nat), tot = done ++ (x.nodes d ++ rest) → I done B → ST w0 w (depI bd d :: exI bx (exHead x a cap) :: (HN ++ B)) →
    Calls Tryz.prog f.expr_nodes_c1 #[.func (.yield L) #[] #[], .pointer (some ⟨bd, 0, none⟩), .pointer (some ⟨bx, 0, none⟩)] w (Ret fun _ w' => ∃ B', ST w0 w' (HN ++ B') ∧ (I (done ++ x.nodes d) B' ∨ J B')) := by
  intro x
  induction x using Ex.ind with
  | h op nm v ks ih =>
    intro d hd L tot I J hy a cap hx done rest HN B w bd bx htot hI S
    obtain ⟨a2, cap2, rs, he, hrd, _, hcap, hmx, _, _, hkids⟩ := hx.open
    have hea : a2 = a ∧ cap2 = cap := by
      simp only [exHead, List.cons.injEq, Value.slice.injEq, and_true, true_and] at he
      exact ⟨he.1.symm, he.2.symm⟩
    obtain ⟨rfl, rfl⟩ := hea
    change ExL _ _ ks rs at hkids
    have hbig : ks.length ≤ 9223372036854775807 := Nat.le_trans hcap (Nat.le_trans hmx (by decide))
    apply R.expr_nodes_c1_calls
    unfold R.expr_nodes_c1
    have hnod : (Ex.mk op nm v ks).nodes d = (d, .mk op nm v ks) :: if d ≤ 40 then Ex.nodesL ks (d + 1) else [] := by simp only [Ex.nodes]
    refine S.newB fun b3 w1 _ _ S1 => ⟨fun _ w4 => ∃ B', ST w0 w4 (It.cells b3 (oneL L) 160 :: depI bd d :: exI bx (exHead (.mk op nm v ks) a2 cap2) :: (HN ++ B')) ∧ I (done ++ [(d, .mk op nm v ks)]) B' ∧ d ≤ 40, .inr ⟨L, S1.cell 0 rfl rfl, _, S1.cell 1 rfl rfl, _, S1.cell 2 rfl rfl, _, S1.cell 2 rfl rfl, _, S1.cell 2 rfl rfl, _, S1.cell 2 rfl rfl, _, S1.cell 2 rfl rfl, _, _, _, S1.cell 2 rfl rfl, ?_⟩, ?_⟩
    · refine (hy done (d, .mk op nm v ks) ((if d ≤ 40 then Ex.nodesL ks (d + 1) else []) ++ rest) _ (It.cells b3 (oneL L) 160 :: depI bd d :: exI bx (exHead (.mk op nm v ks) a2 cap2) :: HN) B w1 (by rw [htot, hnod]; rfl) hI S1 ⟨_, rfl, hx⟩).mono ?_
      rintro y w3 ⟨B', S3, ⟨rfl, hI3⟩ | ⟨rfl, hJ⟩⟩
      · refine IFB_not (IFB_true ⟨_, S3.cell 1 rfl rfl, IFB_dec (fun h40 => ?_) (fun h40 => ⟨B', S3, hI3, by omega⟩)⟩)
        refine ⟨B', S3.drop 3, .inl ?_⟩
        rw [hnod, if_neg (by omega)]
        exact hI3
      · exact IFB_not (IFB_false ⟨B', S3.drop 3, .inr hJ⟩)
    rintro w4 ⟨B1, S4, hI4, hd4⟩
    rw [if_pos hd4] at hnod
    refine ⟨_, _, _, S4.cell 2 rfl rfl, fun st ms w5 => ∃ i : Nat, st = [.int .i64 (i : Int)] ∧ i ≤ ks.length ∧ ∃ B', ST w0 w5 (It.cells b3 (oneL L) 160 :: depI bd d :: exI bx (exHead (.mk op nm v ks) a2 cap2) :: (msI ms ++ (HN ++ B'))) ∧ I (done ++ (d, .mk op nm v ks) :: Ex.nodesL (ks.take i) (d + 1)) B',
      fun st _ => match st with | [.int _ t] => ks.length - t.toNat | _ => 0, ⟨0, rfl, by omega, B1, S4, hI4⟩, ?_⟩
    rintro t ms w5 ⟨i, hst, hi, B2, S5, hI5⟩
    cases hst
    have hks : (Ex.mk op nm v ks).ks = ks := rfl
    refine IFB_dec (fun hlt => ⟨⟨by omega, hlt⟩, ?_⟩) (fun hge => ?_)
    · have hil : i < ks.length := by rw [hks] at hlt; omega
      obtain ⟨p, a3, cap3, rfl, hxk, c0, c1, c2, c3, c4, c5⟩ := ex_at (hrd.grown S5.bel) hkids hil
      have hnt : Ex.nodesL (ks.take (i + 1)) (d + 1) = Ex.nodesL (ks.take i) (d + 1) ++ ks[i].nodes (d + 1) := by
        rw [List.take_succ_eq_append_getElem hil]
        have : ∀ (l : List Ex) (y : Ex), Ex.nodesL (l ++ [y]) (d + 1) = Ex.nodesL l (d + 1) ++ y.nodes (d + 1) := by
          intro l y
          induction l with
          | nil => simp [Ex.nodesL]
          | cons z l ih => simp only [List.cons_append, Ex.nodesL, ih, List.append_assoc]
        exact this _ _
      have hnd : Ex.nodesL ks (d + 1) = Ex.nodesL (ks.take i) (d + 1) ++ (ks[i].nodes (d + 1) ++ Ex.nodesL (ks.drop (i + 1)) (d + 1)) := by
        have : ∀ (l m : List Ex), Ex.nodesL (l ++ m) (d + 1) = Ex.nodesL l (d + 1) ++ Ex.nodesL m (d + 1) := by
          intro l m
          induction l with
          | nil => simp [Ex.nodesL]
          | cons z l ih => simp only [List.cons_append, Ex.nodesL, ih, List.append_assoc]
        rw [← List.append_assoc, ← hnt, ← this, List.take_append_drop]
      refine ⟨_, by rw [Int.toNat_natCast]; exact c0, _, by rw [Int.toNat_natCast]; exact c1, _, by rw [Int.toNat_natCast]; exact c2, _, by rw [Int.toNat_natCast]; exact c3, _, by rw [Int.toNat_natCast]; exact c4, _, _, _, by rw [Int.toNat_natCast]; exact c5, S5.lit6 fun b37 w13 _ S13 => ?_⟩
      refine ⟨_, S13.cell 0 rfl rfl, _, S13.cell 0 rfl rfl, _, S13.cell 0 rfl rfl, _, S13.cell 0 rfl rfl, _, S13.cell 0 rfl rfl, _, _, _, S13.cell 0 rfl rfl, _, S13.cell 2 rfl rfl, ?_⟩
      rw [wrap_succ (by omega)]
      refine (expr_nodes_ok (x := ks[i]) (a := a3) (cap := cap3) (d + 1)).mono ?_
      rintro _ w14 ⟨_, rfl, b2, b1, rfl, P14⟩
      have S14 := (S13.drop 1).join P14
      refine ⟨_, _, _, rfl, by kernel_rfl, fun rr hst hpe hy2 => ?_⟩
      have S15 := S14.range rr
      obtain ⟨L2, hL2⟩ : ∃ L2, L2 = w14.heap.size + 1 := ⟨_, rfl⟩
      obtain ⟨m, hm⟩ : ∃ m, m = w14.heap.size := ⟨_, rfl⟩
      rw [← hL2] at S15 hy2 ⊢
      rw [← hm] at S15 ⊢
      have S16 : ST w0 ((w14.alloc (.deferred (some []))).alloc (.loop rr)) (depI b2 (d + 1) :: exI b1 (exHead ks[i] a3 cap3) :: ((It.obj m (.deferred (some [])) :: depI bd d :: exI bx (exHead (.mk op nm v ks) (some p) cap2) :: (msI ms ++ HN)) ++ (It.obj L2 (.loop rr) :: It.cells b3 (oneL L) 160 :: B2))) := by
        have T1 := S15.pull 4 rfl
        have T2 := T1.pull 1 rfl
        have T3 := T2.pull 6 rfl
        have T4 := T3.pull 6 rfl
        have T5 := T4.pull 4 rfl
        have T6 := T5.pull 6 rfl
        have T7 := T6.pull 6 rfl
        refine T7.perm ?_
        refine List.Perm.cons _ (List.Perm.cons _ (List.Perm.cons _ (List.Perm.cons _ (List.Perm.cons _ ?_))))
        have := List.perm_append_comm_assoc [It.obj L2 (.loop rr), It.cells b3 (oneL L) 160] (msI ms ++ HN) B2
        simpa [List.append_assoc] using this
      refine (ih ks[i] (List.getElem_mem hil) (d + 1) (by omega) L2 (ks[i].nodes (d + 1)) (fun done2 B' => ∃ B'', B' = It.obj L2 (.loop rr) :: It.cells b3 (oneL L) 160 :: B'' ∧ I (done ++ (d, .mk op nm v ks) :: Ex.nodesL (ks.take i) (d + 1) ++ done2) B'')
        (fun B' => ∃ B'', B' = It.obj L2 (.loop { rr with state := .done, pending := some .ret }) :: It.cells b3 (oneL L) 160 :: B'' ∧ J B'') ?_ a3 cap3 hxk [] [] _ _ _ b2 b1 (by simp) ⟨B2, rfl, by simpa using hI5⟩ S16).mono ?_
      · rintro done2 ⟨yd, yx⟩ rest2 vs HN2 _ w15 htot2 ⟨B3, rfl, hI15⟩ S17 ⟨cs2, rfl, hx2⟩
        obtain ⟨a4, cap4, _, rfl, _⟩ := ExC.open hx2
        have S18 := ST.mid [It.obj L2 (.loop rr), It.cells b3 (oneL L) 160] S17
        refine hy2 _ _ _ _ _ _ _ _ _ _ w15 (S18.get 0 rfl) ?_
        refine S18.lit6 fun b55 w22 _ S22 => S22.begr 1 rfl fun w23 S23 => .inr ⟨L, S23.cell 2 rfl rfl, _, S23.cell 0 rfl rfl, _, S23.cell 0 rfl rfl, _, S23.cell 0 rfl rfl, _, S23.cell 0 rfl rfl, _, S23.cell 0 rfl rfl, _, _, _, S23.cell 0 rfl rfl, ?_⟩
        refine (hy (done ++ (d, .mk op nm v ks) :: Ex.nodesL (ks.take i) (d + 1) ++ done2) (yd, yx) (rest2 ++ (Ex.nodesL (ks.drop (i + 1)) (d + 1) ++ rest)) _ (exI b55 (exHead yx a4 cap4) :: It.obj L2 (.loop { rr with state := .busy }) :: It.cells b3 (oneL L) 160 :: HN2) B3 w23 ?_ hI15 S23 ⟨_, rfl, hx2⟩).mono ?_
        · rw [htot, hnod, hnd, htot2]
          simp [List.append_assoc]
        rintro y w25 ⟨B4, S25, ⟨rfl, hI25⟩ | ⟨rfl, hJ⟩⟩
        · refine IFB_not (IFB_true (S25.endr0 1 hst hpe rfl fun w' S26 => ⟨_, ST.unmid [It.obj L2 (.loop rr), It.cells b3 (oneL L) 160] (S26.drop 1), .inl ⟨rfl, B4, rfl, ?_⟩⟩))
          rw [← List.append_assoc]
          exact hI25
        · exact IFB_not (IFB_false (S25.endr1 1 rfl fun w' S26 => ⟨_, ST.unmid [It.obj L2 (.loop { rr with state := .done, pending := some .ret }), It.cells b3 (oneL L) 160] (S26.drop 1), .inr ⟨rfl, B4, rfl, hJ⟩⟩))
      · rintro _ w26 ⟨_, rfl, B5, S26, ⟨B6, rfl, hI26⟩ | ⟨B6, rfl, hJ⟩⟩
        · refine ⟨⟨_, rfl⟩, ?_⟩
          have S27 := ST.mid [It.obj L2 (.loop rr), It.cells b3 (oneL L) 160] S26
          refine S27.endl0 0 hst hpe rfl fun w27 S28 => .inl ⟨rfl, ⟨i + 1, by rw [wrap_succ (by omega)], by omega, B6, ?_, ?_⟩, ?_⟩
          · have T1 := (S28.drop 1)
            have T2 := T1.pull 1 rfl
            have T3 := T2.pull 3 rfl
            have T4 := T3.pull 3 rfl
            have T5 := T4.pull 3 rfl
            have e : msI (m :: ms) ++ (HN ++ B6) = It.obj m (.deferred (some [])) :: ((msI ms ++ HN) ++ B6) := by rw [List.append_assoc]; rfl
            rw [e]
            exact T5
          · rw [hnt]
            simpa [List.append_assoc] using hI26
          · show ks.length - (IntKind.i64.wrap ((i : Int) + 1)).toNat < ks.length - ((i : Nat) : Int).toNat
            rw [wrap_succ (by omega)]
            simp only [Int.toNat_natCast]
            omega
        · refine ⟨⟨_, rfl⟩, ?_⟩
          have S27 := ST.mid [It.obj L2 (.loop { rr with state := .done, pending := some .ret }), It.cells b3 (oneL L) 160] S26
          refine S27.endl1 0 rfl fun w27 S28 => .inr ⟨rfl, S28.get 2 rfl, ?_⟩
          have S29 := (S28.put 2 rfl (.deferred none)).drop 5
          refine ST.shut (H := HN ++ B6) ?_ fun w' S30 => ⟨B6, S30, .inr hJ⟩
          simpa [List.append_assoc] using S29
    · refine ST.shut (H := HN ++ B2) (S5.drop 3) fun w' S6 => ⟨B2, S6, .inl ?_⟩
      have : i = ks.length := by rw [hks] at hge; omega
      rw [this, List.take_length] at hI5
      rw [hnod]
      exact hI5
theorem shape_at : ∀ n : Nat, 1 ≤ n → n < 17 → shapeCells[n * 3]? = some (.int .i64 (manyOf n))
  | 0, h, _ => by omega
  | 1, _, _ => rfl
  | 2, _, _ => rfl
  | 3, _, _ => rfl
  | 4, _, _ => rfl
  | 5, _, _ => rfl
  | 6, _, _ => rfl
  | 7, _, _ => rfl
  | 8, _, _ => rfl
  | 9, _, _ => rfl
  | 10, _, _ => rfl
  | 11, _, _ => rfl
  | 12, _, _ => rfl
  | 13, _, _ => rfl
  | 14, _, _ => rfl
  | 15, _, _ => rfl
  | 16, _, _ => rfl
  | n + 17, _, h => by omega
theorem formed_bad {x : Ex} {done rest : List (Nat × Ex)} {d : Nat} {y : Ex} (ht : x.nodes 1 = done ++ (d, y) :: rest) (h : (d ≤ 40 ∧ okN y = true) → 400 < done.length + 1) : x.formed = false := by
  rw [Bool.eq_false_iff, Ne, formed_nodes]
  rintro ⟨h1, h2⟩
  have := h (h1 (d, y) (by rw [ht]; simp))
  rw [ht] at h2
  simp at h2
  omega
theorem expr_formed_ok {w : World} (E : Env w) {x : Ex} {a : Option Addr} {cap : Nat} (hx : XC w x (exHead x a cap)) : Calls Tryz.prog f.expr_formed #[.agg ⟨exHead x a cap⟩] w (Ret fun r w' => r = .bool x.formed ∧ Below w.heap.size w w') := by
  apply R.expr_formed_calls
  unfold R.expr_formed
  simp only [bytesEq_iff]
  refine (ST.start w).newB fun b7 w1 _ _ S1 => S1.newB fun b8 w2 _ _ S2 => S2.newB fun b9 w3 _ _ S3 => S3.sto 0 rfl (cs' := #[.int .i64 0]) (by simp) rfl fun w4 S4 => ⟨_, S4.cell 2 rfl rfl, _, S4.cell 2 rfl rfl, _, S4.cell 2 rfl rfl, _, S4.cell 2 rfl rfl, _, S4.cell 2 rfl rfl, _, _, _, S4.cell 2 rfl rfl, (expr_nodes_ok (x := x) (a := a) (cap := cap) 1).mono ?_⟩
  rintro _ w5 ⟨_, rfl, bd, bx, rfl, P5⟩
  have S5 := S4.join P5
  refine ⟨_, _, _, rfl, by kernel_rfl, fun rr hst hpe hy => ?_⟩
  have S6 := S5.range rr
  obtain ⟨L, hL⟩ : ∃ L, L = w5.heap.size + 1 := ⟨_, rfl⟩
  obtain ⟨m, hm⟩ : ∃ m, m = w5.heap.size := ⟨_, rfl⟩
  rw [← hL] at S6 hy ⊢
  rw [← hm] at S6 ⊢
  have S7 := (((S6.pull 6 rfl).pull 2 rfl).pull 4 rfl).pull 4 rfl
  refine (nodes_c1_ok x 1 (by omega) L (x.nodes 1) (fun done B => B = [It.obj L (.loop rr), It.cells b9 #[.int .i64 (done.length : Int)] ty.int, It.cells b8 #[.bool false] ty.bool] ∧ (∀ p ∈ done, p.1 ≤ 40 ∧ okN p.2 = true) ∧ done.length ≤ 400)
    (fun B => ∃ n, B = [It.obj L (.loop { rr with state := .done, pending := some .ret }), It.cells b9 n ty.int, It.cells b8 #[.bool false] ty.bool] ∧ x.formed = false) ?_ a cap hx [] [] [It.obj m (.deferred (some [])), It.cells b7 ⟨exHead x a cap⟩ ty.api_Expr] _ _ bd bx (by simp) ⟨rfl, by simp, by simp⟩ S7).mono ?_
  · rintro done ⟨yd, yx⟩ rest vs HN _ w6 htot ⟨rfl, hall, hlen⟩ S ⟨cs2, rfl, hx2⟩
    change XC w yx cs2 at hx2
    obtain ⟨a4, cap4, _, rfl, _⟩ := ExC.open hx2
    have S := ST.mid (B := []) [It.obj L (.loop rr), It.cells b9 #[.int .i64 (done.length : Int)] ty.int, It.cells b8 #[.bool false] ty.bool] S
    refine hy _ _ _ _ _ _ _ _ _ _ w6 (S.get 0 rfl) ?_
    refine S.lit6 fun b26 w13 _ S => S.begr 1 rfl fun w14 S => ⟨_, S.cell 2 rfl rfl, S.sto 2 rfl (cs' := #[.int .i64 ((done.length + 1 : Nat) : Int)]) (by simp) (by rw [wrap_succ (by omega)]; rfl) fun w15 S => S.draw fun w16 _ S => ?_⟩
    have bad : ∀ w', ST w w' (exI b26 (exHead yx a4 cap4) :: It.obj L (.loop { rr with state := .busy }) :: It.cells b9 #[.int .i64 ((done.length + 1 : Nat) : Int)] ty.int :: It.cells b8 #[.bool false] ty.bool :: (HN ++ [])) → ((yd ≤ 40 ∧ okN yx = true) → 400 < done.length + 1) →
        STO ⟨b8, 0, none⟩ (.bool false) (fun w17 => ENDR rr L (fun y w' => ∃ B', ST w w' (HN ++ B') ∧ ((y = true ∧ B' = [It.obj L (.loop rr), It.cells b9 #[.int .i64 ((done ++ [(yd, yx)]).length : Int)] ty.int, It.cells b8 #[.bool false] ty.bool] ∧ (∀ p ∈ done ++ [(yd, yx)], p.1 ≤ 40 ∧ okN p.2 = true) ∧ (done ++ [(yd, yx)]).length ≤ 400) ∨
          (y = false ∧ ∃ n, B' = [It.obj L (.loop { rr with state := .done, pending := some .ret }), It.cells b9 n ty.int, It.cells b8 #[.bool false] ty.bool] ∧ x.formed = false))) (some .ret) w17) w' := fun w' S hb =>
      S.sto 3 rfl (cs' := #[.bool false]) (by simp) rfl fun w17 S => S.endr1 1 rfl fun w18 S => ⟨_, ST.unmid (B := []) [It.obj L (.loop { rr with state := .done, pending := some .ret }), It.cells b9 #[.int .i64 ((done.length + 1 : Nat) : Int)] ty.int, It.cells b8 #[.bool false] ty.bool] (S.drop 1), .inr ⟨rfl, _, rfl, formed_bad htot hb⟩⟩
    refine IFB_dec (fun h => bad _ S fun hh => by have := hh.1; omega) (fun h1 => ⟨_, S.cell 2 rfl rfl, IFB_dec (fun h => bad _ S fun hh => by omega) (fun h2 => ⟨_, S.cell 0 rfl rfl, IFB_dec (fun h => bad _ S fun hh => by have := okN_op hh.2; omega) (fun h3 => ⟨_, S.cell 0 rfl rfl, IFB_dec (fun h => bad _ S fun hh => by have := okN_op hh.2; omega) (fun h4 => ⟨_, _, _, S.cell 0 rfl rfl, _, S.cell 0 rfl rfl, ⟨by omega, by omega⟩, manyOf yx.op, ?_, ?_⟩)⟩)⟩)⟩)
    · obtain ⟨n, hn⟩ : ∃ n : Nat, yx.op = n := ⟨yx.op.toNat, by omega⟩
      have := (E.grown S.bel).shp (n * 3) _ (shape_at n (by omega) (by omega))
      obtain ⟨p, hp, hc⟩ := this
      cases hp
      rw [hn, Int.toNat_natCast]
      exact hc
    have good : ∀ w', ST w w' (exI b26 (exHead yx a4 cap4) :: It.obj L (.loop { rr with state := .busy }) :: It.cells b9 #[.int .i64 ((done.length + 1 : Nat) : Int)] ty.int :: It.cells b8 #[.bool false] ty.bool :: (HN ++ [])) → okN yx = true →
        ENDR rr L (fun y w' => ∃ B', ST w w' (HN ++ B') ∧ ((y = true ∧ B' = [It.obj L (.loop rr), It.cells b9 #[.int .i64 ((done ++ [(yd, yx)]).length : Int)] ty.int, It.cells b8 #[.bool false] ty.bool] ∧ (∀ p ∈ done ++ [(yd, yx)], p.1 ≤ 40 ∧ okN p.2 = true) ∧ (done ++ [(yd, yx)]).length ≤ 400) ∨
          (y = false ∧ ∃ n, B' = [It.obj L (.loop { rr with state := .done, pending := some .ret }), It.cells b9 n ty.int, It.cells b8 #[.bool false] ty.bool] ∧ x.formed = false))) none w' := fun w' S hb =>
      S.endr0 1 hst hpe rfl fun w18 S => ⟨_, ST.unmid (B := []) [It.obj L (.loop rr), It.cells b9 #[.int .i64 ((done.length + 1 : Nat) : Int)] ty.int, It.cells b8 #[.bool false] ty.bool] (S.drop 1), .inl ⟨rfl, by simp, by
        intro p hp
        rcases List.mem_append.1 hp with hp | hp
        · exact hall p hp
        · rw [List.mem_singleton.1 hp]; exact ⟨by omega, hb⟩, by simp; omega⟩⟩
    have last : ∀ w', ST w w' (exI b26 (exHead yx a4 cap4) :: It.obj L (.loop { rr with state := .busy }) :: It.cells b9 #[.int .i64 ((done.length + 1 : Nat) : Int)] ty.int :: It.cells b8 #[.bool false] ty.bool :: (HN ++ [])) → (okN yx = rightB yx.v) → ∃ t600, w'.cell? ⟨b26, 2, none⟩ = some (.int .i64 t600) ∧ ∃ t601, w'.cell? ⟨b26, 3, none⟩ = some (.int .i64 t601) ∧ ∃ t602, w'.cell? ⟨b26, 4, none⟩ = some (.string t602) ∧
        Calls Tryz.prog f.value_Right #[.agg #[.int .i64 t600, .int .i64 t601, .string t602]] w' (fun e w24 => ∃ t61 : Bool, e = .returned (.bool t61) ∧ IFB (!t61) (STO ⟨b8, 0, none⟩ (.bool false) (fun w17 => ENDR rr L (fun y w' => ∃ B', ST w w' (HN ++ B') ∧ ((y = true ∧ B' = [It.obj L (.loop rr), It.cells b9 #[.int .i64 ((done ++ [(yd, yx)]).length : Int)] ty.int, It.cells b8 #[.bool false] ty.bool] ∧ (∀ p ∈ done ++ [(yd, yx)], p.1 ≤ 40 ∧ okN p.2 = true) ∧ (done ++ [(yd, yx)]).length ≤ 400) ∨
          (y = false ∧ ∃ n, B' = [It.obj L (.loop { rr with state := .done, pending := some .ret }), It.cells b9 n ty.int, It.cells b8 #[.bool false] ty.bool] ∧ x.formed = false))) (some .ret) w17) w24) (ENDR rr L (fun y w' => ∃ B', ST w w' (HN ++ B') ∧ ((y = true ∧ B' = [It.obj L (.loop rr), It.cells b9 #[.int .i64 ((done ++ [(yd, yx)]).length : Int)] ty.int, It.cells b8 #[.bool false] ty.bool] ∧ (∀ p ∈ done ++ [(yd, yx)], p.1 ≤ 40 ∧ okN p.2 = true) ∧ (done ++ [(yd, yx)]).length ≤ 400) ∨
          (y = false ∧ ∃ n, B' = [It.obj L (.loop { rr with state := .done, pending := some .ret }), It.cells b9 n ty.int, It.cells b8 #[.bool false] ty.bool] ∧ x.formed = false))) none w24)) := by
      intro w' S ho
      refine ⟨_, S.cell 0 rfl rfl, _, S.cell 0 rfl rfl, _, S.cell 0 rfl rfl, (value_Right_ok w' yx.v).mono ?_⟩
      rintro _ w24 ⟨_, rfl, rfl, B24⟩
      have S := S.grown B24
      refine ⟨_, rfl, IFB_not (IFB_of (fun hr => good _ S (by rw [ho]; exact hr)) (fun hr => bad _ S fun hh => by rw [ho, hr] at hh; cases hh.2))⟩
    refine IFB_ne (fun h => bad _ S fun hh => by have := (okN_iff.1 hh.2).1; omega) (fun h5 => ⟨_, S.cell 0 rfl rfl, ?_⟩)
    have hv0 : ∀ {b : Bool}, ((yx.v.1 == 0) && ((yx.v.2.1 == 0) && ((yx.v.2.2 == ⟨#[]⟩) && true))) = b → (b = true ↔ yx.v = V0) := by
      rintro b rfl
      obtain ⟨k, n, s⟩ := yx.v
      simp only [beq_str, Bool.and_true, Bool.and_eq_true, beq_iff_eq, decide_eq_true_eq, Prod.mk.injEq]
    have hok : okN yx = ((decide (yx.op = 1) || decide (yx.nm = E0)) && (decide (yx.op = 2) || decide (yx.v = V0)) && rightB yx.v) := by
      simp only [okN, h5, decide_true, Bool.true_and]
    refine IFB_ne (fun hn1 => ⟨_, S.cell 0 rfl rfl, IFB_not (IFB_dec (fun e1 => ⟨_, S.cell 0 rfl rfl, IFB_ne (fun hn2 => ⟨_, S.cell 0 rfl rfl, _, S.cell 0 rfl rfl, _, S.cell 0 rfl rfl, IFB_not (IFB_of (fun e2 => last _ S ?_) (fun e2 => bad _ S fun hh => ?_))⟩) (fun h2' => last _ S ?_)⟩) (fun e1 => bad _ S fun hh => ?_))⟩) (fun he1 => ⟨_, S.cell 0 rfl rfl, IFB_ne (fun hn2 => ⟨_, S.cell 0 rfl rfl, _, S.cell 0 rfl rfl, _, S.cell 0 rfl rfl, IFB_not (IFB_of (fun e2 => last _ S ?_) (fun e2 => bad _ S fun hh => ?_))⟩) (fun h2' => last _ S ?_)⟩)
    · have := (hv0 rfl).1 e2; simp [hok, e1, this]
    · have := hh.2; rw [hok] at this; have h9 := mt (hv0 rfl).2 (by rw [e2]; decide); simp [hn2, h9] at this
    · simp [hok, e1, h2']
    · have := hh.2; rw [hok] at this; simp [hn1, e1] at this
    · have := (hv0 rfl).1 e2; simp [hok, he1, this]
    · have := hh.2; rw [hok] at this; have h9 := mt (hv0 rfl).2 (by rw [e2]; decide); simp [hn2, h9] at this
    · omega
  · rintro _ w26 ⟨_, rfl, B5, S26, ⟨rfl, hall, hlen⟩ | ⟨n, rfl, hf⟩⟩
    · refine ⟨⟨_, rfl⟩, ?_⟩
      have S27 := ST.mid (B := []) [It.obj L (.loop rr), It.cells b9 _ ty.int, It.cells b8 #[.bool false] ty.bool] S26
      refine S27.endl0 0 hst hpe rfl fun w27 S => .inl ⟨rfl, S.sto 2 rfl (cs' := #[.bool true]) (by simp) rfl fun w28 S => ⟨S.get 3 rfl, ?_⟩⟩
      have S := S.put 3 rfl (.deferred none)
      refine ⟨_, S.cell 2 rfl rfl, ?_, S.bel⟩
      rw [(formed_nodes x).2 ⟨by simpa using hall, by simpa using hlen⟩]
    · refine ⟨⟨_, rfl⟩, ?_⟩
      have S27 := ST.mid (B := []) [It.obj L (.loop { rr with state := .done, pending := some .ret }), It.cells b9 n ty.int, It.cells b8 #[.bool false] ty.bool] S26
      refine S27.endl1 0 rfl fun w27 S => .inr ⟨rfl, S.get 3 rfl, ?_⟩
      have S := S.put 3 rfl (.deferred none)
      refine ⟨_, S.cell 2 rfl rfl, ?_, S.bel⟩
      rw [hf]
def idxV (o : Option Nat) : Int := match o with | none => -1 | some i => i
theorem rows_at {α : Type} {C : α → List Value → Prop} {n : Nat} (hn : ∀ x c, C x c → c.length = n) (h0 : 0 < n) {w : World} {a : Option Addr} {rs : List Value} {l : List α} (hr : Rd w a rs) (hC : RowsC C l rs) {i : Nat} (hi : i < l.length) :
    ∃ p c, a = some p ∧ C l[i] c ∧ ∀ j v, c[j]? = some v → w.cell? ((p.add (i * n)).add j) = some v := by
  have h := hC.get hn i hi
  have hl := hn _ _ h
  obtain ⟨v0, hv0⟩ : ∃ v, ((rs.drop (i * n)).take n)[0]? = some v := ⟨_, List.getElem?_eq_getElem (by omega)⟩
  have get : ∀ j v, ((rs.drop (i * n)).take n)[j]? = some v → rs[i * n + j]? = some v := by
    intro j v hj
    rw [List.getElem?_take] at hj
    split at hj
    · rw [List.getElem?_drop] at hj; exact hj
    · cases hj
  obtain ⟨p, rfl, _⟩ := hr (i * n + 0) _ (get 0 _ hv0)
  refine ⟨p, _, rfl, h, fun j v hj => ?_⟩
  obtain ⟨q, hq, hc⟩ := hr (i * n + j) v (get j v hj)
  cases hq
  rwa [addr_add_add]
theorem findIdx_at {α : Type} {p : α → Bool} {l : List α} {i : Nat} (hi : i < l.length) (h : ∀ x ∈ l.take i, p x = false) (hp : p l[i] = true) : l.findIdx? p = some i := by
  rw [List.findIdx?_eq_some_iff_getElem]
  exact ⟨hi, hp, fun j hj => by rw [h l[j] (List.mem_take_iff_getElem.2 ⟨j, by omega, rfl⟩)]; decide⟩
theorem findIdx_none {α : Type} {p : α → Bool} {l : List α} (h : ∀ x ∈ l, p x = false) : l.findIdx? p = none := List.findIdx?_eq_none_iff.2 h
theorem any_findIdx {α : Type} (p : α → Bool) (l : List α) : l.any p = decide (idxV (l.findIdx? p) ≥ 0) := by
  cases h : l.findIdx? p with
  | none =>
    have := List.findIdx?_eq_none_iff.1 h
    rw [Bool.eq_iff_iff, List.any_eq_true, decide_eq_true_eq]
    show _ ↔ (-1 : Int) ≥ 0
    constructor
    · rintro ⟨x, hx, hp⟩; rw [this x hx] at hp; cases hp
    · intro h; omega
  | some i =>
    obtain ⟨hi, hp, _⟩ := List.findIdx?_eq_some_iff_getElem.1 h
    rw [Bool.eq_iff_iff, List.any_eq_true, decide_eq_true_eq]
    show _ ↔ ((i : Nat) : Int) ≥ 0
    exact ⟨fun _ => by omega, fun _ => ⟨_, List.getElem_mem hi, hp⟩⟩
theorem idx_api_Column_ok {w : World} {a : Option Addr} {c0 : Nat} {rs : List Value} {l : List Col} (hl : Rd w a rs) (hC : RowsC (fun x c => c = colC x) l rs) (hn : l.length ≤ 9223372036854775807) {fn : FuncId} {fi ca : Array Value} (hen : enters Tryz.prog fn = true) (p : Col → Bool) (hf : ∀ w' x c, Below w.heap.size w w' → x ∈ l → (fun x c => c = colC x) x c → Calls Tryz.prog fn ⟨fi.toList ++ [.agg ⟨c⟩] ++ ca.toList⟩ w' (Ret fun r w'' => r = .bool (p x) ∧ Below w'.heap.size w' w'')) :
    Calls Tryz.prog f.slices_IndexFunc_api_Column_api_Column #[.slice a l.length c0, .func (.func fn) fi ca] w (Ret fun r w' => r = .int .i64 (idxV (l.findIdx? p)) ∧ Below w.heap.size w w') := by
  apply R.slices_IndexFunc_api_Column_api_Column_calls
  unfold R.slices_IndexFunc_api_Column_api_Column
  refine ⟨fun st w1 => ∃ i : Nat, st = [.int .i64 (i : Int)] ∧ i ≤ l.length ∧ (∀ x ∈ l.take i, p x = false) ∧ Below w.heap.size w w1, fun st _ => match st with | [.int _ t] => l.length - t.toNat | _ => 0, ⟨0, rfl, by omega, by simp, .refl _ _⟩, ?_⟩
  rintro t w1 ⟨i, hst, hi, hall, B1⟩
  cases hst
  refine IFB_dec (fun hlt => ⟨⟨by omega, hlt⟩, ?_⟩) (fun hge => ⟨?_, B1⟩)
  · have hil : i < l.length := by omega
    obtain ⟨q, c, rfl, hc, cell⟩ := rows_at (n := 3) (fun x c h => by rw [h]; rfl) (by decide) (hl.grown B1) hC hil
    have hcc := hc
    have hc1 : c = colC l[i] := hc
    subst hc1
    refine ⟨_, by rw [Int.toNat_natCast]; exact cell 0 _ rfl, _, by rw [Int.toNat_natCast]; exact cell 1 _ rfl, _, by rw [Int.toNat_natCast]; exact cell 2 _ rfl, ?_⟩
    rw [hen]
    refine (hf w1 _ _ B1 (List.getElem_mem hil) hcc).mono ?_
    rintro _ w2 ⟨_, rfl, rfl, B2⟩
    refine ⟨_, rfl, IFB_of (fun h => ⟨by rw [findIdx_at hil hall h]; rfl, below_trans B1 B2⟩) (fun h => ?_)⟩
    rw [wrap_succ (by omega)]
    refine ⟨⟨i + 1, rfl, by omega, fun x hx => ?_, below_trans B1 B2⟩, ?_⟩
    · rw [List.take_succ_eq_append_getElem hil] at hx
      rcases List.mem_append.1 hx with hx | hx
      · exact hall x hx
      · rw [List.mem_singleton.1 hx]; exact h
    · show l.length - ((i + 1 : Nat) : Int).toNat < l.length - ((i : Nat) : Int).toNat
      simp only [Int.toNat_natCast]
      omega
  · rw [List.take_of_length_le (by omega)] at hall
    rw [findIdx_none hall]
    rfl
theorem idx_api_Item_ok {w0 : World} {w : World} {a : Option Addr} {c0 : Nat} {rs : List Value} {l : List Itm} (hl : Rd w a rs) (hC : RowsC (ItC (fun _ => False) w0) l rs) (hn : l.length ≤ 9223372036854775807) {fn : FuncId} {fi ca : Array Value} (hen : enters Tryz.prog fn = true) (p : Itm → Bool) (hf : ∀ w' x c, Below w.heap.size w w' → x ∈ l → (ItC (fun _ => False) w0) x c → Calls Tryz.prog fn ⟨fi.toList ++ [.agg ⟨c⟩] ++ ca.toList⟩ w' (Ret fun r w'' => r = .bool (p x) ∧ Below w'.heap.size w' w'')) :
    Calls Tryz.prog f.slices_IndexFunc_api_Item_api_Item #[.slice a l.length c0, .func (.func fn) fi ca] w (Ret fun r w' => r = .int .i64 (idxV (l.findIdx? p)) ∧ Below w.heap.size w w') := by
  apply R.slices_IndexFunc_api_Item_api_Item_calls
  unfold R.slices_IndexFunc_api_Item_api_Item
  refine ⟨fun st w1 => ∃ i : Nat, st = [.int .i64 (i : Int)] ∧ i ≤ l.length ∧ (∀ x ∈ l.take i, p x = false) ∧ Below w.heap.size w w1, fun st _ => match st with | [.int _ t] => l.length - t.toNat | _ => 0, ⟨0, rfl, by omega, by simp, .refl _ _⟩, ?_⟩
  rintro t w1 ⟨i, hst, hi, hall, B1⟩
  cases hst
  refine IFB_dec (fun hlt => ⟨⟨by omega, hlt⟩, ?_⟩) (fun hge => ⟨?_, B1⟩)
  · have hil : i < l.length := by omega
    obtain ⟨q, c, rfl, hc, cell⟩ := rows_at (n := 8) (fun x c h => ItC.len h) (by decide) (hl.grown B1) hC hil
    have hcc := hc
    obtain ⟨ce, rfl, hx, hy⟩ := id hc
    obtain ⟨a9, cap9, _, rfl, _⟩ := ExC.open hx
    refine ⟨_, by rw [Int.toNat_natCast]; exact cell 0 _ rfl, _, by rw [Int.toNat_natCast]; exact cell 1 _ rfl, _, by rw [Int.toNat_natCast]; exact cell 2 _ rfl, _, by rw [Int.toNat_natCast]; exact cell 3 _ rfl, _, by rw [Int.toNat_natCast]; exact cell 4 _ rfl, _, by rw [Int.toNat_natCast]; exact cell 5 _ rfl, _, by rw [Int.toNat_natCast]; exact cell 6 _ rfl, _, _, _, by rw [Int.toNat_natCast]; exact cell 7 _ rfl, ?_⟩
    rw [hen]
    refine (hf w1 _ _ B1 (List.getElem_mem hil) hcc).mono ?_
    rintro _ w2 ⟨_, rfl, rfl, B2⟩
    refine ⟨_, rfl, IFB_of (fun h => ⟨by rw [findIdx_at hil hall h]; rfl, below_trans B1 B2⟩) (fun h => ?_)⟩
    rw [wrap_succ (by omega)]
    refine ⟨⟨i + 1, rfl, by omega, fun x hx => ?_, below_trans B1 B2⟩, ?_⟩
    · rw [List.take_succ_eq_append_getElem hil] at hx
      rcases List.mem_append.1 hx with hx | hx
      · exact hall x hx
      · rw [List.mem_singleton.1 hx]; exact h
    · show l.length - ((i + 1 : Nat) : Int).toNat < l.length - ((i : Nat) : Int).toNat
      simp only [Int.toNat_natCast]
      omega
  · rw [List.take_of_length_le (by omega)] at hall
    rw [findIdx_none hall]
    rfl
theorem idx_api_Key_ok {w : World} {a : Option Addr} {c0 : Nat} {rs : List Value} {l : List (Int × Bool)} (hl : Rd w a rs) (hC : RowsC (keyC) l rs) (hn : l.length ≤ 9223372036854775807) {fn : FuncId} {fi ca : Array Value} (hen : enters Tryz.prog fn = true) (p : (Int × Bool) → Bool) (hf : ∀ w' x c, Below w.heap.size w w' → x ∈ l → (keyC) x c → Calls Tryz.prog fn ⟨fi.toList ++ [.agg ⟨c⟩] ++ ca.toList⟩ w' (Ret fun r w'' => r = .bool (p x) ∧ Below w'.heap.size w' w'')) :
    Calls Tryz.prog f.slices_IndexFunc_api_Key_api_Key #[.slice a l.length c0, .func (.func fn) fi ca] w (Ret fun r w' => r = .int .i64 (idxV (l.findIdx? p)) ∧ Below w.heap.size w w') := by
  apply R.slices_IndexFunc_api_Key_api_Key_calls
  unfold R.slices_IndexFunc_api_Key_api_Key
  refine ⟨fun st w1 => ∃ i : Nat, st = [.int .i64 (i : Int)] ∧ i ≤ l.length ∧ (∀ x ∈ l.take i, p x = false) ∧ Below w.heap.size w w1, fun st _ => match st with | [.int _ t] => l.length - t.toNat | _ => 0, ⟨0, rfl, by omega, by simp, .refl _ _⟩, ?_⟩
  rintro t w1 ⟨i, hst, hi, hall, B1⟩
  cases hst
  refine IFB_dec (fun hlt => ⟨⟨by omega, hlt⟩, ?_⟩) (fun hge => ⟨?_, B1⟩)
  · have hil : i < l.length := by omega
    obtain ⟨q, c, rfl, hc, cell⟩ := rows_at (n := 2) (fun x c h => keyC_len h) (by decide) (hl.grown B1) hC hil
    have hcc := hc
    obtain rfl := hc.1
    refine ⟨_, by rw [Int.toNat_natCast]; exact cell 0 _ rfl, _, by rw [Int.toNat_natCast]; exact cell 1 _ rfl, ?_⟩
    rw [hen]
    refine (hf w1 _ _ B1 (List.getElem_mem hil) hcc).mono ?_
    rintro _ w2 ⟨_, rfl, rfl, B2⟩
    refine ⟨_, rfl, IFB_of (fun h => ⟨by rw [findIdx_at hil hall h]; rfl, below_trans B1 B2⟩) (fun h => ?_)⟩
    rw [wrap_succ (by omega)]
    refine ⟨⟨i + 1, rfl, by omega, fun x hx => ?_, below_trans B1 B2⟩, ?_⟩
    · rw [List.take_succ_eq_append_getElem hil] at hx
      rcases List.mem_append.1 hx with hx | hx
      · exact hall x hx
      · rw [List.mem_singleton.1 hx]; exact h
    · show l.length - ((i + 1 : Nat) : Int).toNat < l.length - ((i : Nat) : Int).toNat
      simp only [Int.toNat_natCast]
      omega
  · rw [List.take_of_length_le (by omega)] at hall
    rw [findIdx_none hall]
    rfl
theorem any_api_Key_ok {w : World} {a : Option Addr} {c0 : Nat} {rs : List Value} {l : List (Int × Bool)} (hl : Rd w a rs) (hC : RowsC (keyC) l rs) (hn : l.length ≤ 9223372036854775807) {fn : FuncId} {fi ca : Array Value} (hen : enters Tryz.prog fn = true) (p : (Int × Bool) → Bool) (hf : ∀ w' x c, Below w.heap.size w w' → x ∈ l → (keyC) x c → Calls Tryz.prog fn ⟨fi.toList ++ [.agg ⟨c⟩] ++ ca.toList⟩ w' (Ret fun r w'' => r = .bool (p x) ∧ Below w'.heap.size w' w'')) :
    Calls Tryz.prog f.slices_ContainsFunc_api_Key_api_Key #[.slice a l.length c0, .func (.func fn) fi ca] w (Ret fun r w' => r = .bool (l.any p) ∧ Below w.heap.size w w') := by
  apply R.slices_ContainsFunc_api_Key_api_Key_calls
  unfold R.slices_ContainsFunc_api_Key_api_Key
  refine (idx_api_Key_ok hl hC hn hen p hf).mono ?_
  rintro _ w1 ⟨_, rfl, rfl, B1⟩
  exact ⟨_, rfl, by rw [any_findIdx], B1⟩
theorem idx_string_ok {w : World} {a : Option Addr} {c0 : Nat} {rs : List Value} {l : List ByteArray} (hl : Rd w a rs) (hC : RowsC (fun x c => c = [.string x]) l rs) (hn : l.length ≤ 9223372036854775807) {fn : FuncId} {fi ca : Array Value} (hen : enters Tryz.prog fn = true) (p : ByteArray → Bool) (hf : ∀ w' x c, Below w.heap.size w w' → x ∈ l → (fun x c => c = [.string x]) x c → Calls Tryz.prog fn ⟨fi.toList ++ [c.headD undef] ++ ca.toList⟩ w' (Ret fun r w'' => r = .bool (p x) ∧ Below w'.heap.size w' w'')) :
    Calls Tryz.prog f.slices_IndexFunc_string_string #[.slice a l.length c0, .func (.func fn) fi ca] w (Ret fun r w' => r = .int .i64 (idxV (l.findIdx? p)) ∧ Below w.heap.size w w') := by
  apply R.slices_IndexFunc_string_string_calls
  unfold R.slices_IndexFunc_string_string
  refine ⟨fun st w1 => ∃ i : Nat, st = [.int .i64 (i : Int)] ∧ i ≤ l.length ∧ (∀ x ∈ l.take i, p x = false) ∧ Below w.heap.size w w1, fun st _ => match st with | [.int _ t] => l.length - t.toNat | _ => 0, ⟨0, rfl, by omega, by simp, .refl _ _⟩, ?_⟩
  rintro t w1 ⟨i, hst, hi, hall, B1⟩
  cases hst
  refine IFB_dec (fun hlt => ⟨⟨by omega, hlt⟩, ?_⟩) (fun hge => ⟨?_, B1⟩)
  · have hil : i < l.length := by omega
    obtain ⟨q, c, rfl, hc, cell⟩ := rows_at (n := 1) (fun x c h => by rw [h]; rfl) (by decide) (hl.grown B1) hC hil
    have hcc := hc
    have hc1 : c = [.string l[i]] := hc
    subst hc1
    refine ⟨_, by rw [Int.toNat_natCast]; exact cell 0 _ rfl, ?_⟩
    rw [hen]
    refine (hf w1 _ _ B1 (List.getElem_mem hil) hcc).mono ?_
    rintro _ w2 ⟨_, rfl, rfl, B2⟩
    refine ⟨_, rfl, IFB_of (fun h => ⟨by rw [findIdx_at hil hall h]; rfl, below_trans B1 B2⟩) (fun h => ?_)⟩
    rw [wrap_succ (by omega)]
    refine ⟨⟨i + 1, rfl, by omega, fun x hx => ?_, below_trans B1 B2⟩, ?_⟩
    · rw [List.take_succ_eq_append_getElem hil] at hx
      rcases List.mem_append.1 hx with hx | hx
      · exact hall x hx
      · rw [List.mem_singleton.1 hx]; exact h
    · show l.length - ((i + 1 : Nat) : Int).toNat < l.length - ((i : Nat) : Int).toNat
      simp only [Int.toNat_natCast]
      omega
  · rw [List.take_of_length_le (by omega)] at hall
    rw [findIdx_none hall]
    rfl
theorem any_string_ok {w : World} {a : Option Addr} {c0 : Nat} {rs : List Value} {l : List ByteArray} (hl : Rd w a rs) (hC : RowsC (fun x c => c = [.string x]) l rs) (hn : l.length ≤ 9223372036854775807) {fn : FuncId} {fi ca : Array Value} (hen : enters Tryz.prog fn = true) (p : ByteArray → Bool) (hf : ∀ w' x c, Below w.heap.size w w' → x ∈ l → (fun x c => c = [.string x]) x c → Calls Tryz.prog fn ⟨fi.toList ++ [c.headD undef] ++ ca.toList⟩ w' (Ret fun r w'' => r = .bool (p x) ∧ Below w'.heap.size w' w'')) :
    Calls Tryz.prog f.slices_ContainsFunc_string_string #[.slice a l.length c0, .func (.func fn) fi ca] w (Ret fun r w' => r = .bool (l.any p) ∧ Below w.heap.size w w') := by
  apply R.slices_ContainsFunc_string_string_calls
  unfold R.slices_ContainsFunc_string_string
  refine (idx_string_ok hl hC hn hen p hf).mono ?_
  rintro _ w1 ⟨_, rfl, rfl, B1⟩
  exact ⟨_, rfl, by rw [any_findIdx], B1⟩
end Go.Proofs.YtbpdfpfgijhokaaGreatDoor
namespace Go.Proofs.YtbpdfpfgijhokaaGreatDoor
set_option maxRecDepth 100000
open Go.Dn Go.Proofs
open Go.RowKit (Below)
set_option linter.unusedVariables false
/-! ### which columns are used -/
/-! ### kinds -/
theorem right_colOk {cs : List Col} (h : rightCols cs = true) {c : Col} (hc : c ∈ cs) : isNameB c.1 = true ∧ 1 ≤ c.2.1 ∧ c.2.1 ≤ 3 := by
  unfold rightCols at h
  simp only [Bool.and_eq_true, List.all_eq_true] at h
  have := h.1.2 c hc
  simp only [colOk, Bool.and_eq_true, decide_eq_true_eq] at this
  exact ⟨this.1, this.2⟩
/-! ### what a plan's columns are -/
theorem smallQ_iff {q : Qu} : smallQ q = true ↔ (1 ≤ q.it.length ∧ q.it.length ≤ 16 ∧ q.wh.length ≤ 1 ∧ q.gr.length ≤ 4 ∧ q.od.length ≤ 4 ∧ -1 ≤ q.lim ∧ q.lim ≤ 4096) ∧ (∀ i ∈ q.it, rightI i = true) ∧ (∀ x ∈ q.wh, rightX x = true) ∧ (∀ x ∈ q.gr, rightX x = true) ∧ ∀ k ∈ q.od, rightK q.it k.1 = true := by
  unfold smallQ
  simp only [Bool.and_eq_true, decide_eq_true_eq, List.all_eq_true, and_assoc]
/-! ### a column that is not used is taken away -/
section
variable {cs : List Col} {c : Nat}
end
/-! ### a query with its first item twice -/
end Go.Proofs.YtbpdfpfgijhokaaGreatDoor
namespace Go.Proofs.YtbpdfpfgijhokaaGreatDoor
set_option maxRecDepth 100000
open Go.Dn Go.Proofs
open Go.RowKit (Below)
set_option linter.unusedVariables false
/-! ### lists of numbers, of texts -/
def strsI (a : Option Addr) (c : Nat) (xs : List ByteArray) : It := It.row ty.string 1 a xs.length c (xs.map Value.string)
theorem tStrs : slT Tryz.prog ty.L_string = some (ty.string, 1, 16, .string ⟨#[]⟩) := by kernel_rfl
section
variable {w0 w : World} {H : List It} {a : Option Addr} {c : Nat}
theorem stAppS (S : ST w0 w H) (n : Nat) {xs : List ByteArray} (hn : H[n]? = some (strsI a c xs)) {b : Option Addr} {mm mc : Nat} {ys : List ByteArray} (hy : ys.length = mm) (hs : Rd w b (ys.map Value.string)) (hl : xs.length + mm ≤ 1000000) {f : Value → World → Prop}
    (hf : ∀ a' c' w', ST w0 w' (H.set n (strsI a' c' (xs ++ ys))) → f (.slice a' (xs ++ ys).length c') w') :
    OPR Tryz.prog (Builtin.append_ #[ty.L_string, ty.L_string] ty.L_string #[.slice a xs.length c, .slice b mm mc]) f w := by
  refine S.app n hn tStrs rfl (by omega) (by omega) hs (mm := mm) (by simp [hy]) (by intro u hu; obtain ⟨y, _, rfl⟩ := List.mem_map.1 hu; rfl) (by omega) fun a' c' w' S' => ?_
  have e1 : (xs ++ ys).length = xs.length + mm := by simp [hy]
  have e2 : xs.map Value.string ++ ys.map Value.string = (xs ++ ys).map Value.string := by simp
  rw [e2] at S'
  have := hf a' c' w' (by unfold strsI; rw [e1]; exact S')
  rwa [e1] at this
end
/-! ### a column of a name -/
section
variable {w : World} {a1 : Option Addr} {c1 : Nat} {cs : List Col}
/-! ### kinds -/
theorem addr_one (b i : Nat) : (⟨b, 0, none⟩ : Addr).add (((i : Nat) : Int).toNat * 1) = ⟨b, i, none⟩ := by rw [addr_add_blk, Int.toNat_natCast, Nat.mul_one, Nat.zero_add]
end
end Go.Proofs.YtbpdfpfgijhokaaGreatDoor
namespace Go.Proofs.YtbpdfpfgijhokaaGreatDoor
set_option maxRecDepth 100000
open Go.Dn Go.Proofs
open Go.RowKit (Below)
set_option linter.unusedVariables false
section
variable {w : World} {a1 : Option Addr} {c1 : Nat} {cs : List Col}
theorem formed_okA {x : Ex} (h : x.formed = true) : x.okA 40 = true := by
  simp only [Ex.formed, Bool.and_eq_true] at h
  exact h.1
end
end Go.Proofs.YtbpdfpfgijhokaaGreatDoor
namespace Go.Proofs.YtbpdfpfgijhokaaGreatDoor
set_option maxRecDepth 100000
open Go.Dn Go.Proofs
open Go.RowKit (Below)
open Go.Sort (putRow putCells Holds)
set_option linter.unusedVariables false
section
variable {α : Type} [Inhabited α]
theorem put_heap (enc : α → Value) (w : World) (g m : Nat) (d : Array α) (os : Array Obj) {k : Nat} (hk : k < w.heap.size) : (Go.Sort.grow (putRow enc (Go.Sort.ahead w m) g 0 d) os).heap[k]? = if g = k then (w.heap[k]?).map (Go.Sort.onCells (putCells enc 0 d)) else w.heap[k]? := by
  simp only [Go.Sort.grow, putRow, Go.Sort.mapBlock, Go.Sort.ahead]
  rw [Array.getElem?_append_left (by simpa using hk), Array.getElem?_modify]
theorem put_keeps (enc : α → Value) (w : World) (g m : Nat) (d : Array α) (os : Array Obj) : Keeps (fun k => some g = some k) w (Go.Sort.grow (putRow enc (Go.Sort.ahead w m) g 0 d) os) where
  os := rfl
  tape := rfl
  output := rfl
  size := by simp [Go.Sort.grow, putRow, Go.Sort.mapBlock, Go.Sort.ahead]
  block := fun k hk hn => by rw [put_heap enc w g m d os hk, if_neg (fun e => hn (by rw [e]))]
theorem take_put (enc : α → Value) (cur : Array Value) (ts : List α) {k : Nat} (hk : k ≤ ts.length) (h : ts.length ≤ cur.size) : (putCells enc 0 ts.toArray cur).toList.take k = (ts.take k).map enc := by
  apply List.ext_getElem?
  intro j
  by_cases hj : j < k
  · have hj2 : j < ts.length := by omega
    rw [List.getElem?_take_of_lt hj, Array.getElem?_toList]
    simp [putCells, hj, hj2, show j < cur.size by omega]
  · rw [List.getElem?_take_eq_none (by omega), List.getElem?_eq_none (by simp; omega)]
theorem row_put (enc : α → Value) {w : World} {e : TypeId} {g n c m : Nat} {xs : List Value} {os : Array Obj} (ts : List α) {k : Nat} (hr : Row w e 1 (some ⟨g, 0, none⟩) n c xs) (ht : ts.length ≤ n) (hk : k ≤ ts.length) :
    Row (Go.Sort.grow (putRow enc (Go.Sort.ahead w m) g 0 ts.toArray) os) e 1 (some ⟨g, 0, none⟩) k c ((ts.take k).map enc) := by
  rcases hr.2 with ⟨h, _⟩ | ⟨g', cur, hg', hh, h1, h2, h3, h4⟩
  · cases h
  · cases hg'
    refine ⟨by simp; omega, .inr ⟨g, putCells enc 0 ts.toArray cur, rfl, ?_, by omega, h2, by simp [putCells, h3], ?_⟩⟩
    · rw [put_heap enc w g m _ os (Array.getElem?_eq_some_iff.1 hh).1, if_pos rfl, hh]
      rfl
    · rw [Nat.mul_one]
      exact take_put enc cur ts hk (by omega)
theorem holds_row (enc : α → Value) {w : World} {e : TypeId} {g n c : Nat} {ts : List α} (hr : Row w e 1 (some ⟨g, 0, none⟩) n c (ts.map enc)) : Holds enc w g 0 ts.toArray ∧ g < w.heap.size ∧ ts.length = n ∧ n ≤ c := by
  rcases hr.2 with ⟨h, _⟩ | ⟨g', cur, hg', hh, h1, h2, h3, h4⟩
  · cases h
  · cases hg'
    have hl : ts.length = n := by have := hr.1; simpa using this
    refine ⟨fun j hj => ?_, (Array.getElem?_eq_some_iff.1 hh).1, hl, h1⟩
    have hj' : j < ts.length := by simpa using hj
    refine ⟨?_, by simp [World.frozen?, hh]⟩
    have e1 : (cur.toList.take (n * 1))[j]? = (ts.map enc)[j]? := by rw [h4]
    rw [List.getElem?_take_of_lt (by omega)] at e1
    simp only [World.cell?, hh, Nat.zero_add, Option.isSome_none, Bool.false_eq_true, if_false]
    rw [← Array.getElem?_toList, e1]
    simp [hj']
end
theorem compact_up {α : Type} [Inhabited α] [DecidableEq α] (le : α → α → Prop) (tr : ∀ a b c, le a b → le b c → le a c) (an : ∀ a b, le a b → le b a → a = b) (d : Array α) (hs : ∀ i j, i < j → j < d.size → le d[i]! d[j]!) :
    ∀ m, m ≤ d.size → (Lib.compactUpTo d m).Pairwise (fun a b => le a b ∧ a ≠ b) ∧ (∀ x, x ∈ Lib.compactUpTo d m ↔ ∃ j, j < m ∧ d[j]! = x) ∧ (∀ x ∈ Lib.compactUpTo d m, 0 < m → x = d[m - 1]! ∨ le x d[m - 1]!) := by
  intro m
  induction m with
  | zero => intro _; simp [Lib.compactUpTo]
  | succ m ih =>
    intro hm
    obtain ⟨h1, h2, h3⟩ := ih (by omega)
    rw [Lib.compactUpTo_succ]
    have hprev : ∀ x, (∃ j, j < m ∧ d[j]! = x) → le x d[m]! := by
      rintro x ⟨j, hj, rfl⟩
      exact hs j m hj (by omega)
    by_cases hk : Lib.keeps d m = true
    · rw [if_pos hk]
      refine ⟨List.pairwise_append.2 ⟨h1, by simp, fun a ha b hb => ?_⟩, fun x => ?_, fun x hx _ => ?_⟩
      · rw [List.mem_singleton.1 hb]
        have ha' := (h2 a).1 ha
        refine ⟨hprev a ha', fun e => ?_⟩
        have hm0 : 0 < m := by obtain ⟨j, hj, _⟩ := ha'; omega
        have hne : d[m]! ≠ d[m - 1]! := by
          intro e2
          rw [Lib.keeps_neg hm0 e2] at hk
          cases hk
        have hle : le d[m - 1]! d[m]! := hs (m - 1) m (by omega) (by omega)
        rcases h3 a ha hm0 with h | h
        · exact hne (by rw [← e, h])
        · exact hne (by rw [e] at h; exact an _ _ h hle)
      · rw [List.mem_append, List.mem_singleton, h2]
        constructor
        · rintro (⟨j, hj, h⟩ | rfl)
          · exact ⟨j, by omega, h⟩
          · exact ⟨m, by omega, rfl⟩
        · rintro ⟨j, hj, h⟩
          rcases Nat.lt_or_ge j m with h' | h'
          · exact .inl ⟨j, h', h⟩
          · obtain rfl : j = m := by omega
            exact .inr h.symm
      · rw [Nat.add_sub_cancel]
        rcases List.mem_append.1 hx with hx | hx
        · exact .inr (hprev x ((h2 x).1 hx))
        · exact .inl (List.mem_singleton.1 hx)
    · rw [if_neg hk, List.append_nil]
      have hm0 : 0 < m := by
        apply Classical.byContradiction
        intro h0
        obtain rfl : m = 0 := by omega
        exact hk (Lib.keeps_lt_one d 0 (by omega))
      have he : d[m]! = d[m - 1]! := by
        apply Classical.byContradiction
        intro h
        exact hk (Lib.keeps_pos h)
      refine ⟨h1, fun x => ?_, fun x hx _ => ?_⟩
      · rw [h2]
        constructor
        · rintro ⟨j, hj, h⟩; exact ⟨j, by omega, h⟩
        · rintro ⟨j, hj, h⟩
          rcases Nat.lt_or_ge j m with h' | h'
          · exact ⟨j, h', h⟩
          · obtain rfl : j = m := by omega
            exact ⟨j - 1, by omega, by rw [← he]; exact h⟩
      · rw [Nat.add_sub_cancel, he]
        exact h3 x hx hm0
theorem compact_sorted {α : Type} [Inhabited α] [DecidableEq α] (le : α → α → Prop) (tr : ∀ a b c, le a b → le b c → le a c) (an : ∀ a b, le a b → le b a → a = b) (l : List α) (hs : l.Pairwise le) :
    (Lib.compact l).Pairwise (fun a b => le a b ∧ a ≠ b) ∧ ∀ x, x ∈ Lib.compact l ↔ x ∈ l := by
  have hg : ∀ i (hi : i < l.length), l.toArray[i]! = l[i] := fun i hi => by simp [hi]
  obtain ⟨h1, h2, _⟩ := compact_up le tr an l.toArray (fun i j hij hj => by
    have hj' : j < l.length := by simpa using hj
    rw [hg i (by omega), hg j hj']
    exact List.pairwise_iff_getElem.1 hs i j (by omega) hj' hij) l.length (by simp)
  refine ⟨h1, fun x => ?_⟩
  unfold Lib.compact
  rw [h2, List.mem_iff_getElem]
  constructor
  · rintro ⟨j, hj, h⟩; exact ⟨j, hj, by rw [← hg j hj]; exact h⟩
  · rintro ⟨j, hj, h⟩; exact ⟨j, hj, by rw [hg j hj]; exact h⟩
theorem grow_nil (w : World) : Go.Sort.grow w #[] = w := by cases w; simp [Go.Sort.grow]
theorem set_self {α : Type} {H : List α} {n : Nat} {x : α} (hn : H[n]? = some x) : H.set n x = H := by
  obtain ⟨h, rfl⟩ := List.getElem?_eq_some_iff.1 hn
  exact List.set_getElem_self h
theorem str_enc (xs : List ByteArray) : xs.map Value.string = (xs.map bl).map encStr := by
  rw [List.map_map]
  rfl
theorem sof_list (ts : List (List UInt8)) : (ts.map sof).map bl = ts := by
  rw [List.map_map]
  have : (bl ∘ sof) = id := by funext x; exact bl_sof x
  rw [this, List.map_id]
section
variable {w0 w : World} {H : List It} {a : Option Addr} {c : Nat}
theorem sortS_ok (S : ST w0 w H) (n : Nat) {xs : List ByteArray} (hn : H[n]? = some (strsI a c xs)) (hl : xs.length ≤ 1000000) : Calls Tryz.prog f.slices_Sort_string_string #[.slice a xs.length c] w (Ret fun v w' => v = .tuple #[] ∧ ∃ ys : List ByteArray, ys.length = xs.length ∧ ys.map bl = (xs.map bl).mergeSort (fun x y => decide (x ≤ y)) ∧
    ST w0 w' (H.set n (strsI a c ys))) := by
  have hR : Row w ty.string 1 a xs.length c (xs.map Value.string) := S.get n hn
  have hset : H.set n (strsI a c xs) = H := set_self hn
  have hnone : xs = [] → Calls Tryz.prog f.slices_Sort_string_string #[.slice a xs.length c] w (Ret fun v w' => v = .tuple #[] ∧ ∃ ys : List ByteArray, ys.length = xs.length ∧ ys.map bl = (xs.map bl).mergeSort (fun x y => decide (x ≤ y)) ∧ ST w0 w' (H.set n (strsI a c ys))) := by
    rintro rfl
    refine (Tryz.slices_Sort_string_none a c w).mono ?_
    rintro _ w' ⟨rfl, rfl⟩
    exact ⟨_, rfl, rfl, [], rfl, by simp, by rw [hset]; exact S⟩
  rcases a with _ | ⟨g, o, idx⟩
  · refine hnone ?_
    rcases hR.2 with ⟨_, h, _⟩ | ⟨_, _, h, _⟩
    · exact List.eq_nil_of_length_eq_zero h
    · cases h
  · have hgo : o = 0 ∧ idx = none := by
      rcases hR.2 with ⟨h, _⟩ | ⟨_, _, h, _⟩
      · cases h
      · cases h; exact ⟨rfl, rfl⟩
    obtain ⟨rfl, rfl⟩ := hgo
    have hR' := hR
    rw [str_enc] at hR
    obtain ⟨hH, hg, hlen, hcap⟩ := holds_row encStr hR
    have hll : (xs.map bl).length = xs.length := by simp
    have hcall := Tryz.slices_Sort_string g 0 c (xs.map bl) w hH hg (by rw [hll]; omega)
    rw [hll] at hcall
    refine hcall.mono ?_
    rintro _ w' ⟨rfl, m, os, rfl⟩
    have hml : ((xs.map bl).mergeSort fun x y => decide (x ≤ y)).length = xs.length := by rw [List.length_mergeSort, hll]
    have hys : (((xs.map bl).mergeSort fun x y => decide (x ≤ y)).map sof).length = xs.length := by rw [List.length_map, hml]
    refine ⟨_, rfl, rfl, ((xs.map bl).mergeSort fun x y => decide (x ≤ y)).map sof, hys, sof_list _, ?_⟩
    refine S.chg n hn (put_keeps encStr w g m _ os) _ ?_ (fun k hk => .inl hk)
    show Row _ ty.string 1 _ _ c _
    have := row_put encStr (m := m) (os := os) ((xs.map bl).mergeSort fun x y => decide (x ≤ y)) (k := xs.length) hR (by omega) (by omega)
    rw [List.take_of_length_le (by omega)] at this
    rw [hys, str_enc, sof_list]
    exact this
theorem compactS_ok (S : ST w0 w H) (n : Nat) {xs : List ByteArray} (hn : H[n]? = some (strsI a c xs)) (hl : xs.length ≤ 1000000) : Calls Tryz.prog f.slices_Compact_string_string #[.slice a xs.length c] w (Ret fun v w' => ∃ ys : List ByteArray, v = .slice a ys.length c ∧ ys.length ≤ xs.length ∧ ys.map bl = Lib.compact (xs.map bl) ∧
    ST w0 w' (H.set n (strsI a c ys))) := by
  have hR : Row w ty.string 1 a xs.length c (xs.map Value.string) := S.get n hn
  have hset : H.set n (strsI a c xs) = H := set_self hn
  have hnone : xs = [] → Calls Tryz.prog f.slices_Compact_string_string #[.slice a xs.length c] w (Ret fun v w' => ∃ ys : List ByteArray, v = .slice a ys.length c ∧ ys.length ≤ xs.length ∧ ys.map bl = Lib.compact (xs.map bl) ∧ ST w0 w' (H.set n (strsI a c ys))) := by
    rintro rfl
    refine (Tryz.slices_Compact_string_empty a c w).mono ?_
    rintro _ w' ⟨rfl, rfl⟩
    exact ⟨_, rfl, [], rfl, by simp, by rfl, by rw [hset]; exact S⟩
  rcases a with _ | ⟨g, o, idx⟩
  · refine hnone ?_
    rcases hR.2 with ⟨_, h, _⟩ | ⟨_, _, h, _⟩
    · exact List.eq_nil_of_length_eq_zero h
    · cases h
  · have hgo : o = 0 ∧ idx = none := by
      rcases hR.2 with ⟨h, _⟩ | ⟨_, _, h, _⟩
      · cases h
      · cases h; exact ⟨rfl, rfl⟩
    obtain ⟨rfl, rfl⟩ := hgo
    rw [str_enc] at hR
    obtain ⟨hH, hg, hlen, hcap⟩ := holds_row encStr hR
    have hll : (xs.map bl).length = xs.length := by simp
    have hcall := Tryz.slices_Compact_string g 0 c (xs.map bl) w hH (by rw [hll]; omega) (by omega)
    rw [hll] at hcall
    refine hcall.mono ?_
    rintro _ w' ⟨rfl, m, rfl⟩
    have hcl : (Lib.compact (xs.map bl)).length ≤ xs.length := by
      have := List.length_filter_le (Lib.keeps (xs.map bl).toArray) (List.range (xs.map bl).length)
      unfold Lib.compact Lib.compactUpTo
      rw [List.length_map]
      rw [List.length_range] at this
      rw [hll] at this ⊢
      exact this
    have hys : ((Lib.compact (xs.map bl)).map sof).length = (Lib.compact (xs.map bl)).length := by rw [List.length_map]
    refine ⟨_, rfl, (Lib.compact (xs.map bl)).map sof, by rw [hys], by omega, sof_list _, ?_⟩
    have ew : putRow encStr (Go.Sort.ahead w m) g 0 (Lib.compact (xs.map bl) ++ List.replicate (xs.length - (Lib.compact (xs.map bl)).length) []).toArray = Go.Sort.grow (putRow encStr (Go.Sort.ahead w m) g 0 (Lib.compact (xs.map bl) ++ List.replicate (xs.length - (Lib.compact (xs.map bl)).length) []).toArray) #[] := (grow_nil _).symm
    rw [ew]
    refine S.chg n hn (put_keeps encStr w g m _ #[]) _ ?_ (fun k hk => .inl hk)
    show Row _ ty.string 1 _ _ c _
    have := row_put encStr (m := m) (os := #[]) (Lib.compact (xs.map bl) ++ List.replicate (xs.length - (Lib.compact (xs.map bl)).length) []) (k := (Lib.compact (xs.map bl)).length) hR (by simp; omega) (by simp)
    rw [List.take_left'  rfl] at this
    rw [hys, str_enc, sof_list]
    exact this
end
theorem le_str {a b : List UInt8} (h : a ≤ b ∧ a ≠ b) : a < b := by
  rcases Decidable.em (a < b) with h' | h'
  · exact h'
  · exact absurd (List.le_antisymm h.1 (List.not_lt.1 h')) h.2
theorem rise_compact (l : List (List UInt8)) : IsRise l (Lib.compact (l.mergeSort fun x y => decide (x ≤ y))) := by
  have tr : ∀ a b c : List UInt8, decide (a ≤ b) = true → decide (b ≤ c) = true → decide (a ≤ c) = true := fun a b c h1 h2 => by simp only [decide_eq_true_eq] at *; exact List.le_trans h1 h2
  have tot : ∀ a b : List UInt8, (decide (a ≤ b) || decide (b ≤ a)) = true := fun a b => by simp only [Bool.or_eq_true, decide_eq_true_eq]; exact List.le_total a b
  have hs := List.pairwise_mergeSort tr tot l
  have hp := List.mergeSort_perm l (fun x y => decide (x ≤ y))
  obtain ⟨h1, h2⟩ := compact_sorted (fun a b : List UInt8 => a ≤ b) (fun a b c h1 h2 => List.le_trans h1 h2) (fun a b h1 h2 => List.le_antisymm h1 h2) (l.mergeSort fun x y => decide (x ≤ y)) (hs.imp fun h => by simpa using h)
  exact ⟨h1.imp fun h => le_str h, fun x => (h2 x).trans hp.mem_iff⟩
end Go.Proofs.YtbpdfpfgijhokaaGreatDoor
namespace Go.Proofs.YtbpdfpfgijhokaaGreatDoor
set_option maxRecDepth 100000
open Go.Dn Go.Proofs
open Go.RowKit (Below)
set_option linter.unusedVariables false
theorem valEq (a b : Val) : ((a.1 == b.1) && ((a.2.1 == b.2.1) && ((a.2.2 == b.2.2) && true))) = decide (a = b) := by
  obtain ⟨k, n, s⟩ := a
  obtain ⟨k', n', s'⟩ := b
  rw [Bool.eq_iff_iff]
  simp only [beq_str, Bool.and_true, Bool.and_eq_true, beq_iff_eq, decide_eq_true_eq, Prod.mk.injEq]
theorem exHead_inj {F : Nat → Prop} {w : World} {x : Ex} {a : Option Addr} {cap : Nat} (hx : ExC F w x (exHead x a cap)) : ∃ rs, Rd w a rs ∧ ExL F w x.ks rs ∧ x.ks.length ≤ 9223372036854775807 := by
  obtain ⟨a2, cap2, rs, he, hrd, _, hcap, hmx, _, _, hkids⟩ := hx.open
  have hea : a2 = a ∧ cap2 = cap := by
    simp only [exHead, List.cons.injEq, Value.slice.injEq, and_true, true_and] at he
    exact ⟨he.1.symm, he.2.symm⟩
  obtain ⟨rfl, rfl⟩ := hea
  exact ⟨rs, hrd, hkids, Nat.le_trans hcap (Nat.le_trans hmx (by decide))⟩
theorem sameL_no {l m : List Ex} {i : Nat} (h1 : i < l.length) (h2 : i < m.length) (h : l[i].same m[i] = false) : Ex.sameL l m = false := by
  rw [Bool.eq_false_iff, Ne, sameL_iff]
  rintro rfl
  rw [(same_iff _ _).2 rfl] at h
  cases h
theorem sameL_yes {l m : List Ex} (hl : l.length = m.length) (h : ∀ i (h1 : i < l.length) (h2 : i < m.length), l[i].same m[i] = true) : Ex.sameL l m = true := by
  rw [sameL_iff]
  exact List.ext_getElem hl fun i h1 h2 => (same_iff _ _).1 (h i h1 h2)
theorem equalEx_ok (l1 : List Ex) (ih : ∀ x ∈ l1, ∀ (y : Ex) (w : World) (a : Option Addr) (cap : Nat) (a' : Option Addr) (cap' : Nat), XC w x (exHead x a cap) → XC w y (exHead y a' cap') →
      Calls Tryz.prog f.expr_same #[.agg ⟨exHead x a cap⟩, .agg ⟨exHead y a' cap'⟩] w (Ret fun r w' => r = .bool (x.same y) ∧ Below w.heap.size w w'))
    {w : World} {a1 a2 : Option Addr} {c1 c2 : Nat} {rs1 rs2 : List Value} {l2 : List Ex} (hr1 : Rd w a1 rs1) (hk1 : ExL (fun _ => False) w l1 rs1) (hn1 : l1.length ≤ 9223372036854775807) (hr2 : Rd w a2 rs2) (hk2 : ExL (fun _ => False) w l2 rs2) :
    Calls Tryz.prog f.slices_EqualFunc_api_Expr_api_Expr_api_Expr_api_Expr #[.slice a1 l1.length c1, .slice a2 l2.length c2, .func (.func f.expr_same) #[] #[]] w (Ret fun r w' => r = .bool (Ex.sameL l1 l2) ∧ Below w.heap.size w w') := by
  apply R.slices_EqualFunc_api_Expr_api_Expr_api_Expr_api_Expr_calls
  unfold R.slices_EqualFunc_api_Expr_api_Expr_api_Expr_api_Expr
  refine IFB_ne (fun h => ⟨by rw [Ex.same_len (by omega)], .refl _ _⟩) (fun hlen => ?_)
  have hlen' : l1.length = l2.length := by omega
  refine ⟨fun st w1 => ∃ i : Nat, st = [.int .i64 (i : Int)] ∧ i ≤ l1.length ∧ (∀ j (h1 : j < l1.length) (h2 : j < l2.length), j < i → l1[j].same l2[j] = true) ∧ Below w.heap.size w w1, fun st _ => match st with | [.int _ t] => l1.length - t.toNat | _ => 0, ⟨0, rfl, by omega, fun j _ _ h => by omega, .refl _ _⟩, ?_⟩
  rintro t w1 ⟨i, hst, hi, hall, B1⟩
  cases hst
  refine IFB_dec (fun hlt => ⟨⟨by omega, hlt⟩, ?_⟩) (fun hge => ⟨by rw [sameL_yes hlen' fun j h1 h2 => hall j h1 h2 (by omega)], B1⟩)
  have hil : i < l1.length := by omega
  have hil2 : i < l2.length := by omega
  obtain ⟨p, a3, cap3, rfl, hxk, c0, c1', c2', c3, c4, c5⟩ := ex_at (hr1.grown B1) hk1 hil
  refine ⟨_, by rw [Int.toNat_natCast]; exact c0, _, by rw [Int.toNat_natCast]; exact c1', _, by rw [Int.toNat_natCast]; exact c2', _, by rw [Int.toNat_natCast]; exact c3, _, by rw [Int.toNat_natCast]; exact c4, _, _, _, by rw [Int.toNat_natCast]; exact c5, (ST.start w1).lit6 fun b13 w8 _ S8 => ⟨⟨by omega, by omega⟩, ?_⟩⟩
  have B8 : Below w.heap.size w w8 := below_trans B1 S8.bel
  obtain ⟨q, a4, cap4, rfl, hyk, d0, d1, d2, d3, d4, d5⟩ := ex_at (hr2.grown B8) hk2 hil2
  refine ⟨_, by rw [Int.toNat_natCast]; exact d0, _, by rw [Int.toNat_natCast]; exact d1, _, by rw [Int.toNat_natCast]; exact d2, _, by rw [Int.toNat_natCast]; exact d3, _, by rw [Int.toNat_natCast]; exact d4, _, _, _, by rw [Int.toNat_natCast]; exact d5, S8.lit6 fun b21 w15 _ S15 => ?_⟩
  have B15 : Below w.heap.size w w15 := below_trans B1 S15.bel
  refine ⟨_, S15.cell 1 rfl rfl, _, S15.cell 1 rfl rfl, _, S15.cell 1 rfl rfl, _, S15.cell 1 rfl rfl, _, S15.cell 1 rfl rfl, _, _, _, S15.cell 1 rfl rfl, _, S15.cell 0 rfl rfl, _, S15.cell 0 rfl rfl, _, S15.cell 0 rfl rfl, _, S15.cell 0 rfl rfl, _, S15.cell 0 rfl rfl, _, _, _, S15.cell 0 rfl rfl, ?_⟩
  refine (ih l1[i] (List.getElem_mem hil) l2[i] w15 a3 cap3 a4 cap4 (hxk.grown B15) (hyk.grown B15)).mono ?_
  rintro _ w16 ⟨_, rfl, rfl, B16⟩
  refine ⟨_, rfl, IFB_not (IFB_of (fun h => ?_) (fun h => ⟨by rw [sameL_no hil hil2 h], below_trans B15 B16⟩))⟩
  rw [wrap_succ (by omega)]
  refine ⟨⟨i + 1, rfl, by omega, fun j h1 h2 hj => ?_, below_trans B15 B16⟩, ?_⟩
  · rcases Nat.lt_or_ge j i with h' | h'
    · exact hall j h1 h2 h'
    · obtain rfl : j = i := by omega
      exact h
  · show l1.length - ((i + 1 : Nat) : Int).toNat < l1.length - ((i : Nat) : Int).toNat
    simp only [Int.toNat_natCast]
    omega
theorem expr_same_ok : ∀ (x y : Ex) (w : World) (a : Option Addr) (cap : Nat) (a' : Option Addr) (cap' : Nat), XC w x (exHead x a cap) → XC w y (exHead y a' cap') →
    Calls Tryz.prog f.expr_same #[.agg ⟨exHead x a cap⟩, .agg ⟨exHead y a' cap'⟩] w (Ret fun r w' => r = .bool (x.same y) ∧ Below w.heap.size w w') := by
  intro x
  induction x using Ex.ind with
  | h op nm v ks ih =>
    rintro ⟨op', nm', v', ks'⟩ w a cap a' cap' hx hy
    obtain ⟨rs, hr, hk, hn⟩ := exHead_inj hx
    obtain ⟨rs', hr', hk', hn'⟩ := exHead_inj hy
    apply R.expr_same_calls
    unfold R.expr_same
    simp only [bytesEq_iff]
    refine (ST.start w).newB fun b13 w1 _ _ S1 => S1.newB fun b14 w2 _ _ S2 => ⟨_, S2.cell 1 rfl rfl, _, S2.cell 0 rfl rfl, ?_⟩
    have no : ¬ (op = op' ∧ nm = nm' ∧ v = v') → Value.bool false = .bool ((Ex.mk op nm v ks).same (.mk op' nm' v' ks')) ∧ Below w.heap.size w w2 := fun h => ⟨by simp only [Ex.same, decide_eq_false h, Bool.false_and], S2.bel⟩
    refine IFB_eq (fun h1 => ⟨_, S2.cell 1 rfl rfl, _, S2.cell 0 rfl rfl, IFB_dec (fun h2 => ⟨_, S2.cell 1 rfl rfl, _, S2.cell 1 rfl rfl, _, S2.cell 1 rfl rfl, _, S2.cell 0 rfl rfl, _, S2.cell 0 rfl rfl, _, S2.cell 0 rfl rfl, ?_⟩) (fun h2 => no fun h => h2 h.2.1)⟩) (fun h1 => no fun h => h1 h.1)
    rw [valEq]
    refine IFB_dec (fun h3 => ⟨_, _, _, S2.cell 1 rfl rfl, _, _, _, S2.cell 0 rfl rfl, (equalEx_ok ks ih (hr.grown S2.bel) (hk.grown S2.bel) hn (hr'.grown S2.bel) (hk'.grown S2.bel)).mono ?_⟩) (fun h3 => no fun h => h3 h.2.2)
    rintro _ w3 ⟨_, rfl, rfl, B3⟩
    refine ⟨_, rfl, ?_, (S2.grown B3).bel⟩
    change op = op' at h1
    change nm = nm' at h2
    change v = v' at h3
    simp only [Ex.same, decide_eq_true (show op = op' ∧ nm = nm' ∧ v = v' from ⟨h1, h2, h3⟩), Bool.true_and]
    rfl
def sameF (x y : Ex) : Bool := x.formed && y.formed && x.same y
section
variable {w : World} {x y : Ex} {a a' : Option Addr} {cap cap' : Nat}
theorem expr_Same_ok (E : Env w) (hx : XC w x (exHead x a cap)) (hy : XC w y (exHead y a' cap')) : Calls Tryz.prog f.expr_Same #[.agg ⟨exHead x a cap⟩, .agg ⟨exHead y a' cap'⟩] w (Ret fun r w' => r = .bool (sameF x y) ∧ Below w.heap.size w w') := by
  apply R.expr_Same_calls
  unfold R.expr_Same
  refine (ST.start w).newB fun b13 w1 _ _ S1 => S1.newB fun b14 w2 _ _ S2 => ⟨_, S2.cell 1 rfl rfl, _, S2.cell 1 rfl rfl, _, S2.cell 1 rfl rfl, _, S2.cell 1 rfl rfl, _, S2.cell 1 rfl rfl, _, _, _, S2.cell 1 rfl rfl, (expr_formed_ok (E.grown S2.bel) (hx.grown S2.bel)).mono ?_⟩
  rintro _ w3 ⟨_, rfl, rfl, B3⟩
  have S3 := S2.grown B3
  refine ⟨_, rfl, IFB_of (fun h1 => ⟨_, S3.cell 0 rfl rfl, _, S3.cell 0 rfl rfl, _, S3.cell 0 rfl rfl, _, S3.cell 0 rfl rfl, _, S3.cell 0 rfl rfl, _, _, _, S3.cell 0 rfl rfl, (expr_formed_ok (E.grown S3.bel) (hy.grown S3.bel)).mono ?_⟩) (fun h1 => ⟨by simp [sameF, h1], S3.bel⟩)⟩
  rintro _ w4 ⟨_, rfl, rfl, B4⟩
  have S4 := S3.grown B4
  refine ⟨_, rfl, IFB_of (fun h2 => ⟨_, S4.cell 1 rfl rfl, _, S4.cell 1 rfl rfl, _, S4.cell 1 rfl rfl, _, S4.cell 1 rfl rfl, _, S4.cell 1 rfl rfl, _, _, _, S4.cell 1 rfl rfl, _, S4.cell 0 rfl rfl, _, S4.cell 0 rfl rfl, _, S4.cell 0 rfl rfl, _, S4.cell 0 rfl rfl, _, S4.cell 0 rfl rfl, _, _, _, S4.cell 0 rfl rfl, (expr_same_ok x y w4 a cap a' cap' (hx.grown S4.bel) (hy.grown S4.bel)).mono ?_⟩) (fun h2 => ⟨by simp [sameF, h1, h2], S4.bel⟩)⟩
  rintro _ w5 ⟨_, rfl, rfl, B5⟩
  exact ⟨_, rfl, by simp [sameF, h1, h2], (S4.grown B5).bel⟩
end
section
variable {w : World} {x y : Ex} {a a' : Option Addr} {cap cap' : Nat}
end
end Go.Proofs.YtbpdfpfgijhokaaGreatDoor
namespace Go.Dn
set_option linter.unusedVariables false
set_option maxRecDepth 100000
section
variable {w0 w : World} {H : List It}
theorem ST.lit8 (S : ST w0 w H) {z0 z1 z2 z3 z4 z5 z6 z7 v0 v1 v2 v3 v4 v5 v6 v7 : Value} {t : TypeId} {k : Nat → World → Prop} (hk : ∀ b w', w.heap.size ≤ b → ST w0 w' (It.cells b #[v0, v1, v2, v3, v4, v5, v6, v7] t :: H) → k b w') :
    NEWB #[z0, z1, z2, z3, z4, z5, z6, z7] t (fun b w => STO ⟨b, 0, none⟩ v0 (fun w => STO ⟨b, 1, none⟩ v1 (fun w => STO ⟨b, 2, none⟩ v2 (fun w => STO ⟨b, 3, none⟩ v3 (fun w => STO ⟨b, 4, none⟩ v4 (fun w => STO ⟨b, 5, none⟩ v5 (fun w => STO ⟨b, 6, none⟩ v6 (fun w => STO ⟨b, 7, none⟩ v7 (fun w => k b w) w) w) w) w) w) w) w) w) w :=
  S.newB fun b w1 hb _ S1 => S1.sto 0 rfl (cs' := #[v0, z1, z2, z3, z4, z5, z6, z7]) (by simp) rfl fun w2 S2 => S2.sto 0 rfl (cs' := #[v0, v1, z2, z3, z4, z5, z6, z7]) (by simp) rfl fun w3 S3 => S3.sto 0 rfl (cs' := #[v0, v1, v2, z3, z4, z5, z6, z7]) (by simp) rfl fun w4 S4 =>
    S4.sto 0 rfl (cs' := #[v0, v1, v2, v3, z4, z5, z6, z7]) (by simp) rfl fun w5 S5 => S5.sto 0 rfl (cs' := #[v0, v1, v2, v3, v4, z5, z6, z7]) (by simp) rfl fun w6 S6 => S6.sto 0 rfl (cs' := #[v0, v1, v2, v3, v4, v5, z6, z7]) (by simp) rfl fun w7 S7 => S7.sto 0 rfl (cs' := #[v0, v1, v2, v3, v4, v5, v6, z7]) (by simp) rfl fun w8 S8 =>
    S8.sto 0 rfl (cs' := #[v0, v1, v2, v3, v4, v5, v6, v7]) (by simp) rfl fun w9 S9 => hk b w9 hb S9
end
end Go.Dn
namespace Go.Dn
set_option linter.unusedVariables false
set_option maxRecDepth 100000
open Go.RowKit (Below)
section
variable {w0 w : World} {H : List It} {P : Program} {f : FuncId} {args : Array Value} {Q : Ending → World → Prop}
theorem ST.call (S : ST w0 w H) {v : Value} (h : Calls P f args w (Ret fun r w' => r = v ∧ Below w.heap.size w w')) (hk : ∀ w', Below w.heap.size w w' → ST w0 w' H → Q (.returned v) w') : Calls P f args w Q :=
  h.mono (by rintro _ w' ⟨_, rfl, rfl, B⟩; exact hk w' B (S.grown B))
theorem ST.call0 (S : ST w0 w H) {v : Value} (h : Calls P f args w (Ret fun r w' => r = v ∧ w' = w)) (hk : Q (.returned v) w) : Calls P f args w Q :=
  h.mono (by rintro _ w' ⟨_, rfl, rfl, rfl⟩; exact hk)
theorem ST.one {x : It} (S : ST w0 w (x :: H)) : ST w0 w [x] := S.sub (List.Sublist.cons_cons x (List.nil_sublist H))
theorem below_j {w w1 w2 : World} (h : Below w.heap.size w w1) (h' : Below w1.heap.size w1 w2) : Below w.heap.size w w2 := h.trans (h'.mono h.size)
end
theorem PTR_i {a : Addr} {k : Addr → Prop} (h : k a) : PTR (some a) k := h
theorem i64_succ {i n : Nat} (h : i < n) (hn : n ≤ 9223372036854775807) : IntKind.i64.wrap ((i : Int) + 1) = ((i + 1 : Nat) : Int) := wrap_succ (by omega)
theorem forUp {w : World} {B : (List Value → World → Prop) → (List Value → World → Nat) → Int → World → Prop} (n : Nat) (Inv : Nat → World → Prop) (hn : n ≤ 9223372036854775807) (h0 : Inv 0 w)
    (hb : ∀ (I : List Value → World → Prop) (M : List Value → World → Nat) (i : Nat) (w2 : World), i ≤ n → Inv i w2 → (∀ w', i < n → Inv (i + 1) w' → I [.int .i64 (IntKind.i64.wrap ((i : Int) + 1))] w' ∧ M [.int .i64 (IntKind.i64.wrap ((i : Int) + 1))] w' < M [.int .i64 (i : Int)] w2) → B I M (i : Int) w2) :
    ∃ (I : List Value → World → Prop) (M : List Value → World → Nat), I [.int .i64 0] w ∧ ∀ (i : Int) (w2 : World), I [.int .i64 i] w2 → B I M i w2 := by
  refine ⟨fun st w => ∃ i : Nat, st = [.int .i64 (i : Int)] ∧ i ≤ n ∧ Inv i w, fun st _ => match st with | [.int _ t] => n - t.toNat | _ => 0, ⟨0, rfl, Nat.zero_le _, h0⟩, ?_⟩
  rintro t w2 ⟨i, hst, hi, hI⟩
  cases hst
  refine hb _ _ i w2 hi hI fun w' hlt h => ?_
  rw [i64_succ hlt hn]
  exact ⟨⟨i + 1, rfl, hlt, h⟩, by simp only [Int.toNat_natCast]; omega⟩
section
variable {w0 w : World} {H : List It}
theorem ST.sto8 (S : ST w0 w H) (n : Nat) {b : Nat} {x0 x1 x2 x3 x4 x5 x6 x7 v0 v1 v2 v3 v4 v5 v6 v7 : Value} {t : TypeId} (hn : H[n]? = some (It.cells b #[x0, x1, x2, x3, x4, x5, x6, x7] t)) {k : World → Prop} (hk : ∀ w', ST w0 w' (H.set n (It.cells b #[v0, v1, v2, v3, v4, v5, v6, v7] t)) → k w') :
    STO ⟨b, 0, none⟩ v0 (fun w => STO ⟨b, 1, none⟩ v1 (fun w => STO ⟨b, 2, none⟩ v2 (fun w => STO ⟨b, 3, none⟩ v3 (fun w => STO ⟨b, 4, none⟩ v4 (fun w => STO ⟨b, 5, none⟩ v5 (fun w => STO ⟨b, 6, none⟩ v6 (fun w => STO ⟨b, 7, none⟩ v7 k w) w) w) w) w) w) w) w := by
  have hlt := (List.getElem?_eq_some_iff.1 hn).1
  refine S.sto n hn (cs' := #[v0, x1, x2, x3, x4, x5, x6, x7]) (by simp) rfl fun w1 S1 => ?_
  refine S1.sto n (List.getElem?_set_self hlt) (cs' := #[v0, v1, x2, x3, x4, x5, x6, x7]) (by simp) rfl fun w2 S2 => ?_
  rw [List.set_set] at S2
  refine S2.sto n (List.getElem?_set_self hlt) (cs' := #[v0, v1, v2, x3, x4, x5, x6, x7]) (by simp) rfl fun w3 S3 => ?_
  rw [List.set_set] at S3
  refine S3.sto n (List.getElem?_set_self hlt) (cs' := #[v0, v1, v2, v3, x4, x5, x6, x7]) (by simp) rfl fun w4 S4 => ?_
  rw [List.set_set] at S4
  refine S4.sto n (List.getElem?_set_self hlt) (cs' := #[v0, v1, v2, v3, v4, x5, x6, x7]) (by simp) rfl fun w5 S5 => ?_
  rw [List.set_set] at S5
  refine S5.sto n (List.getElem?_set_self hlt) (cs' := #[v0, v1, v2, v3, v4, v5, x6, x7]) (by simp) rfl fun w6 S6 => ?_
  rw [List.set_set] at S6
  refine S6.sto n (List.getElem?_set_self hlt) (cs' := #[v0, v1, v2, v3, v4, v5, v6, x7]) (by simp) rfl fun w7 S7 => ?_
  rw [List.set_set] at S7
  refine S7.sto n (List.getElem?_set_self hlt) (cs' := #[v0, v1, v2, v3, v4, v5, v6, v7]) (by simp) rfl fun w8 S8 => ?_
  rw [List.set_set] at S8
  exact hk w8 S8
theorem ST.sto3 (S : ST w0 w H) (n : Nat) {b : Nat} {x0 x1 x2 v0 v1 v2 : Value} {t : TypeId} (hn : H[n]? = some (It.cells b #[x0, x1, x2] t)) {k : World → Prop} (hk : ∀ w', ST w0 w' (H.set n (It.cells b #[v0, v1, v2] t)) → k w') :
    STO ⟨b, 0, none⟩ v0 (fun w => STO ⟨b, 1, none⟩ v1 (fun w => STO ⟨b, 2, none⟩ v2 k w) w) w := by
  have hlt := (List.getElem?_eq_some_iff.1 hn).1
  refine S.sto n hn (cs' := #[v0, x1, x2]) (by simp) rfl fun w1 S1 => ?_
  refine S1.sto n (List.getElem?_set_self hlt) (cs' := #[v0, v1, x2]) (by simp) rfl fun w2 S2 => ?_
  rw [List.set_set] at S2
  refine S2.sto n (List.getElem?_set_self hlt) (cs' := #[v0, v1, v2]) (by simp) rfl fun w3 S3 => ?_
  rw [List.set_set] at S3
  exact hk w3 S3
theorem ST.stoR (S : ST w0 w H) (n : Nat) {e : TypeId} {sz g m c : Nat} {xs : List Value} (hn : H[n]? = some (It.row e sz (some ⟨g, 0, none⟩) m c xs)) {j : Nat} (hj : j < m * sz) {v : Value} {k : World → Prop}
    (hk : ∀ w', ST w0 w' (H.set n (It.row e sz (some ⟨g, 0, none⟩) m c (xs.set j v))) → k w') : STO ⟨g, j, none⟩ v k w :=
  (S.rw n hn).sto hj fun w' hr K => hk w' (S.chg n hn (K.mono fun k _ h => by subst h; rfl) _ hr (fun k hk => .inl hk))
theorem ST.toRd (S : ST w0 w H) (n : Nat) {e : TypeId} {sz : Nat} {a : Option Addr} {m c : Nat} {xs : List Value} (hn : H[n]? = some (It.row e sz a m c xs)) : ST w0 w (H.set n (It.rd a xs)) :=
  S.chg n hn (Keeps.refl _ w) _ (S.rd n hn) fun k hk => by
    cases xs with
    | nil => cases hk
    | cons x xs => exact .inl hk
theorem ST.sto5 (S : ST w0 w H) (n : Nat) {b : Nat} {x0 x1 x2 x3 x4 v0 v1 v2 v3 v4 : Value} {t : TypeId} (hn : H[n]? = some (It.cells b #[x0, x1, x2, x3, x4] t)) {k : World → Prop} (hk : ∀ w', ST w0 w' (H.set n (It.cells b #[v0, v1, v2, v3, v4] t)) → k w') :
    STO ⟨b, 0, none⟩ v0 (fun w => STO ⟨b, 1, none⟩ v1 (fun w => STO ⟨b, 2, none⟩ v2 (fun w => STO ⟨b, 3, none⟩ v3 (fun w => STO ⟨b, 4, none⟩ v4 k w) w) w) w) w := by
  have hlt := (List.getElem?_eq_some_iff.1 hn).1
  refine S.sto n hn (cs' := #[v0, x1, x2, x3, x4]) (by simp) rfl fun w1 S1 => ?_
  refine S1.sto n (List.getElem?_set_self hlt) (cs' := #[v0, v1, x2, x3, x4]) (by simp) rfl fun w2 S2 => ?_
  rw [List.set_set] at S2
  refine S2.sto n (List.getElem?_set_self hlt) (cs' := #[v0, v1, v2, x3, x4]) (by simp) rfl fun w3 S3 => ?_
  rw [List.set_set] at S3
  refine S3.sto n (List.getElem?_set_self hlt) (cs' := #[v0, v1, v2, v3, x4]) (by simp) rfl fun w4 S4 => ?_
  rw [List.set_set] at S4
  refine S4.sto n (List.getElem?_set_self hlt) (cs' := #[v0, v1, v2, v3, v4]) (by simp) rfl fun w5 S5 => ?_
  rw [List.set_set] at S5
  exact hk w5 S5
end
end Go.Dn
namespace Go.Proofs.YtbpdfpfgijhokaaGreatDoor
set_option maxRecDepth 100000
open Go.Dn Go.Proofs
open Go.RowKit (Below)
set_option linter.unusedVariables false
def usesL (x : Ex) : List (List UInt8) := if x.formed then x.names.map bl else []
def UsesV (x : Ex) (w w' : World) (v : Value) : Prop := ∃ (a : Option Addr) (c : Nat) (t : List ByteArray), v = .slice a t.length c ∧ IsRise (usesL x) (t.map bl) ∧ Rd w' a (t.map Value.string) ∧ t.length ≤ 1000000 ∧ Below w.heap.size w w'
def nmsOf (l : List (Nat × Ex)) : List ByteArray := (l.filter fun p => decide (p.2.op = 1)).map fun p => p.2.nm
theorem nmsOf_len (l : List (Nat × Ex)) : (nmsOf l).length ≤ l.length := by
  unfold nmsOf
  rw [List.length_map]
  exact List.length_filter_le _ _
theorem nmsOf_snoc (l : List (Nat × Ex)) (p : Nat × Ex) : nmsOf (l ++ [p]) = nmsOf l ++ if p.2.op = 1 then [p.2.nm] else [] := by
  unfold nmsOf
  rw [List.filter_append, List.map_append]
  congr 1
  by_cases h : p.2.op = 1
  · rw [if_pos h, List.filter_cons_of_pos (by simpa using h)]; rfl
  · rw [if_neg h, List.filter_cons_of_neg (by simpa using h)]; rfl
theorem expr_Uses_st {w : World} (E : Env w) {x : Ex} {a : Option Addr} {cap : Nat} (hx : XC w x (exHead x a cap)) : Calls Tryz.prog f.expr_Uses #[.agg ⟨exHead x a cap⟩] w (Ret fun v w' => ∃ (a : Option Addr) (c : Nat) (t : List ByteArray), v = .slice a t.length c ∧ IsRise (usesL x) (t.map bl) ∧ t.length ≤ 1000000 ∧ ST w w' [strsI a c t]) := by
  apply R.expr_Uses_calls
  unfold R.expr_Uses
  refine (ST.start w).newB fun b7 w1 _ _ S1 => ⟨_, S1.cell 0 rfl rfl, _, S1.cell 0 rfl rfl, _, S1.cell 0 rfl rfl, _, S1.cell 0 rfl rfl, _, S1.cell 0 rfl rfl, _, _, _, S1.cell 0 rfl rfl, (expr_formed_ok (E.grown S1.bel) (hx.grown S1.bel)).mono ?_⟩
  rintro _ w2 ⟨_, rfl, rfl, B2⟩
  have S2 := S1.grown B2
  refine ⟨_, rfl, IFB_not (IFB_of (fun hf => ?_) (fun hf => ⟨none, 0, [], rfl, ?_, by simp, (S2.nil ty.string 1).one⟩))⟩
  rotate_left
  · unfold usesL
    rw [if_neg (by rw [hf]; decide)]
    exact ⟨.nil, fun _ => Iff.rfl⟩
  have hlen : (x.nodes 1).length ≤ 400 := ((formed_nodes x).1 hf).2
  refine S2.newB fun b16 w3 _ _ S3 => ⟨_, S3.cell 1 rfl rfl, _, S3.cell 1 rfl rfl, _, S3.cell 1 rfl rfl, _, S3.cell 1 rfl rfl, _, S3.cell 1 rfl rfl, _, _, _, S3.cell 1 rfl rfl, (expr_nodes_ok (x := x) (a := a) (cap := cap) 1).mono ?_⟩
  rintro _ w4 ⟨_, rfl, bd, bx, rfl, P4⟩
  have S4 := (S3.nil ty.string 1).join P4
  refine ⟨_, _, _, rfl, by kernel_rfl, fun rr hst hpe hy => ?_⟩
  have S6 := S4.range rr
  obtain ⟨L, hL⟩ : ∃ L, L = w4.heap.size + 1 := ⟨_, rfl⟩
  obtain ⟨m, hm⟩ : ∃ m, m = w4.heap.size := ⟨_, rfl⟩
  rw [← hL] at S6 hy ⊢
  rw [← hm] at S6 ⊢
  have S7 := (((S6.pull 6 rfl).pull 2 rfl).pull 4 rfl).pull 4 rfl
  refine (nodes_c1_ok x 1 (by omega) L (x.nodes 1) (fun done B => ∃ sa sc, B = [It.obj L (.loop rr), strsI sa sc (nmsOf done), It.cells b16 #[.slice sa (nmsOf done).length sc] ty.L_string]) (fun B => False) ?_ a cap (hx) [] []
    [It.obj m (.deferred (some [])), It.cells b7 ⟨exHead x a cap⟩ ty.api_Expr] _ _ bd bx (by simp) ⟨none, 0, rfl⟩ S7).mono ?_
  · rintro done ⟨yd, yx⟩ rest vs HN _ w6 htot ⟨sa, sc, rfl⟩ S ⟨cs2, rfl, hx2⟩
    change XC w yx cs2 at hx2
    obtain ⟨a4, cap4, _, rfl, _⟩ := ExC.open hx2
    have hdl : done.length ≤ 400 := by have := congrArg List.length htot; simp at this; omega
    have hnl := nmsOf_len done
    have S := ST.mid (B := []) [It.obj L (.loop rr), strsI sa sc (nmsOf done), It.cells b16 #[.slice sa (nmsOf done).length sc] ty.L_string] S
    refine hy _ _ _ _ _ _ _ _ _ _ w6 (S.get 0 rfl) ?_
    refine S.lit6 fun b33 w12 _ S => S.begr 1 rfl fun w13 S => ⟨_, S.cell 0 rfl rfl, IFB_eq (fun h1 => ⟨_, _, _, S.cell 3 rfl rfl, _, S.cell 0 rfl rfl, S.newB fun b37 w14 _ _ S => ?_⟩) (fun h1 => S.endr0 1 hst hpe rfl fun w' S => ?_)⟩
    · refine stAppS S 3 rfl (ys := [yx.nm]) (mm := 1) rfl (S.rdc 0 rfl) (by omega) fun a' c' w15 S => ⟨_, _, _, rfl, S.sto 4 rfl (cs' := #[.slice a' (nmsOf done ++ [yx.nm]).length c']) (by simp) rfl fun w16 S => S.endr0 2 hst hpe rfl fun w' S => ?_⟩
      refine ⟨_, ST.unmid (B := []) [It.obj L (.loop rr), strsI a' c' (nmsOf done ++ [yx.nm]), It.cells b16 #[.slice a' (nmsOf done ++ [yx.nm]).length c'] ty.L_string] (S.drop 2), .inl ⟨rfl, a', c', ?_⟩⟩
      rw [nmsOf_snoc, if_pos h1]
      rfl
    · refine ⟨_, ST.unmid (B := []) [It.obj L (.loop rr), strsI sa sc (nmsOf done), It.cells b16 #[.slice sa (nmsOf done).length sc] ty.L_string] (S.drop 1), .inl ⟨rfl, sa, sc, ?_⟩⟩
      have e : nmsOf (done ++ [(yd, yx)]) = nmsOf done := by rw [nmsOf_snoc, if_neg h1, List.append_nil]
      rw [e]
      rfl
  · rintro _ w17 ⟨_, rfl, B5, S26, ⟨sa, sc, rfl⟩ | h⟩
    rotate_left
    · exact h.elim
    refine ⟨⟨_, rfl⟩, ?_⟩
    rw [List.nil_append] at S26
    have hnl := nmsOf_len (x.nodes 1)
    have S27 := ST.mid (B := []) [It.obj L (.loop rr), strsI sa sc (nmsOf (x.nodes 1)), It.cells b16 #[.slice sa (nmsOf (x.nodes 1)).length sc] ty.L_string] S26
    refine S27.endl0 0 hst hpe rfl fun w18 S => ⟨rfl, _, _, _, S.cell 2 rfl rfl, (sortS_ok S 1 rfl (by omega)).mono ?_⟩
    rintro _ w19 ⟨_, rfl, rfl, ys, hyl, hys, S⟩
    refine ⟨rfl, _, _, _, S.cell 2 rfl rfl, ?_⟩
    rw [← hyl]
    refine (compactS_ok S 1 rfl (by omega)).mono ?_
    rintro _ w20 ⟨_, rfl, zs, rfl, hzl, hzs, S⟩
    refine ⟨_, _, _, rfl, S.get 3 rfl, sa, sc, zs, rfl, ?_, by omega, ((S.put 3 rfl (.deferred none)).pull 1 rfl).one⟩
    rw [hzs, hys]
    unfold usesL
    rw [if_pos hf]
    have e : nmsOf (x.nodes 1) = x.names := nodes_names x 1 (formed_okA hf)
    rw [e]
    exact rise_compact _
theorem expr_Uses_ok {w : World} (E : Env w) {x : Ex} {a : Option Addr} {cap : Nat} (hx : XC w x (exHead x a cap)) : Calls Tryz.prog f.expr_Uses #[.agg ⟨exHead x a cap⟩] w (Ret fun v w' => UsesV x w w' v) := by
  refine (expr_Uses_st E hx).mono ?_
  rintro _ w' ⟨v, rfl, a, c, t, rfl, h1, h2, S⟩
  exact ⟨_, rfl, a, c, t, rfl, h1, S.rd 0 rfl, h2, S.bel⟩
section
variable {ls T : List (List UInt8)}
end
theorem LOADC_strs : ∀ (us : List ByteArray) {n : Nat} {a : Addr} {i : Nat} {k : List Value → Prop} {w : World}, us.length = n → (∀ j u, us[j]? = some u → w.cell? (a.add (i + j)) = some (.string u)) →
    k (us.map Value.string) → LOADC (List.replicate n (.string ⟨#[]⟩)) a i k w
  | [], n, a, i, k, w, hn, hc, h => by subst hn; exact h
  | u :: us, n, a, i, k, w, hn, hc, h => by
    subst hn
    exact ⟨u, hc 0 u rfl, LOADC_strs us rfl (fun j x hj => by have := hc (j + 1) x (by simpa using hj); rwa [show i + (j + 1) = i + 1 + j by omega] at this) h⟩
theorem keyCells_eq : keyCells = keyWords.map Value.string := rfl
theorem keyWords_len : keyWords.length = 20 := rfl
theorem isKey_hit {s : ByteArray} {i : Nat} (hi : i < 20) (h : keyWords[i]'(by rw [keyWords_len]; exact hi) = s) : isKeyB s = true := List.any_eq_true.2 ⟨_, List.getElem_mem (by rw [keyWords_len]; exact hi), by simpa using h⟩
theorem isKey_miss {s : ByteArray} (h : ∀ k ∈ keyWords, k ≠ s) : isKeyB s = false := by
  unfold isKeyB
  rw [List.any_eq_false]
  intro k hk
  simpa using h k hk
theorem keyStep {s : ByteArray} {i : Nat} (hi : i < 20) (h : ∀ k ∈ keyWords.take i, k ≠ s) (h2 : keyWords[i]'(by rw [keyWords_len]; exact hi) ≠ s) : ∀ k ∈ keyWords.take (i + 1), k ≠ s := by
  intro k hk
  rw [List.take_succ_eq_append_getElem (by rw [keyWords_len]; exact hi)] at hk
  rcases List.mem_append.1 hk with hk | hk
  · exact h k hk
  · rw [List.mem_singleton.1 hk]; exact h2
section
variable {w : World} (s : ByteArray)
theorem query_isKey_ok (E : Env w) : Calls Tryz.prog f.query_isKey #[.string s] w (Ret fun r w' => r = .bool (isKeyB s) ∧ w' = w) := by
  apply R.query_isKey_calls
  unfold R.query_isKey
  refine LOADC_strs keyWords rfl (fun j u hj => ?_) ?_
  · obtain ⟨p, hp, hc⟩ := E.key j (.string u) (by rw [keyCells_eq, List.getElem?_map, hj]; rfl)
    cases hp
    rw [Nat.zero_add]
    exact hc
  refine ⟨fun st w1 => ∃ i : Nat, st = [.int .i64 (i : Int)] ∧ i ≤ 20 ∧ (∀ k ∈ keyWords.take i, k ≠ s) ∧ w1 = w, fun st _ => match st with | [.int _ q] => 20 - q.toNat | _ => 0, ⟨0, rfl, by omega, by simp, rfl⟩, ?_⟩
  rintro q w1 ⟨i, hst, hi, hall, rfl⟩
  cases hst
  refine IFB_dec (fun hlt => ⟨⟨by omega, hlt⟩, ?_⟩) (fun hge => ?_)
  · have hi2 : i < 20 := by omega
    have hl : i < keyWords.length := by rw [keyWords_len]; exact hi2
    refine ⟨keyWords[i], by rw [Int.toNat_natCast, Nat.mul_one]; simp [hl], ?_⟩
    rw [bytesEq_iff]
    refine IFB_dec (fun h => ⟨by rw [isKey_hit hi2 h], rfl⟩) (fun h => ?_)
    rw [wrap_succ (by omega)]
    refine ⟨⟨i + 1, rfl, by omega, keyStep hi2 hall h, rfl⟩, ?_⟩
    show 20 - ((i + 1 : Nat) : Int).toNat < 20 - ((i : Nat) : Int).toNat
    simp only [Int.toNat_natCast]
    omega
  · rw [List.take_of_length_le (by rw [keyWords_len]; omega)] at hall
    exact ⟨by rw [isKey_miss hall], rfl⟩
theorem query_isName_ok (E : Env w) (hs : s.size ≤ 9223372036854775807) : Calls Tryz.prog f.query_isName #[.string s] w (Ret fun r w' => r = .bool (okName s) ∧ Below w.heap.size w w') := by
  apply R.query_isName_calls
  unfold R.query_isName
  refine (schema_IsName_ok s hs w).mono ?_
  rintro _ w1 ⟨_, rfl, rfl, B1⟩
  refine ⟨_, rfl, IFB_of (fun h => (query_isKey_ok s (E.grown B1)).mono ?_) (fun h => ⟨by simp [okName, h], B1⟩)⟩
  rintro _ w2 ⟨_, rfl, rfl, rfl⟩
  exact ⟨_, rfl, by simp [okName, h], B1⟩
end
/-! ### expressions -/
theorem names_fit : ∀ {x : Ex}, x.fit → ∀ s ∈ x.names, s.size ≤ 9223372036854775807 := by
  intro x
  induction x using Ex.ind with
  | h op nm v ks ih =>
    intro h s hs
    unfold Ex.fit at h
    simp only [Ex.names, List.mem_append] at hs
    rcases hs with hs | hs
    · split at hs
      · rw [List.mem_singleton.1 hs]; exact Nat.le_trans h.1.2.2.2.1 (by decide)
      · cases hs
    · have : ∀ (l : List Ex), (∀ k ∈ l, k ∈ ks) → s ∈ Ex.namesL l → ∃ k ∈ l, s ∈ k.names := by
        intro l
        induction l with
        | nil => intro _ h; simp [Ex.namesL] at h
        | cons k l ihl =>
          intro hl h
          simp only [Ex.namesL, List.mem_append] at h
          rcases h with h | h
          · exact ⟨k, by simp, h⟩
          · obtain ⟨k', h1, h2⟩ := ihl (fun y hy => hl y (by simp [hy])) h
            exact ⟨k', by simp [h1], h2⟩
      obtain ⟨k, hk, hsk⟩ := this ks (fun _ h => h) hs
      exact ih k hk (fitL_iff.1 h.2 k hk) s hsk
theorem rise_mem {x : Ex} (hf : x.formed = true) {t : List ByteArray} (h : IsRise (usesL x) (t.map bl)) (s : ByteArray) : s ∈ t ↔ s ∈ x.names := by
  have := h.mem (bl s)
  unfold usesL at this
  rw [if_pos hf] at this
  constructor
  · intro hs
    obtain ⟨s', h1, h2⟩ := List.mem_map.1 (this.1 (List.mem_map.2 ⟨s, hs, rfl⟩))
    rw [← bl_inj h2]
    exact h1
  · intro hs
    obtain ⟨s', h1, h2⟩ := List.mem_map.1 (this.2 (List.mem_map.2 ⟨s, hs, rfl⟩))
    rw [← bl_inj h2]
    exact h1
theorem rise_all {x : Ex} (hf : x.formed = true) {t : List ByteArray} (h : IsRise (usesL x) (t.map bl)) (p : ByteArray → Bool) : t.all p = x.names.all p := by
  rw [Bool.eq_iff_iff, List.all_eq_true, List.all_eq_true]
  exact ⟨fun h1 s hs => h1 s ((rise_mem hf h s).2 hs), fun h1 s hs => h1 s ((rise_mem hf h s).1 hs)⟩
theorem rowsC_strs : ∀ t : List ByteArray, RowsC (fun x c => c = [Value.string x]) t (t.map Value.string)
  | [] => rfl
  | x :: t => ⟨[.string x], t.map Value.string, rfl, rfl, rowsC_strs t⟩
theorem same_refl (x : Ex) : x.same x = true := (same_iff x x).2 rfl
section
variable {w : World} {x : Ex} {a : Option Addr} {cap : Nat}
theorem query_right_ok (E : Env w) (hx : XC w x (exHead x a cap)) : Calls Tryz.prog f.query_right #[.agg ⟨exHead x a cap⟩] w (Ret fun r w' => r = .bool (rightX x) ∧ Below w.heap.size w w') := by
  apply R.query_right_calls
  unfold R.query_right
  refine (ST.start w).newB fun b7 w1 _ _ S1 => ⟨_, S1.cell 0 rfl rfl, _, S1.cell 0 rfl rfl, _, S1.cell 0 rfl rfl, _, S1.cell 0 rfl rfl, _, S1.cell 0 rfl rfl, _, _, _, S1.cell 0 rfl rfl, _, S1.cell 0 rfl rfl, _, S1.cell 0 rfl rfl, _, S1.cell 0 rfl rfl, _, S1.cell 0 rfl rfl, _, S1.cell 0 rfl rfl, _, _, _, S1.cell 0 rfl rfl, (expr_Same_ok (E.grown S1.bel) (hx.grown S1.bel) (hx.grown S1.bel)).mono ?_⟩
  rintro _ w2 ⟨_, rfl, rfl, B2⟩
  have S2 := S1.grown B2
  have hs : sameF x x = x.formed := by unfold sameF; rw [same_refl, Bool.and_true, Bool.and_self]
  rw [hs]
  refine ⟨_, rfl, IFB_of (fun hf => ⟨_, S2.cell 0 rfl rfl, _, S2.cell 0 rfl rfl, _, S2.cell 0 rfl rfl, _, S2.cell 0 rfl rfl, _, S2.cell 0 rfl rfl, _, _, _, S2.cell 0 rfl rfl, (expr_Uses_ok (E.grown S2.bel) (hx.grown S2.bel)).mono ?_⟩) (fun hf => ⟨by simp [rightX, hf], S2.bel⟩)⟩
  rintro _ w3 ⟨_, rfl, a3, c3, t, rfl, hrise, hrd, hlen, B3⟩
  have S3 := S2.grown B3
  refine ⟨_, _, _, rfl, (any_string_ok hrd (rowsC_strs t) (by omega) (by kernel_rfl) (fun s => !okName s) ?_).mono ?_⟩
  · rintro w4 s _ B4 hs rfl
    show Calls Tryz.prog f.query_right_c1 #[.string s] w4 _
    apply R.query_right_c1_calls
    unfold R.query_right_c1
    refine (query_isName_ok s ((E.grown S3.bel).grown B4) (names_fit hx.fit s ((rise_mem hf hrise s).1 hs))).mono ?_
    rintro _ w5 ⟨_, rfl, rfl, B5⟩
    exact ⟨_, rfl, rfl, B5⟩
  · rintro _ w4 ⟨_, rfl, rfl, B4⟩
    refine ⟨_, rfl, ?_, (S3.grown B4).bel⟩
    congr 1
    unfold rightX
    rw [hf, Bool.true_and, ← rise_all hf hrise, List.all_eq_not_any_not]
end
/-! ### items -/
section
variable {w : World} {a : Option Addr} {c : Nat} {rs : List Value} {l : List Itm}
theorem query_place_ok (hl : Rd w a rs) (hC : RowsC (ItC (fun _ => False) w) l rs) (hn : l.length ≤ 9223372036854775807) (s : ByteArray) : Calls Tryz.prog f.query_place #[.slice a l.length c, .string s] w (Ret fun r w' => r = .int .i64 (idxV (placeOf l s)) ∧ Below w.heap.size w w') := by
  apply R.query_place_calls
  unfold R.query_place
  refine (ST.start w).newB fun b3 w1 _ _ S1 => (idx_api_Item_ok (w0 := w) (hl.grown S1.bel) hC hn (by kernel_rfl) (fun x => decide (x.1 = s)) ?_).mono ?_
  · rintro w2 x cs B2 _ ⟨ce, rfl, hx, hy⟩
    obtain ⟨a9, cap9, _, rfl, _⟩ := ExC.open hx
    show Calls Tryz.prog f.query_place_c1 #[.agg #[.string x.1, .int .i64 x.2.1, .int .i64 x.2.2.op, .string x.2.2.nm, .int .i64 x.2.2.v.1, .int .i64 x.2.2.v.2.1, .string x.2.2.v.2.2, .slice a9 x.2.2.ks.length cap9], .pointer (some ⟨b3, 0, none⟩)] w2 _
    apply R.query_place_c1_calls
    unfold R.query_place_c1
    have S2 := S1.grown B2
    exact (ST.start w2).newB fun b5 w3 _ B3 S3 => ⟨_, S3.cell 0 rfl rfl, _, (S2.grown B3).cell 0 rfl rfl, by rw [bytesEq_iff], S3.bel⟩
  · rintro _ w2 ⟨_, rfl, rfl, B2⟩
    exact ⟨_, rfl, rfl, (S1.grown B2).bel⟩
theorem it_name (hl : Rd w a rs) {w0 : World} (hC : RowsC (ItC (fun _ => False) w0) l rs) {i : Nat} (hi : i < l.length) : ∃ p, a = some p ∧ w.cell? (p.add (i * 8)) = some (.string l[i].1) := by
  obtain ⟨q, cc, rfl, hc, cell⟩ := rows_at (n := 8) (fun x c h => ItC.len h) (by decide) hl hC hi
  obtain ⟨ce, rfl, hx, hy⟩ := hc
  exact ⟨q, rfl, cell 0 _ rfl⟩
def itHead (i : Itm) (a : Option Addr) (cap : Nat) : List Value := .string i.1 :: .int .i64 i.2.1 :: exHead i.2.2 a cap
end
end Go.Proofs.YtbpdfpfgijhokaaGreatDoor
