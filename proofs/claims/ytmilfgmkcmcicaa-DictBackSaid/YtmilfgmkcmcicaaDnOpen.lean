/-
  Arguments, opened by their types: what the cells hold, slices down to their elements.
-/
import Derived.Test.YtmilfgmkcmcicaaDnLaws
import Derived.ChangeArms
import Derived.Deep.Slices
import Derived.OpenShut
namespace Go.Dn

/-- these cells hold a datum of the type -/
def Good (P : Program) (w : World) : Nat → TypeId → List Value → Prop
  | 0, _, _ => False
  | n + 1, t, cs =>
    match P.underlying t with
    | some .bool => ∃ b, cs = [.bool b]
    | some (.int k) => ∃ x, cs = [.int k x] ∧ (Lit.int k x).wf = true
    | some .string => ∃ s : ByteArray, cs = [.string s] ∧ s.size ≤ maxLen
    | some (.slice e) => ∃ a len cap, cs = [.slice a len cap] ∧ len ≤ cap ∧ cap ≤ maxLen ∧ (a = none → cap = 0) ∧
        ∃ rows : List (List Value), rows.length = len ∧ Rd w a rows.flatten ∧ ∀ r ∈ rows, r.length = P.cellsOf e ∧ Good P w n e r
    | some (.struct fs) => cs.length = P.cellsOf t ∧ ∀ f ∈ fs.toList, Good P w n f.type ((cs.drop f.offset).take (P.cellsOf f.type))
    | _ => True
section
variable {P : Program} {w : World}
theorem Good.bool {n : Nat} {t : TypeId} {cs : List Value} (h : Good P w n t cs) (ht : P.underlying t = some .bool) : ∃ b, cs = [.bool b] := by
  cases n with
  | zero => exact h.elim
  | succ n => unfold Good at h; rw [ht] at h; exact h
theorem Good.int {n : Nat} {t : TypeId} {cs : List Value} {k : IntKind} (h : Good P w n t cs) (ht : P.underlying t = some (.int k)) : ∃ x, cs = [.int k x] ∧ (Lit.int k x).wf = true := by
  cases n with
  | zero => exact h.elim
  | succ n => unfold Good at h; rw [ht] at h; exact h
theorem Good.str {n : Nat} {t : TypeId} {cs : List Value} (h : Good P w n t cs) (ht : P.underlying t = some .string) : ∃ s : ByteArray, cs = [.string s] ∧ s.size ≤ maxLen := by
  cases n with
  | zero => exact h.elim
  | succ n => unfold Good at h; rw [ht] at h; exact h
theorem Good.slice {n : Nat} {t e : TypeId} {cs : List Value} (h : Good P w n t cs) (ht : P.underlying t = some (.slice e)) : ∃ a len cap, cs = [.slice a len cap] ∧ len ≤ cap ∧ cap ≤ maxLen ∧ (a = none → cap = 0) ∧
        ∃ (m : Nat) (rows : List (List Value)), rows.length = len ∧ Rd w a rows.flatten ∧ ∀ r ∈ rows, r.length = P.cellsOf e ∧ Good P w m e r := by
  cases n with
  | zero => exact h.elim
  | succ n =>
    unfold Good at h
    rw [ht] at h
    obtain ⟨a, len, cap, h1, h2, h3, h4, rows, h5⟩ := h
    exact ⟨a, len, cap, h1, h2, h3, h4, n, rows, h5⟩
theorem Good.struct {n : Nat} {t : TypeId} {cs : List Value} {fs : Array Field} (h : Good P w n t cs) (ht : P.underlying t = some (.struct fs)) :
    cs.length = P.cellsOf t ∧ ∃ m, ∀ f ∈ fs.toList, Good P w m f.type ((cs.drop f.offset).take (P.cellsOf f.type)) := by
  cases n with
  | zero => exact h.elim
  | succ n =>
    unfold Good at h
    rw [ht] at h
    exact ⟨h.1, n, h.2⟩

/-- a struct's fields: types and places -/
def fieldsT (P : Program) (t : TypeId) : Option (List (TypeId × Nat)) :=
  match P.underlying t with
  | some (.struct fs) => some (fs.toList.map fun f => (f.type, f.offset))
  | _ => none
theorem Good.fields {n : Nat} {t : TypeId} {cs : List Value} {l : List (TypeId × Nat)} (h : Good P w n t cs) (ht : fieldsT P t = some l) :
    cs.length = P.cellsOf t ∧ ∃ m, ∀ x ∈ l, Good P w m x.1 ((cs.drop x.2).take (P.cellsOf x.1)) := by
  unfold fieldsT at ht
  split at ht
  · rename_i fs hu
    obtain ⟨h1, m, h2⟩ := h.struct hu
    cases ht
    refine ⟨h1, m, fun x hx => ?_⟩
    obtain ⟨f, hf, rfl⟩ := List.mem_map.1 hx
    exact h2 f hf
  · cases ht
theorem okWide_agg {t : TypeId} {v : Value} {r : Reach} {base : Nat} {l : List (TypeId × Nat)} (ht : fieldsT P t = some l) (h : Value.okWide P w r base t v) : ∃ cs, v = .agg cs := by
  unfold fieldsT at ht
  split at ht
  · rename_i fs hu
    unfold Value.okWide at h
    rw [hu] at h
    obtain ⟨cs, rfl, _⟩ := h
    exact ⟨cs, rfl⟩
  · cases ht

theorem flatten_get (sz : Nat) : ∀ (rows : List (List Value)), (∀ r ∈ rows, r.length = sz) → ∀ j v, rows.flatten[j]? = some v → 0 < sz ∧ j / sz < rows.length ∧ ∃ r, rows[j / sz]? = some r ∧ r[j % sz]? = some v
  | [], _, j, v, h => by simp at h
  | r :: rows, hl, j, v, h => by
    have hr : r.length = sz := hl r (by simp)
    rw [List.flatten_cons] at h
    by_cases hj : j < sz
    · rw [List.getElem?_append_left (by omega)] at h
      refine ⟨by omega, by rw [Nat.div_eq_of_lt hj]; simp, r, by rw [Nat.div_eq_of_lt hj]; rfl, by rw [Nat.mod_eq_of_lt hj]; exact h⟩
    · rw [List.getElem?_append_right (by omega), hr] at h
      obtain ⟨h0, h1, r', h2, h3⟩ := flatten_get sz rows (fun r hr => hl r (by simp [hr])) (j - sz) v h
      have e : j / sz = (j - sz) / sz + 1 := by
        have := Nat.add_div_right (j - sz) h0
        rw [show j - sz + sz = j by omega] at this
        exact this
      have e2 : j % sz = (j - sz) % sz := Nat.mod_eq_sub_mod (by omega)
      refine ⟨h0, by rw [e]; simp; exact h1, r', by rw [e]; simpa using h2, by rw [e2]; exact h3⟩

theorem good_of_trod {H : Type} {enc : TypeId × Value → H} {spare : Nat → Bool} {held : Bool} {base : Nat} : ∀ (n : Nat) (t : TypeId) (cs : List Value) (x : DataW H × List MemPlace), DataW.trod enc P w base spare held n t cs = some x → Good P w n t cs
  | 0, _, _, _, h => by simp [DataW.trod] at h
  | n + 1, t, cs, x, h => by
    unfold Good
    split
    · rename_i ht; obtain ⟨b, rfl, _⟩ := DataW.trod_bool ht h; exact ⟨b, rfl⟩
    · rename_i k ht; obtain ⟨z, rfl, _, hw⟩ := DataW.trod_int ht h; exact ⟨z, rfl, hw⟩
    · rename_i ht; obtain ⟨s, rfl, _, hw⟩ := DataW.trod_string ht h; exact ⟨s, rfl, hw⟩
    · rename_i e ht
      rcases DataW.trod_slice ht h with ⟨rfl, _⟩ | ⟨a, len, cap, elems, rest, m, hn, rfl, _, hb, hl, hm, hlen, hel, _, _⟩
      · exact ⟨none, 0, 0, rfl, Nat.le_refl _, Nat.zero_le _, fun _ => rfl, [], rfl, Rd.nil _ _, by simp⟩
      · have hnm : n = m := by omega
        subst hnm
        have hx : ∀ i, i < len → ∃ cs' : List Value, w.cells? base (a.add (i * P.cellsOf e)) (P.cellsOf e) = some cs' ∧ Good P w n e cs' := by
          intro i hi
          have := hel i hi
          rw [List.getElem?_eq_getElem (by omega)] at this
          obtain ⟨cs', h1, h2⟩ := Option.bind_eq_some_iff.1 this
          exact ⟨cs', h1, good_of_trod n e cs' _ h2⟩
        obtain ⟨V, hV⟩ := Deep.choose_lt (α := List Value) hx
        have hrows : ∀ r ∈ (List.range len).map V, r.length = P.cellsOf e ∧ Good P w n e r := by
          intro r hr
          obtain ⟨i, hi, rfl⟩ := List.mem_map.1 hr
          have := hV i (by simpa using hi)
          exact ⟨(World.cells?_some this.1).2.1, this.2⟩
        refine ⟨some a, len, cap, rfl, hl, hm, (fun h => nomatch h), (List.range len).map V, by simp, ?_, hrows⟩
        intro j v hv
        obtain ⟨h0, h1, r, h2, h3⟩ := flatten_get (P.cellsOf e) _ (fun r hr => (hrows r hr).1) j v hv
        refine ⟨a, rfl, ?_⟩
        simp only [List.length_map, List.length_range] at h1
        simp only [List.getElem?_map, List.getElem?_range h1, Option.map_some, Option.some.injEq] at h2
        subst h2
        obtain ⟨hc, hg⟩ := hV _ h1
        have hlt : j % P.cellsOf e < P.cellsOf e := Nat.mod_lt _ h0
        have := (World.cells?_some hc).2.2 _ hlt
        rw [addr_add_add, h3] at this
        rw [← this]
        congr 2
        rw [Nat.mul_comm]
        exact (Nat.div_add_mod j _).symm
    · rename_i fs ht
      unfold DataW.trod at h
      rw [ht] at h
      simp only at h
      split at h
      · rename_i hlen
        refine ⟨hlen, fun f hf => ?_⟩
        obtain ⟨xs, hxs, _⟩ := Option.map_eq_some_iff.1 h
        obtain ⟨i, hi⟩ := List.getElem?_of_mem hf
        have hl := mapM_some_length hxs
        have hlt := (List.getElem?_eq_some_iff.1 hi).1
        have hg := mapM_some_get hxs i f hi
        rw [List.getElem?_eq_getElem (by omega)] at hg
        exact good_of_trod n _ _ _ hg
      · cases h
    · trivial

/-- rows of one kind, as a list of what they hold -/
theorem rows_of {α : Type} {rows : List (List Value)} {g : α → List Value} {q : α → Prop} (h : ∀ r ∈ rows, ∃ x, r = g x ∧ q x) : ∃ xs : List α, rows = xs.map g ∧ ∀ x ∈ xs, q x := by
  induction rows with
  | nil => exact ⟨[], rfl, by simp⟩
  | cons r rows ih =>
    obtain ⟨x, rfl, hx⟩ := h r (by simp)
    obtain ⟨xs, rfl, hxs⟩ := ih fun r hr => h r (by simp [hr])
    exact ⟨x :: xs, rfl, by simpa using ⟨hx, hxs⟩⟩
/-- a slice's elements, as a list of what they hold -/
theorem Good.list {α : Type} {n : Nat} {t e : TypeId} {cs : List Value} (h : Good P w n t cs) (ht : P.underlying t = some (.slice e)) (g : α → List Value) (q : α → Prop) (hg : ∀ m r, r.length = P.cellsOf e → Good P w m e r → ∃ x, r = g x ∧ q x) :
    ∃ a cap, ∃ xs : List α, cs = [.slice a xs.length cap] ∧ xs.length ≤ cap ∧ cap ≤ maxLen ∧ (a = none → cap = 0) ∧ Rd w a (xs.flatMap g) ∧ ∀ x ∈ xs, q x := by
  obtain ⟨a, len, cap, rfl, h1, h2, h3, m, rows, rfl, hr, hrs⟩ := h.slice ht
  obtain ⟨xs, rfl, hq⟩ := rows_of (fun r hr => hg m r (hrs r hr).1 (hrs r hr).2)
  simp only [List.length_map] at h1 ⊢
  exact ⟨a, cap, xs, rfl, h1, h2, h3, by rw [List.flatMap_def]; exact hr, hq⟩
/-- a slice among the arguments: its elements as a list -/
def GL {α : Type} (w : World) (g : α → List Value) (q : α → Prop) (a : Option Addr) (xs : List α) (c : Nat) : Prop :=
  xs.length ≤ c ∧ c ≤ maxLen ∧ (a = none → c = 0) ∧ Rd w a (xs.flatMap g) ∧ ∀ x ∈ xs, q x
theorem Good.gl {α : Type} {n : Nat} {t e : TypeId} {a0 : Option Addr} {l0 c0 : Nat} (h : Good P w n t (Value.slice a0 l0 c0).cells.toList) (ht : P.underlying t = some (.slice e)) (g : α → List Value) (q : α → Prop) (hg : ∀ m r, r.length = P.cellsOf e → Good P w m e r → ∃ x, r = g x ∧ q x) :
    ∃ xs : List α, l0 = xs.length ∧ GL w g q a0 xs c0 := by
  obtain ⟨a, c, xs, he, h1⟩ := h.list ht g q hg
  have he' : [Value.slice a0 l0 c0] = [.slice a xs.length c] := he
  simp only [List.cons.injEq, Value.slice.injEq, and_true] at he'
  obtain ⟨rfl, rfl, rfl⟩ := he'
  exact ⟨xs, rfl, h1⟩
def strC (s : ByteArray) : List Value := [.string s]
def strQ (s : ByteArray) : Prop := s.size ≤ maxLen
def boolC (b : Bool) : List Value := [.bool b]
def boolQ (_ : Bool) : Prop := True
def intC (k : IntKind) (x : Int) : List Value := [.int k x]
def intQ (k : IntKind) (x : Int) : Prop := (Lit.int k x).wf = true
theorem good_str {e : TypeId} (he : P.underlying e = some .string) : ∀ m r, r.length = P.cellsOf e → Good P w m e r → ∃ x, r = strC x ∧ strQ x := fun _ _ _ h => h.str he
theorem good_bool {e : TypeId} (he : P.underlying e = some .bool) : ∀ m r, r.length = P.cellsOf e → Good P w m e r → ∃ x, r = boolC x ∧ boolQ x := fun _ _ _ h => (h.bool he).imp fun _ h => ⟨h, trivial⟩
theorem good_int {e : TypeId} {k : IntKind} (he : P.underlying e = some (.int k)) : ∀ m r, r.length = P.cellsOf e → Good P w m e r → ∃ x, r = intC k x ∧ intQ k x := fun _ _ _ h => h.int he
theorem flat1 {α β : Type} (f : α → β) : ∀ l : List α, (l.flatMap fun x => [f x]) = l.map f
  | [] => rfl
  | x :: l => by rw [List.flatMap_cons, flat1 f l]; rfl
end
end Go.Dn
