/-
  Texts of this claim, laid one behind the other by a program of mine (install.py): Dn.Mem, Dn.Laws, Dn.Str, Dn.Laws2, Dn.Laws3, Dn.Laws4, P.Wire, Dn.Open, P.Val, P.Shelf, P.Show, P.PlEnv, P.ShelfQ, P.Vtx, Dn.Sh3, P.RShow, P.Ex, P.Sch1, P.Sch2, P.Sch3, Dn.Arr, Dn.Arr2.
-/
import Derived.Test.YtbpdfpfgijhokaaGreatDoorM2
import Derived.Below
import Derived.Laws.MakeOwn
import Derived.Laws.BytesString
import Derived.Laws.NewBlocks
import Derived.Laws.OwnMore
import Derived.Laws.StructEq
import Derived.Laws.Strings2
import Derived.Laws.BytesArg
import Derived.Test.YtbpdfpfgijhokaaGreatDoorRead
import Derived.Test.YtbpdfpfgijhokaaGreatDoorM1
import Derived.ChangeArms
import Derived.Deep.Slices
import Derived.OpenShut
import Derived.Shelf.Strings.Builder1
import Derived.Shelf.Strings.Builder2
import Derived.Shelf.Strings.OnBuilder
import Derived.Shelf.Strings.Trim
import Derived.Shelf.Small.Utf8
import Derived.Shelf.Small.Bits
import Derived.Shelf.Small.Strs
import Derived.Shelf.Strings.BuilderF
import Derived.Shelf.Utf8.RuneCount
import Derived.Shelf.Strings.Builder2Cap
import Derived.Shelf.Strconv.Atoi
import Derived.Shelf.Strconv.Itoa0
import Derived.Shelf.Strconv.Itoa1
import Derived.Shelf.LaysM
import Derived.Shelf.Strconv.Itoa2
import Derived.Shelf.Strconv.Itoa3
import Derived.Shelf.Strconv.Itoa4
import Derived.Shelf.Strconv.AtoiErrFast
import Derived.Shelf.Strconv.ParseIntEmpty
import Derived.Shelf.Strconv.Clone
import Derived.Shelf.Strconv.Lower
import Derived.Shelf.Strconv.ParseUint10Empty
import Derived.Shelf.Strconv.ParseUintEmpty
import Derived.Shelf.Strings.Search1
import Derived.Shelf.Strings.Search2
import Derived.Shelf.Strings.Search3
import Derived.Shelf.Strings.Count
import Derived.Shelf.Strings.Shaped
import Derived.Shelf.Sort.Plain
import Derived.Shelf.Strings.Prefix
import Derived.Shelf.Strings.Split
import Derived.Shelf.Strings.Replace
import Derived.Shelf.Strings.SplitShaped
import Derived.Shelf.Unicode.Decode
import Derived.Shelf.Strings.Runes
import Derived.Shelf.Strings.RuneCount
import Derived.Shelf.Strings.AsciiSet
import Derived.Shelf.Unicode.DecodeSlow
import Derived.Shelf.Unicode.DecodeAny
import Derived.Shelf.Unicode.DecodeLast
import Derived.Ground.Names2Prog
import Derived.Shelf.Slices.CompactI
import Derived.Shelf.Slices.CompactS
import Derived.Shelf.Slices.SearchI
import Derived.Shelf.Slices.Cells
import Derived.Shelf.Slices.In.SortNone
import Derived.Test.YtbpdfpfgijhokaaGreatDoorProg
import Derived.Test.YtbpdfpfgijhokaaGreatDoorRows
import Derived.Shelf.LaysC
import Derived.Shelf.Strconv.AtoiAll
import Derived.Shelf.Strconv.ErrVarAll
import Derived.Shelf.Strconv.ParseIntPublic10
import Derived.Shelf.Strconv.ErrVarParseInt
import Derived.Laws.CopyRow
import Derived.Laws.IdiomCopy
namespace Go.Dn
set_option linter.unusedVariables false
set_option maxRecDepth 100000
open Go.RowKit (Below)
/-! ## What stays -/
structure Keeps (F : Nat → Prop) (w w' : World) : Prop where
  os : w'.os = w.os
  tape : w'.tape = w.tape
  output : w'.output = w.output
  size : w.heap.size ≤ w'.heap.size
  block : ∀ k, k < w.heap.size → ¬ F k → w'.heap[k]? = w.heap[k]?
theorem Keeps.refl (F : Nat → Prop) (w : World) : Keeps F w w := ⟨rfl, rfl, rfl, Nat.le_refl _, fun _ _ _ => rfl⟩
theorem Keeps.trans {F G : Nat → Prop} {a b c : World} (h : Keeps F a b) (h' : Keeps G b c) (hs : ∀ k, k < a.heap.size → G k → F k) : Keeps F a c :=
  ⟨h'.os.trans h.os, h'.tape.trans h.tape, h'.output.trans h.output, Nat.le_trans h.size h'.size,
    fun k hk hn => (h'.block k (Nat.lt_of_lt_of_le hk h.size) fun hg => hn (hs k hk hg)).trans (h.block k hk hn)⟩
theorem Keeps.mono {F G : Nat → Prop} {a b : World} (h : Keeps F a b) (hs : ∀ k, k < a.heap.size → F k → G k) : Keeps G a b :=
  ⟨h.os, h.tape, h.output, h.size, fun k hk hn => h.block k hk fun hf => hn (hs k hk hf)⟩
theorem Keeps.of_below {F : Nat → Prop} {a b : World} (h : Below a.heap.size a b) : Keeps F a b := ⟨h.os, h.tape, h.output, h.size, fun k hk _ => h.block k hk⟩
theorem Keeps.below {F : Nat → Prop} {a b : World} {B : Nat} (h : Keeps F a b) (hB : B ≤ a.heap.size) (hs : ∀ k, k < B → ¬ F k) : Below B a b :=
  ⟨h.os, h.tape, h.output, h.size, fun k hk => h.block k (Nat.lt_of_lt_of_le hk hB) (hs k hk)⟩
theorem Keeps.alloc {F : Nat → Prop} {a w : World} (h : Keeps F a w) (o : Obj) : Keeps F a (w.alloc o) :=
  ⟨h.os, h.tape, h.output, Nat.le_trans h.size (by simp), fun k hk hn => (Below.heap_alloc w o k (Nat.lt_of_lt_of_le hk h.size)).trans (h.block k hk hn)⟩
theorem Keeps.drew {F : Nat → Prop} {a w : World} (h : Keeps F a w) : Keeps F a w.drew := ⟨h.os, h.tape, h.output, h.size, h.block⟩
theorem Keeps.setCell {F : Nat → Prop} {a w : World} (h : Keeps F a w) {p : Addr} (hp : F p.block ∨ a.heap.size ≤ p.block) (v : Value) : Keeps F a (w.setCell p v) :=
  ⟨h.os, h.tape, h.output, by simpa using h.size, fun k hk hn => by
    rw [Below.heap_setCell w p v k (by rintro rfl; rcases hp with hp | hp; exact hn hp; omega)]
    exact h.block k hk hn⟩
theorem Keeps.cell {F : Nat → Prop} {a b : World} (h : Keeps F a b) {p : Addr} {v : Value} (hc : a.cell? p = some v) (hn : ¬ F p.block) : b.cell? p = some v :=
  (World.cell?_of_block (w := a) (h.block p.block (World.block_lt_of_cell? a p hc) hn)).trans hc
theorem Keeps.at {F : Nat → Prop} {a b : World} (h : Keeps F a b) {k : Nat} {o : Obj} (hc : a.heap[k]? = some o) (hn : ¬ F k) : b.heap[k]? = some o :=
  (h.block k (Array.getElem?_eq_some_iff.1 hc).1 hn).trans hc
/-! ## Known blocks -/
abbrev Ent := Nat × Array Value × TypeId
structure SH (F : Nat → Prop) (w0 w : World) (H : List Ent) : Prop where
  keeps : Keeps F w0 w
  mem : ∀ x ∈ H, w.heap[x.1]? = some (.cells x.2.1 x.2.2 (0, 0))
  nodup : (H.map (·.1)).Nodup
  own : ∀ x ∈ H, F x.1 ∨ w0.heap.size ≤ x.1
section
variable {F : Nat → Prop} {w0 w : World} {H : List Ent}
theorem SH.lt (S : SH F w0 w H) {x : Ent} (hx : x ∈ H) : x.1 < w.heap.size := (Array.getElem?_eq_some_iff.1 (S.mem x hx)).1
theorem SH.start (F : Nat → Prop) (w : World) : SH F w w [] := ⟨.refl F w, by simp, by simp, by simp⟩
theorem SH.alloc (S : SH F w0 w H) (cs : Array Value) (t : TypeId) : SH F w0 (w.alloc (.cells cs t)) ((w.heap.size, cs, t) :: H) where
  keeps := S.keeps.alloc _
  mem := by
    intro x hx
    rcases List.mem_cons.1 hx with rfl | hx
    · exact heap_alloc_new w _
    · rw [Below.heap_alloc w _ x.1 (S.lt hx)]; exact S.mem x hx
  nodup := by
    simp only [List.map_cons, List.nodup_cons]
    refine ⟨fun hm => ?_, S.nodup⟩
    obtain ⟨x, hx, he⟩ := List.mem_map.1 hm
    have := S.lt hx
    omega
  own := by
    intro x hx
    rcases List.mem_cons.1 hx with rfl | hx
    · exact .inr S.keeps.size
    · exact S.own x hx
theorem SH.get (S : SH F w0 w H) (n : Nat) {b : Nat} {cs : Array Value} {t : TypeId} (hn : H[n]? = some (b, cs, t)) : w.heap[b]? = some (.cells cs t (0, 0)) :=
  S.mem _ (List.mem_of_getElem? hn)
theorem SH.cell (S : SH F w0 w H) (n : Nat) {b : Nat} {cs : Array Value} {t : TypeId} (hn : H[n]? = some (b, cs, t)) {i : Nat} {v : Value} (hv : cs[i]? = some v) : w.cell? ⟨b, i, none⟩ = some v := by
  have := S.get n hn
  simp [World.cell?, this, hv]
theorem SH.free (S : SH F w0 w H) (n : Nat) {b : Nat} {cs : Array Value} {t : TypeId} (hn : H[n]? = some (b, cs, t)) (i : Nat) : w.frozen? ⟨b, i, none⟩ = false := by
  have := S.get n hn
  simp [World.frozen?, this]
theorem nodup_ne {α : Type} {l : List α} (h : l.Nodup) {i j : Nat} {x y : α} (hi : l[i]? = some x) (hj : l[j]? = some y) (hne : i ≠ j) : x ≠ y := by
  obtain ⟨h1, rfl⟩ := List.getElem?_eq_some_iff.1 hi
  obtain ⟨h2, rfl⟩ := List.getElem?_eq_some_iff.1 hj
  intro he
  rcases Nat.lt_or_gt_of_ne hne with hlt | hlt
  · exact (List.pairwise_iff_getElem.1 h) i j h1 h2 hlt he
  · exact (List.pairwise_iff_getElem.1 h) j i h2 h1 hlt he.symm
theorem SH.setAt (S : SH F w0 w H) (n : Nat) {b : Nat} {cs : Array Value} {t : TypeId} (hn : H[n]? = some (b, cs, t)) {w' : World} {cs' : Array Value} (hk : Keeps (· = b) w w')
    (hb : w'.heap[b]? = some (.cells cs' t (0, 0))) : SH F w0 w' (H.set n (b, cs', t)) where
  keeps := S.keeps.trans hk fun k hlt he => by
    subst he
    rcases S.own _ (List.mem_of_getElem? hn) with h | h
    · exact h
    · exact absurd hlt (Nat.not_lt.2 h)
  mem := by
    intro x hx
    obtain ⟨i, hi⟩ := List.mem_iff_getElem?.1 hx
    by_cases hin : n = i
    · subst hin
      have hlt := (List.getElem?_eq_some_iff.1 hn).1
      rw [List.getElem?_set_self hlt] at hi
      cases hi
      exact hb
    · rw [List.getElem?_set_ne hin] at hi
      have hne : x.1 ≠ b := by
        refine nodup_ne S.nodup (i := i) (j := n) ?_ ?_ (Ne.symm hin)
        · simp [hi]
        · simp [hn]
      exact hk.at (S.mem x (List.mem_of_getElem? hi)) hne
  nodup := by
    have : (H.set n (b, cs', t)).map (·.1) = H.map (·.1) := by
      apply List.ext_getElem?
      intro i
      simp only [List.getElem?_map]
      by_cases hin : n = i
      · subst hin
        have hlt := (List.getElem?_eq_some_iff.1 hn).1
        rw [List.getElem?_set_self hlt, hn]
        rfl
      · rw [List.getElem?_set_ne hin]
    rw [this]
    exact S.nodup
  own := by
    intro x hx
    obtain ⟨i, hi⟩ := List.mem_iff_getElem?.1 hx
    by_cases hin : n = i
    · subst hin
      have hlt := (List.getElem?_eq_some_iff.1 hn).1
      rw [List.getElem?_set_self hlt] at hi
      cases hi
      exact S.own (b, cs, t) (List.mem_of_getElem? hn)
    · rw [List.getElem?_set_ne hin] at hi
      exact S.own x (List.mem_of_getElem? hi)
theorem keeps_setCell (w : World) (b i : Nat) (v : Value) : Keeps (· = b) w (w.setCell ⟨b, i, none⟩ v) := Keeps.setCell (F := (· = b)) (Keeps.refl _ w) (p := ⟨b, i, none⟩) (.inl rfl) v
theorem heap_setCell_at {w : World} {b i : Nat} {cs : Array Value} {t : TypeId} {f : Nat × Nat} (h : w.heap[b]? = some (.cells cs t f)) (v : Value) :
    (w.setCell ⟨b, i, none⟩ v).heap[b]? = some (.cells (cs.setIfInBounds i v) t f) := by
  simp [World.setCell, Array.getElem?_modify, h]
theorem SH.sto (S : SH F w0 w H) (n : Nat) {b : Nat} {cs : Array Value} {t : TypeId} (hn : H[n]? = some (b, cs, t)) {i : Nat} {v : Value} {k : World → Prop} (hi : i < cs.size)
    (hk : ∀ w', SH F w0 w' (H.set n (b, cs.setIfInBounds i v, t)) → k w') : STO ⟨b, i, none⟩ v k w := by
  refine ⟨?_, S.free n hn i, hk _ (S.setAt n hn (keeps_setCell w b i v) (heap_setCell_at (S.get n hn) v))⟩
  rw [S.cell n hn (Array.getElem?_eq_getElem hi)]
  rfl
theorem SH.grown (S : SH F w0 w H) {w' : World} (h : Below w.heap.size w w') : SH F w0 w' H where
  keeps := S.keeps.trans (Keeps.of_below (F := fun _ => False) h) (by simp)
  mem := fun x hx => (h.block x.1 (S.lt hx)).trans (S.mem x hx)
  nodup := S.nodup
  own := S.own
end
end Go.Dn
namespace Go.Dn
set_option linter.unusedVariables false
set_option maxRecDepth 100000
open Go.RowKit (Below)
theorem addr_add_add (p : Addr) (x y : Nat) : (p.add x).add y = p.add (x + y) := by
  unfold Addr.add
  by_cases hx : x = 0
  · subst hx; simp
  · by_cases hy : y = 0
    · subst hy; simp
    · simp [hx, hy, Nat.add_assoc]
theorem addr_add_zero (p : Addr) : p.add 0 = p := by simp [Addr.add]
theorem addr_add_blk (b i j : Nat) : (⟨b, i, none⟩ : Addr).add j = ⟨b, i + j, none⟩ := by
  unfold Addr.add
  by_cases hj : j = 0
  · subst hj; simp
  · simp [hj]
theorem addr_add_block (p : Addr) (x : Nat) : (p.add x).block = p.block := by
  unfold Addr.add
  split <;> rfl
def Rd (w : World) (a : Option Addr) (vs : List Value) : Prop := ∀ j v, vs[j]? = some v → ∃ p, a = some p ∧ w.cell? (p.add j) = some v
theorem Rd.nil (w : World) (a : Option Addr) : Rd w a [] := by intro j v h; simp at h
theorem Rd.keeps {F : Nat → Prop} {w w' : World} {a : Option Addr} {vs : List Value} (h : Rd w a vs) (hk : Keeps F w w') (hn : ∀ p, a = some p → ¬ F p.block) : Rd w' a vs := by
  intro j v hv
  obtain ⟨p, hp, hc⟩ := h j v hv
  exact ⟨p, hp, hk.cell hc (by rw [addr_add_block]; exact hn p hp)⟩
theorem Rd.grown {w w' : World} {a : Option Addr} {vs : List Value} (h : Rd w a vs) (hk : Below w.heap.size w w') : Rd w' a vs :=
  h.keeps (F := fun _ => False) (Keeps.of_below hk) (by simp)
theorem Rd.take {w : World} {a : Option Addr} {vs : List Value} (h : Rd w a vs) (n : Nat) : Rd w a (vs.take n) := by
  intro j v hv
  rw [List.getElem?_take] at hv
  split at hv
  · exact h j v hv
  · cases hv
theorem Rd.drop {w : World} {p : Addr} {vs : List Value} (h : Rd w (some p) vs) (n : Nat) : Rd w (some (p.add n)) (vs.drop n) := by
  intro j v hv
  rw [List.getElem?_drop] at hv
  obtain ⟨q, hq, hc⟩ := h _ v hv
  cases hq
  exact ⟨_, rfl, by rw [addr_add_add]; exact hc⟩
theorem Rd.sla {w : World} {a : Option Addr} {vs : List Value} (h : Rd w a vs) (l hh m sz : Nat) (h2 : hh ≤ m) : Rd w (SLA a l m sz) ((vs.drop (l * sz)).take ((hh - l) * sz)) := by
  unfold SLA
  split
  · have : hh - l = 0 := by omega
    rw [this]
    simp [Rd]
  · cases a with
    | none =>
      intro j v hv
      rw [List.getElem?_take] at hv
      split at hv
      · rw [List.getElem?_drop] at hv
        obtain ⟨p, hp, _⟩ := h _ v hv
        cases hp
      · cases hv
    | some p => exact (h.drop (l * sz)).take _
theorem Rd.of_block {w : World} {b : Nat} {cs : Array Value} {t : TypeId} {f : Nat × Nat} (h : w.heap[b]? = some (.cells cs t f)) (i : Nat) : Rd w (some ⟨b, i, none⟩) (cs.toList.drop i) := by
  intro j v hv
  refine ⟨_, rfl, ?_⟩
  rw [addr_add_blk]
  rw [List.getElem?_drop] at hv
  simp [World.cell?, h]
  simpa using hv
theorem Rd.of_block0 {w : World} {b : Nat} {cs : Array Value} {t : TypeId} {f : Nat × Nat} (h : w.heap[b]? = some (.cells cs t f)) : Rd w (some ⟨b, 0, none⟩) cs.toList := by
  have := Rd.of_block h 0
  simpa using this
def rowB (a : Option Addr) : Option Nat := a.map (·.block)
def Row (w : World) (e : TypeId) (sz : Nat) (a : Option Addr) (n c : Nat) (xs : List Value) : Prop :=
  xs.length = n * sz ∧ ((a = none ∧ n = 0 ∧ c = 0) ∨
    ∃ g cur, a = some ⟨g, 0, none⟩ ∧ w.heap[g]? = some (.cells cur e (0, 0)) ∧ n ≤ c ∧ c ≤ 9223372036854775807 ∧ cur.size = c * sz ∧ cur.toList.take (n * sz) = xs)
theorem Row.nil (w : World) (e : TypeId) (sz : Nat) : Row w e sz none 0 0 [] := ⟨by simp, .inl ⟨rfl, rfl, rfl⟩⟩
theorem Row.rd {w : World} {e : TypeId} {sz : Nat} {a : Option Addr} {n c : Nat} {xs : List Value} (h : Row w e sz a n c xs) : Rd w a xs := by
  rcases h with ⟨hl, ⟨rfl, rfl, rfl⟩ | ⟨g, cur, rfl, hg, _, _, _, rfl⟩⟩
  · have : xs = [] := List.eq_nil_of_length_eq_zero (by simpa using hl)
    subst this
    exact Rd.nil _ _
  · exact (Rd.of_block0 hg).take _
theorem Row.lt {w : World} {e : TypeId} {sz : Nat} {a : Option Addr} {n c : Nat} {xs : List Value} (h : Row w e sz a n c xs) {k : Nat} (hk : rowB a = some k) : k < w.heap.size := by
  rcases h with ⟨_, ⟨rfl, _⟩ | ⟨g, cur, rfl, hg, _⟩⟩
  · cases hk
  · cases hk; exact (Array.getElem?_eq_some_iff.1 hg).1
theorem Row.keeps {F : Nat → Prop} {w w' : World} {e : TypeId} {sz : Nat} {a : Option Addr} {n c : Nat} {xs : List Value} (h : Row w e sz a n c xs) (hk : Keeps F w w') (hn : ∀ k, rowB a = some k → ¬ F k) : Row w' e sz a n c xs := by
  refine ⟨h.1, ?_⟩
  rcases h.2 with h | ⟨g, cur, rfl, hg, r⟩
  · exact .inl h
  · exact .inr ⟨g, cur, rfl, hk.at hg (hn g rfl), r⟩
theorem Row.grown {w w' : World} {e : TypeId} {sz : Nat} {a : Option Addr} {n c : Nat} {xs : List Value} (h : Row w e sz a n c xs) (hk : Below w.heap.size w w') : Row w' e sz a n c xs :=
  h.keeps (F := fun _ => False) (Keeps.of_below hk) (by simp)
def slT (P : Program) (t : TypeId) : Option (TypeId × Nat × Nat × Value) :=
  match P.underlying t with
  | some (.slice e) =>
    (match P.info? e with
    | some i => (match i.zero with
      | some z => some (e, i.size, i.bytes, z)
      | none => none)
    | none => none)
  | _ => none
theorem slT_out {P : Program} {t e : TypeId} {sz by_ : Nat} {z : Value} (h : slT P t = some (e, sz, by_, z)) : P.underlying t = some (.slice e) ∧ ∃ i, P.info? e = some i ∧ i.zero = some z ∧ i.size = sz ∧ i.bytes = by_ := by
  unfold slT at h
  split at h
  · rename_i e' hu
    split at h
    · rename_i i hi
      split at h
      · rename_i z' hz
        simp only [Option.some.injEq, Prod.mk.injEq] at h
        obtain ⟨rfl, rfl, rfl, rfl⟩ := h
        exact ⟨hu, i, hi, hz, rfl, rfl⟩
      · cases h
    · cases h
  · cases h
theorem keeps_setRow (w : World) (g : Nat) (cs : Array Value) : Keeps (· = g) w (w.setRow g cs) :=
  ⟨rfl, rfl, rfl, by simp [World.setRow], fun k _ hn => by simp only [World.setRow, Array.getElem?_modify]; rw [if_neg (fun h => hn h.symm)]⟩
theorem heap_setRow {w : World} {g : Nat} {cur cs : Array Value} {t : TypeId} {f : Nat × Nat} (h : w.heap[g]? = some (.cells cur t f)) : (w.setRow g cs).heap[g]? = some (.cells cs t f) := by
  simp [World.setRow, Array.getElem?_modify, h]
theorem append_row {P : Program} {t ty e : TypeId} {sz bytes : Nat} {z : Value} (hT : slT P t = some (e, sz, bytes, z)) (hz : z.cells.size = sz) (hsz : 0 < sz) (hb0 : 0 < bytes)
    {w : World} {a : Option Addr} {n c : Nat} {xs : List Value} (hr : Row w e sz a n c xs) {b : Option Addr} {m mc : Nat} {news : List Value} (hs : Rd w b news) (hl : news.length = m * sz)
    (h1 : ∀ u ∈ news, u.oneCell' = true) (hby : (n + m) * bytes ≤ 140737488355328) :
    ∃ a' c' w', (Builtin.append_ #[t, t] ty #[.slice a n c, .slice b m mc]).run P w = .ok (.slice a' (n + m) c') w' ∧ Row w' e sz a' (n + m) c' (xs ++ news) ∧
      Keeps (fun k => rowB a = some k) w w' ∧ (∀ k, rowB a' = some k → rowB a = some k ∨ w.heap.size ≤ k) := by
  obtain ⟨hu, i, hi, hiz, rfl, rfl⟩ := slT_out hT
  have hnm : n + m ≤ 140737488355328 := Nat.le_trans (Nat.le_mul_of_pos_right _ hb0) hby
  have hlen : (xs ++ news).length = (n + m) * i.size := by rw [List.length_append, hr.1, hl, Nat.add_mul]
  -- a grown row
  have grown : ∀ (old : Nat), old < n + m → Row (w.drew.alloc (.cells (xs.toArray ++ news.toArray ++ Builtin.zeroCells z.cells (grownCap w (n + m) old e - (n + m))) e)) e i.size
      (some ⟨w.heap.size, 0, none⟩) (n + m) (grownCap w (n + m) old e) (xs ++ news) := by
    intro old ho
    have hge := grownCap_ge w (n + m) old e
    have hcm : grownCap w (n + m) old e ≤ maxLen := grownCap_le_maxLen w (n + m) old e (by unfold maxLen; omega)
    refine ⟨hlen, .inr ⟨w.heap.size, _, rfl, heap_alloc_new w.drew _, hge, by unfold maxLen at hcm; omega, ?_, ?_⟩⟩
    · simp only [Array.size_append, List.size_toArray, size_zeroCells, hz, hr.1, hl, ← Nat.add_mul]
      congr 1
      omega
    · simp only [Array.toList_append, List.append_assoc]
      rw [← List.append_assoc, ← hlen]
      exact List.take_left
  have gkeeps : ∀ (cs : Array Value) (row : Nat → Prop), Keeps row w (w.drew.alloc (.cells cs e)) := fun cs row => (Keeps.refl row w).drew.alloc _
  have src : 0 < m → ∃ p, b = some p ∧ ∀ j u, news[j]? = some u → w.cell? (p.add j) = some u := by
    intro hm
    have h0 : 0 < news.length := by rw [hl]; exact Nat.mul_pos hm hsz
    obtain ⟨p, hp, _⟩ := hs 0 news[0] (List.getElem?_eq_getElem h0)
    refine ⟨p, hp, fun j u hu => ?_⟩
    obtain ⟨q, hq, hc⟩ := hs j u hu
    rw [hp] at hq
    cases hq
    exact hc
  have none0 : m = 0 → news = [] := fun hm => List.eq_nil_of_length_eq_zero (by rw [hl, hm]; simp)
  rcases hr.2 with ⟨rfl, rfl, rfl⟩ | ⟨g, cur, rfl, hg, hnc, hcm, hcs, htake⟩
  · have hx : xs = [] := List.eq_nil_of_length_eq_zero (by simpa using hr.1)
    subst hx
    by_cases hm : m = 0
    · have hn := none0 hm
      subst hm hn
      refine ⟨none, 0, w, ?_, by simpa using Row.nil w e i.size, .refl _ _, by simp [rowB]⟩
      cases b <;> simp [Builtin.append_, run_underlying hu, sizeOf, typeInfo, hi, Builtin.lenOf, Builtin.firstCells, loadCells, loadCellsFrom]
    · obtain ⟨p, rfl, hp⟩ := src (by omega)
      have hrun := run_append_nil (P := P) w t ty e i z hu hi hiz p m mc news hl hp (by omega) (by omega) (by simp only [Nat.zero_add] at hby; omega)
      have hrow := grown 0 (by omega)
      simp only [Nat.zero_add] at hrow hrun ⊢
      refine ⟨_, _, _, hrun, ?_, gkeeps _ _, fun k hk => .inr ?_⟩
      · simpa using hrow
      · simp [rowB] at hk; omega
  · by_cases hroom : n + m ≤ c
    · by_cases hm : m = 0
      · have hn := none0 hm
        subst hm hn
        refine ⟨some ⟨g, 0, none⟩, c, w, ?_, by simpa using hr, .refl _ _, fun k hk => .inl hk⟩
        cases b <;> simp [Builtin.append_, run_underlying hu, sizeOf, typeInfo, hi, Builtin.lenOf, Builtin.firstCells, loadCells, loadCellsFrom, hnc, storeCells]
      · obtain ⟨p, rfl, hp⟩ := src (by omega)
        have hfit : n * i.size + news.length ≤ cur.size := by rw [hl, hcs, ← Nat.add_mul]; exact Nat.mul_le_mul_right _ hroom
        have hrun := run_append_room (P := P) w t ty e i hu hi g n c cur hg p m mc news hl hp h1 hroom hfit
        have hxl : (List.take (n * i.size) cur.toList) = xs := htake
        refine ⟨_, _, _, hrun, ⟨hlen, .inr ⟨g, _, rfl, heap_setRow hg, hroom, hcm, ?_, ?_⟩⟩, (keeps_setRow w g _).mono (fun k _ h => by subst h; rfl), fun k hk => .inl hk⟩
        · simp only [List.size_toArray, List.length_append, List.length_take, List.length_drop, Array.length_toList]
          omega
        · rw [hxl]
          rw [← hlen]
          exact List.take_left
    · obtain ⟨p, rfl, hp⟩ := src (by omega)
      have hold : ∀ j v, xs[j]? = some v → w.cell? ((⟨g, 0, none⟩ : Addr).add j) = some v := by
        intro j v hv
        obtain ⟨q, hq, hc⟩ := hr.rd j v hv
        cases hq
        exact hc
      have hrun := run_append_grow (P := P) w t ty e i z hu hi hiz ⟨g, 0, none⟩ n c xs hr.1 hold p m mc news hl hp (by omega) (by omega) (growslice_fits (by omega) hby)
      refine ⟨_, _, _, hrun, grown c (by omega), gkeeps _ _, fun k hk => .inr ?_⟩
      simp [rowB] at hk
      omega
def bl (s : ByteArray) : List UInt8 := s.data.toList
def sof (l : List UInt8) : ByteArray := ⟨l.toArray⟩
def byteV (c : UInt8) : Value := .int .u8 (c.toNat : Int)
theorem bl_sof (l : List UInt8) : bl (sof l) = l := by simp [bl, sof]
theorem sof_bl (s : ByteArray) : sof (bl s) = s := by cases s; simp [bl, sof]
theorem bl_length (s : ByteArray) : (bl s).length = s.size := Array.length_toList
theorem size_sof (l : List UInt8) : (sof l).size = l.length := by simp [sof, ByteArray.size]
theorem bl_inj {s t : ByteArray} (h : bl s = bl t) : s = t := by rw [← sof_bl s, ← sof_bl t, h]
theorem bl_append (s t : ByteArray) : bl (s ++ t) = bl s ++ bl t := by simp [bl]
theorem sof_append (s t : List UInt8) : sof s ++ sof t = sof (s ++ t) := bl_inj (by rw [bl_append, bl_sof, bl_sof, bl_sof])
theorem extract_eq (s : ByteArray) (a b : Nat) : s.extract a b = sof (((bl s).drop a).take (b - a)) := by
  have h := ByteArray.extract_mk (bl s) a b
  have e : (ByteArray.mk (bl s).toArray) = s := sof_bl s
  rw [e] at h
  exact h
theorem bl_extract (s : ByteArray) (a b : Nat) : bl (s.extract a b) = ((bl s).drop a).take (b - a) := by rw [extract_eq, bl_sof]
theorem bytesEq_iff (a b : ByteArray) : bytesEq a b = decide (a = b) := by
  unfold bytesEq
  rw [ByteArray.toList_eq, ByteArray.toList_eq]
  have : (a = b) ↔ a.data.toList = b.data.toList := ⟨fun h => by rw [h], fun h => bl_inj h⟩
  rw [Bool.eq_iff_iff]
  simp [this]
theorem beq_str (a b : ByteArray) : (a == b) = decide (a = b) := by
  rw [beq_toListBytes]
  exact bytesEq_iff a b
theorem sget_eq (s : ByteArray) (i : Nat) : sget s i = (bl s).getD i 0 := rfl
theorem byteV_one (c : UInt8) : (byteV c).oneCell' = true := rfl
def bytesT (P : Program) (st bt : TypeId) : Bool :=
  match P.underlying st, P.underlying bt with
  | some .string, some (.slice e) => (match P.underlying e with
    | some (.int .u8) => true
    | _ => false)
  | _, _ => false
theorem bytesT_out {P : Program} {st bt : TypeId} (h : bytesT P st bt = true) : P.underlying st = some .string ∧ ∃ e, P.underlying bt = some (.slice e) ∧ P.underlying e = some (.int .u8) := by
  unfold bytesT at h
  split at h
  · rename_i e hs hb
    split at h
    · rename_i he; exact ⟨hs, e, hb, he⟩
    · cases h
  · cases h
theorem freeze_keeps (F : Nat → Prop) (w : World) (p : Addr) (n : Nat) (hp : F p.block) : Keeps F w (w.freeze p n) := by
  unfold World.freeze
  split
  · exact .refl _ _
  · refine ⟨rfl, rfl, rfl, by simp, fun k _ hn => ?_⟩
    simp only [Array.getElem?_modify]
    rw [if_neg (fun h => hn (by rw [← h]; exact hp))]
theorem push_bytes (l : List UInt8) : (l.map fun c => ((c.toNat : Nat) : Int)).foldl (fun r n => r.push (UInt8.ofNat n.toNat)) ByteArray.empty = sof l := by
  rw [foldl_push_bytes]
  apply bl_inj
  rw [bl_sof]
  show (ByteArray.empty.data ++ _).toList = l
  have h0 : ByteArray.empty.data.toList = [] := rfl
  rw [Array.toList_append, h0, List.nil_append, List.map_map, List.toList_toArray]
  have : ((fun n : Int => UInt8.ofNat n.toNat) ∘ fun c : UInt8 => ((c.toNat : Nat) : Int)) = id := by
    funext c
    simp
  rw [this, List.map_id]
theorem string_of_bytes {P : Program} {st bt : TypeId} (hT : bytesT P st bt = true) {w : World} {a : Option Addr} {l : List UInt8} {n c : Nat} (hn : n = l.length) (hr : Rd w a (l.map byteV)) {f : Value → World → Prop}
    (hf : f (.string (sof l)) w) : OPR P (convert bt st (.slice a n c)) f w := by
  obtain ⟨hs, e, hb, he⟩ := bytesT_out hT
  unfold OPR
  rw [run_convert_bytes_string w bt st e a n c hb he hs]
  cases a with
  | none =>
    have hl : l = [] := by
      cases l with
      | nil => rfl
      | cons x r =>
        obtain ⟨p, hp, _⟩ := hr 0 (byteV x) (by simp)
        cases hp
    subst hl
    have : sof [] = ByteArray.empty := rfl
    rw [this] at hf
    simpa [Conv.bytesToString] using hf
  | some p =>
    have hld : (loadCells p n).run P w = .ok ((l.map fun c => ((c.toNat : Nat) : Int)).map (Value.int .u8)).toArray w := by
      have := run_loadCells_list (P := P) w p (l.map byteV) (fun j v hv => by
        obtain ⟨q, hq, hc⟩ := hr j v hv
        cases hq
        exact hc)
      rw [List.length_map, ← hn] at this
      rw [this]
      congr 1
      simp [byteV, Function.comp_def]
    rw [run_bytesToString w p n c _ hld, push_bytes]
    exact hf
theorem Row.set {w : World} {e : TypeId} {sz : Nat} {g : Nat} {n c : Nat} {xs : List Value} (h : Row w e sz (some ⟨g, 0, none⟩) n c xs) (j : Nat) (_hj : j < n * sz) (v : Value) :
    Row (w.setCell ⟨g, j, none⟩ v) e sz (some ⟨g, 0, none⟩) n c (xs.set j v) := by
  refine ⟨by rw [List.length_set]; exact h.1, ?_⟩
  rcases h.2 with ⟨h0, _⟩ | ⟨g', cur, hg', hg, hnc, hcm, hcs, rfl⟩
  · cases h0
  · cases hg'
    refine .inr ⟨g, _, rfl, heap_setCell_at hg v, hnc, hcm, by simpa using hcs, ?_⟩
    rw [Array.toList_setIfInBounds, List.take_set]
theorem Row.sto {w : World} {e : TypeId} {sz : Nat} {g : Nat} {n c : Nat} {xs : List Value} (h : Row w e sz (some ⟨g, 0, none⟩) n c xs) {j : Nat} (hj : j < n * sz) {v : Value} {k : World → Prop}
    (hk : ∀ w', Row w' e sz (some ⟨g, 0, none⟩) n c (xs.set j v) → Keeps (· = g) w w' → k w') : STO ⟨g, j, none⟩ v k w := by
  have hx : j < xs.length := by rw [h.1]; exact hj
  obtain ⟨p, hp, hc⟩ := h.rd j xs[j] (List.getElem?_eq_getElem hx)
  cases hp
  rw [addr_add_blk, Nat.zero_add] at hc
  refine ⟨by rw [hc]; rfl, ?_, hk _ (h.set j hj v) (keeps_setCell w g j v)⟩
  rcases h.2 with ⟨h0, _⟩ | ⟨g', cur, hg', hg, _⟩
  · cases h0
  · cases hg'
    simp [World.frozen?, hg]
end Go.Dn
namespace Go.Dn
open Go.RowKit (Below)
theorem SH.sto3 {F : Nat → Prop} {w0 w : World} {H : List Ent} (S : SH F w0 w H) (n : Nat) {b : Nat} {x0 x1 x2 v0 v1 v2 : Value} {t : TypeId} (hn : H[n]? = some (b, #[x0, x1, x2], t)) {k : World → Prop}
    (hk : ∀ w', SH F w0 w' (H.set n (b, #[v0, v1, v2], t)) → k w') : STO ⟨b, 0, none⟩ v0 (fun w => STO ⟨b, 1, none⟩ v1 (fun w => STO ⟨b, 2, none⟩ v2 k w) w) w := by
  have hlt := (List.getElem?_eq_some_iff.1 hn).1
  refine S.sto n hn (by simp) fun w1 S1 => S1.sto n (List.getElem?_set_self hlt) (by simp) fun w2 S2 => S2.sto n (cs := #[v0, v1, x2]) (t := t) ?_ (by simp) fun w3 S3 => hk w3 ?_
  · rw [List.set_set, List.getElem?_set_self hlt]
    rfl
  · have e : ((H.set n (b, #[x0, x1, x2].setIfInBounds 0 v0, t)).set n (b, (#[x0, x1, x2].setIfInBounds 0 v0).setIfInBounds 1 v1, t)).set n (b, #[v0, v1, x2].setIfInBounds 2 v2, t) = H.set n (b, #[v0, v1, v2], t) := by
      rw [List.set_set, List.set_set]
      rfl
    rw [← e]
    exact S3
theorem SH.below {w0 w : World} {H : List Ent} (S : SH (fun _ => False) w0 w H) : Below w0.heap.size w0 w := S.keeps.below (Nat.le_refl _) (by simp)
end Go.Dn
namespace Go.Dn
open Go.RowKit (Below)
section
variable {F : Nat → Prop} {w0 w : World} {H : List Ent}
theorem SH.newB (S : SH F w0 w H) {cs : Array Value} {t : TypeId} {k : Nat → World → Prop} (hk : ∀ b w', w.heap.size ≤ b → Below w.heap.size w w' → SH F w0 w' ((b, cs, t) :: H) → k b w') : NEWB cs t k w :=
  hk _ _ (Nat.le_refl _) ((Below.refl _ w).alloc (Nat.le_refl _) _) (S.alloc cs t)
theorem SH.stoK (S : SH F w0 w H) (n : Nat) {b : Nat} {cs : Array Value} {t : TypeId} (hn : H[n]? = some (b, cs, t)) {i : Nat} {v : Value} {k : World → Prop} (hi : i < cs.size)
    (hk : ∀ w', Keeps (· = b) w w' → SH F w0 w' (H.set n (b, cs.setIfInBounds i v, t)) → k w') : STO ⟨b, i, none⟩ v k w := by
  refine ⟨?_, S.free n hn i, hk _ (keeps_setCell w b i v) (S.setAt n hn (keeps_setCell w b i v) (heap_setCell_at (S.get n hn) v))⟩
  rw [S.cell n hn (Array.getElem?_eq_getElem hi)]
  rfl
theorem SH.sto3K (S : SH F w0 w H) (n : Nat) {b : Nat} {x0 x1 x2 v0 v1 v2 : Value} {t : TypeId} (hn : H[n]? = some (b, #[x0, x1, x2], t)) {k : World → Prop}
    (hk : ∀ w', Keeps (· = b) w w' → SH F w0 w' (H.set n (b, #[v0, v1, v2], t)) → k w') : STO ⟨b, 0, none⟩ v0 (fun w => STO ⟨b, 1, none⟩ v1 (fun w => STO ⟨b, 2, none⟩ v2 k w) w) w := by
  have hlt := (List.getElem?_eq_some_iff.1 hn).1
  refine S.stoK n hn (by simp) fun w1 K1 S1 => S1.stoK n (List.getElem?_set_self hlt) (by simp) fun w2 K2 S2 => S2.stoK n (cs := #[v0, v1, x2]) (t := t) ?_ (by simp) fun w3 K3 S3 => hk w3 ((K1.trans K2 (fun _ _ h => h)).trans K3 (fun _ _ h => h)) ?_
  · rw [List.set_set, List.getElem?_set_self hlt]
    rfl
  · have e : ((H.set n (b, #[x0, x1, x2].setIfInBounds 0 v0, t)).set n (b, (#[x0, x1, x2].setIfInBounds 0 v0).setIfInBounds 1 v1, t)).set n (b, #[v0, v1, x2].setIfInBounds 2 v2, t) = H.set n (b, #[v0, v1, v2], t) := by
      rw [List.set_set, List.set_set]
      rfl
    rw [← e]
    exact S3
end
theorem sto_blk {w : World} {b : Nat} {cs : Array Value} {t : TypeId} (hb : w.heap[b]? = some (.cells cs t (0, 0))) {i : Nat} {v : Value} {k : World → Prop} (hi : i < cs.size)
    (hk : ∀ w', Keeps (· = b) w w' → w'.heap[b]? = some (.cells (cs.setIfInBounds i v) t (0, 0)) → k w') : STO ⟨b, i, none⟩ v k w := by
  refine ⟨?_, ?_, hk _ (keeps_setCell w b i v) (heap_setCell_at hb v)⟩
  · simp [World.cell?, hb, hi]
  · simp [World.frozen?, hb]
section
variable {F : Nat → Prop} {w0 w : World} {H : List Ent}
theorem SH.lit3 (S : SH F w0 w H) {z0 z1 z2 v0 v1 v2 : Value} {t : TypeId} {k : Nat → World → Prop} (hk : ∀ b w', w.heap.size ≤ b → Below w.heap.size w w' → SH F w0 w' ((b, #[v0, v1, v2], t) :: H) → k b w') :
    NEWB #[z0, z1, z2] t (fun b w => STO ⟨b, 0, none⟩ v0 (fun w => STO ⟨b, 1, none⟩ v1 (fun w => STO ⟨b, 2, none⟩ v2 (fun w => k b w) w) w) w) w := by
  refine S.newB fun b w1 hb B1 S1 => S1.sto3K 0 rfl fun w2 K2 S2 => hk b w2 hb (B1.trans (K2.below B1.size fun k hk he => by omega)) S2
end
theorem append_zeros {P : Program} {t u ty e : TypeId} {sz bytes : Nat} {z : Value} (hT : slT P t = some (e, sz, bytes, z)) (hu' : P.underlying u = some (.int .i64)) (hz : z.cells.size = sz) (hsz : 0 < sz) (hb0 : 0 < bytes)
    {w : World} {m : Nat} (hm : 0 < m) (hby : m * bytes ≤ 140737488355328) :
    ∃ c' w', (Builtin.append_ #[t, u] ty #[.slice none 0 0, .int .i64 (m : Int)]).run P w = .ok (.slice (some ⟨w.heap.size, 0, none⟩) m c') w' ∧ Row w' e sz (some ⟨w.heap.size, 0, none⟩) 0 c' [] ∧ m ≤ c' ∧ Below w.heap.size w w' := by
  obtain ⟨hu, i, hi, hiz, rfl, rfl⟩ := slT_out hT
  have hnm : m ≤ 140737488355328 := Nat.le_trans (Nat.le_mul_of_pos_right _ hb0) hby
  have hge := grownCap_ge w m 0 e
  have hcm : grownCap w m 0 e ≤ maxLen := grownCap_le_maxLen w m 0 e (by unfold maxLen; omega)
  have hw : IntKind.i64.wrap (m : Int) = m := by rw [IntKind.wrap_i64]; omega
  have h1 : ¬ ((m : Int) < 0) := by omega
  have h2 : ¬ (281474976710656 < (m : Int) * (i.bytes : Int)) := by rw [← Int.natCast_mul]; omega
  have h3 : ¬ (m * i.size = 0) := by have := Nat.mul_pos hm hsz; omega
  have h4 : ¬ (m ≤ 0) := by omega
  have h5 : ¬ (9223372036854775807 < (m : Int)) := by omega
  have h6 : ¬ (281474976710656 < Builtin.nextslicecap m 0 * i.bytes) := by rw [nextslicecap_zero hm]; omega
  have h7 : ¬ (m = 0) := by omega
  have h8 : ¬ (i.size = 0) := by omega
  refine ⟨grownCap w m 0 e, w.drew.alloc (.cells (Builtin.zeroCells z.cells m ++ Builtin.zeroCells z.cells (grownCap w m 0 e - m)) e), ?_, ?_, hge, ((Below.refl _ w).drew).alloc (Nat.le_refl _) _⟩
  · simp [Builtin.append_, run_underlying hu, run_underlying hu', sizeOf, typeInfo, zeroValue, hi, hiz, asInt, asIntOf, hw, h1, h2, h5, h6, h7, Question.forced, Builtin.firstCells, newRow, grownCap]
    intro h
    exact absurd h h3
  · refine ⟨by simp, .inr ⟨w.heap.size, _, rfl, heap_alloc_new w.drew _, by omega, by unfold maxLen at hcm; omega, ?_, by simp⟩⟩
    rw [Array.size_append, size_zeroCells, size_zeroCells, hz, ← Nat.add_mul]
    congr 1
    omega
end Go.Dn
namespace Go.Proofs.YtbpdfpfgijhokaaGreatDoor
set_option maxRecDepth 100000
open Go.Dn Go.Proofs
open Go.RowKit (Below)
set_option linter.unusedVariables false
theorem tbytes : bytesT Tryz.prog ty.string ty.L_uint8 = true := by kernel_rfl
theorem tB : slT Tryz.prog ty.L_uint8 = some (ty.uint8, 1, 1, .int .u8 0) := by kernel_rfl
theorem zB : (Value.int .u8 0).cells.size = 1 := rfl
theorem bytes_one (l : List UInt8) : ∀ u ∈ l.map byteV, u.oneCell' = true := by
  intro u hu
  obtain ⟨c, _, rfl⟩ := List.mem_map.1 hu
  exact byteV_one c
structure NewB (w w' : World) (l : List UInt8) (a : Option Addr) (c : Nat) : Prop where
  row : Row w' ty.uint8 1 a l.length c (l.map byteV)
  new : ∀ k, rowB a = some k → w.heap.size ≤ k
  bel : Below w.heap.size w w'
theorem below_trans {a b c : World} (h : Below a.heap.size a b) (h' : Below b.heap.size b c) : Below a.heap.size a c := h.trans (h'.mono h.size)
theorem NewB.rd {w w' : World} {l : List UInt8} {a : Option Addr} {c : Nat} (h : NewB w w' l a c) : Rd w' a (l.map byteV) := h.row.rd
theorem NewB.grown {w w' w2 : World} {l : List UInt8} {a : Option Addr} {c : Nat} (h : NewB w w' l a c) (hb : Below w'.heap.size w' w2) : NewB w w2 l a c := ⟨h.row.grown hb, h.new, below_trans h.bel hb⟩
theorem append_byte {w : World} {a : Option Addr} {c : Nat} {l : List UInt8} (hr : Row w ty.uint8 1 a l.length c (l.map byteV)) (hl : l.length + 1 ≤ 140737488355328) {x : UInt8} {v : Value} (hv : v = byteV x) {b : Nat} {t : TypeId}
    (hb : w.heap[b]? = some (.cells #[v] t (0, 0))) {f : Value → World → Prop}
    (hf : ∀ a' c' w', Row w' ty.uint8 1 a' (l ++ [x]).length c' ((l ++ [x]).map byteV) → Keeps (fun k => rowB a = some k) w w' → (∀ k, rowB a' = some k → rowB a = some k ∨ w.heap.size ≤ k) → f (.slice a' (l ++ [x]).length c') w') :
    OPR Tryz.prog (Builtin.append_ #[ty.L_uint8, ty.L_uint8] ty.L_uint8 #[.slice a l.length c, .slice (some ⟨b, 0, none⟩) 1 1]) f w := by
  subst hv
  have hsrc : Rd w (some ⟨b, 0, none⟩) ([x].map byteV) := by
    have := Rd.of_block0 hb
    simpa using this
  obtain ⟨a', c', w', hrun, hrow, hk, hnew⟩ := append_row (ty := ty.L_uint8) (mc := 1) tB zB (by omega) (by omega) hr hsrc (m := 1) rfl (bytes_one _) (by omega)
  unfold OPR
  rw [hrun]
  have hlen : (l ++ [x]).length = l.length + 1 := by simp
  rw [← List.map_append, ← hlen] at hrow
  rw [← hlen]
  exact hf a' c' w' hrow hk hnew
/-! ### digits -/
/-! ### Concat -/
end Go.Proofs.YtbpdfpfgijhokaaGreatDoor
namespace Go.Dn
set_option linter.unusedVariables false
set_option maxRecDepth 100000
def Good (P : Program) (w : World) : Nat → TypeId → List Value → Prop
  | 0, _, _ => False
  | n + 1, t, cs =>
    match P.underlying t with
    | some .bool => ∃ b, cs = [.bool b]
    | some (.int k) => ∃ x, cs = [.int k x] ∧ (Lit.int k x).wf = true
    | some .string => ∃ s : ByteArray, cs = [.string s] ∧ s.size ≤ maxLen
    | some (.slice e) => ∃ a len cap, cs = [.slice a len cap] ∧ len ≤ cap ∧ cap ≤ maxLen ∧ (a = none → cap = 0) ∧
        ∃ rows : List (List Value), rows.length = len ∧ Rd w a rows.flatten ∧ ∀ r ∈ rows, r.length = P.cellsOf e ∧ Good P w n e r
    | some (.struct fs) => cs.length = P.cellsOf t ∧ ∀ f ∈ fs.toList, Good P w n f.type ((cs.drop f.offset).take (P.cellsOf f.type))
    | _ => True
section
variable {P : Program} {w : World}
def fieldsT (P : Program) (t : TypeId) : Option (List (TypeId × Nat)) :=
  match P.underlying t with
  | some (.struct fs) => some (fs.toList.map fun f => (f.type, f.offset))
  | _ => none
end
end Go.Dn
namespace Go.Proofs.YtbpdfpfgijhokaaGreatDoor
set_option maxRecDepth 100000
open Go.Dn Go.Proofs
open Go.RowKit (Below)
set_option linter.unusedVariables false
abbrev Val := Int × Int × ByteArray
def valV (v : Val) : Value := .agg #[.int .i64 v.1, .int .i64 v.2.1, .string v.2.2]
abbrev E0 : ByteArray := ⟨#[]⟩
def rightB (v : Val) : Bool :=
  if v.1 = 0 then decide (v.2.1 = 0 ∧ v.2.2 = E0) else if v.1 = 1 then decide (v.2.2 = E0) else if v.1 = 2 then decide ((v.2.1 = 0 ∨ v.2.1 = 1) ∧ v.2.2 = E0) else
  if v.1 = 3 then decide (v.2.1 = 0 ∧ v.2.2.size ≤ 1024) else false
theorem and1 (n : Int) : n = IntKind.i64.wrap (((BitVec.ofInt 64 n &&& BitVec.ofInt 64 1).toNat : Int)) ↔ (n = 0 ∨ n = 1) := by
  have h : (BitVec.ofInt 64 n &&& BitVec.ofInt 64 1).toNat = 0 ∨ (BitVec.ofInt 64 n &&& BitVec.ofInt 64 1).toNat = 1 := by
    rw [BitVec.toNat_and]
    have h1 : (BitVec.ofInt 64 1).toNat = 2 ^ 1 - 1 := by decide
    rw [h1, Nat.and_two_pow_sub_one_eq_mod]
    omega
  constructor
  · intro e
    rcases h with h | h
    · rw [h] at e; left; rw [e]; decide
    · rw [h] at e; right; rw [e]; decide
  · rintro (rfl | rfl) <;> decide
theorem value_Right_ok (w : World) (v : Val) : Calls Tryz.prog f.value_Right #[valV v] w (Ret fun r w' => r = .bool (rightB v) ∧ Below w.heap.size w w') := by
  obtain ⟨k, n, s⟩ := v
  apply R.value_Right_calls
  show R.value_Right k n s _ _
  unfold R.value_Right
  refine (SH.start (fun _ => False) w).newB fun b4 w1 hb4 B1 S1 => ⟨_, S1.cell 0 rfl rfl, S1.lit3 fun b6 w5 hb6 B5 S5 => ?_⟩
  refine ⟨fun _ w9 => ∃ p : Val, SH (fun _ => False) w w9 [(b6, #[.int .i64 p.1, .int .i64 p.2.1, .string p.2.2], ty.api_Value), (b4, #[.int .i64 k, .int .i64 n, .string s], ty.api_Value)] ∧ p.1 = k ∧
      (0 ≤ k → k < 4 → (((k, n, s) : Val) = p ∧ s.size ≤ 1024 ↔ rightB (k, n, s) = true)), ?_, ?_⟩
  · refine ⟨_, S5.cell 1 rfl rfl, IFB_eq (fun h => ?_) (fun h0 => IFB_eq (fun h => ⟨_, S5.cell 1 rfl rfl, ?_⟩) (fun h1 => IFB_eq (fun h => ⟨_, S5.cell 1 rfl rfl, ?_⟩) (fun h2 => IFB_eq (fun h => ⟨_, S5.cell 1 rfl rfl, ?_⟩) (fun h3 => ?_))))⟩
    · subst h
      refine ⟨(0, 0, E0), S5, rfl, fun _ _ => ?_⟩
      simp only [rightB, if_pos, decide_eq_true_eq, Prod.mk.injEq, true_and]
      constructor
      · rintro ⟨⟨h1, h2⟩, _⟩; exact ⟨h1, h2⟩
      · rintro ⟨h1, rfl⟩; exact ⟨⟨h1, rfl⟩, by decide⟩
    · subst h
      refine S5.sto 0 rfl (show 1 < 3 by decide) fun w6 S6 => ⟨(1, n, E0), S6, rfl, fun _ _ => ?_⟩
      simp only [rightB, if_neg (show ¬ (1 : Int) = 0 by decide), if_pos, decide_eq_true_eq, Prod.mk.injEq, true_and]
      constructor
      · rintro ⟨h1, _⟩; exact h1
      · rintro rfl; exact ⟨rfl, by decide⟩
    · subst h
      refine S5.sto 0 rfl (show 1 < 3 by decide) fun w6 S6 => ⟨(2, IntKind.i64.wrap (((BitVec.ofInt 64 n &&& BitVec.ofInt 64 1).toNat : Int)), E0), S6, rfl, fun _ _ => ?_⟩
      simp only [rightB, if_neg (show ¬ (2 : Int) = 0 by decide), if_neg (show ¬ (2 : Int) = 1 by decide), if_pos, decide_eq_true_eq, Prod.mk.injEq, true_and]
      rw [and1]
      constructor
      · rintro ⟨⟨h1, h2⟩, _⟩; exact ⟨h1, h2⟩
      · rintro ⟨h1, rfl⟩; exact ⟨⟨h1, rfl⟩, by decide⟩
    · subst h
      refine S5.sto 0 rfl (show 2 < 3 by decide) fun w6 S6 => ⟨(3, 0, s), S6, rfl, fun _ _ => ?_⟩
      simp only [rightB, if_neg (show ¬ (3 : Int) = 0 by decide), if_neg (show ¬ (3 : Int) = 1 by decide), if_neg (show ¬ (3 : Int) = 2 by decide), if_pos, decide_eq_true_eq, Prod.mk.injEq, true_and, and_true]
    · exact ⟨(k, 0, E0), S5, rfl, fun _ _ => by omega⟩
  · rintro w9 ⟨p, S9, hp, hiff⟩
    have no : ¬ (0 ≤ k ∧ k < 4) → Value.bool false = .bool (rightB (k, n, s)) := by
      intro hk
      simp only [rightB]
      rw [if_neg (by omega), if_neg (by omega), if_neg (by omega), if_neg (by omega)]
    refine ⟨_, S9.cell 1 rfl rfl, IFB_dec (fun h0 => ⟨_, S9.cell 1 rfl rfl, IFB_dec (fun h4 => ?_) (fun h4 => ⟨no (by omega), S9.below⟩)⟩) (fun h0 => ⟨no (by omega), S9.below⟩)⟩
    refine ⟨_, S9.cell 1 rfl rfl, _, S9.cell 1 rfl rfl, _, S9.cell 1 rfl rfl, _, S9.cell 0 rfl rfl, _, S9.cell 0 rfl rfl, _, S9.cell 0 rfl rfl, ?_⟩
    have hi := hiff h0 h4
    rw [beq_str]
    refine IFB_of (fun he => ⟨_, S9.cell 1 rfl rfl, ?_, S9.below⟩) (fun he => ⟨?_, S9.below⟩)
    · simp only [Bool.and_true, Bool.and_eq_true, beq_iff_eq, decide_eq_true_eq] at he
      have e : ((k, n, s) : Val) = p := by
        obtain ⟨p1, p2, p3⟩ := p
        simp only at he
        rw [he.1, he.2.1, he.2.2]
      congr 1
      rw [Bool.eq_iff_iff]
      rw [← hi]
      simp only [e, true_and, decide_eq_true_eq]
      omega
    · have hn : ¬ (rightB (k, n, s) = true) := by
        rw [← hi]
        rintro ⟨e, _⟩
        rw [← e] at he
        simp at he
      simp [Bool.eq_false_iff.2 hn]
/-! ### the order -/
end Go.Proofs.YtbpdfpfgijhokaaGreatDoor
namespace Go.Proofs
set_option linter.unusedVariables false
set_option maxRecDepth 100000
open Go.Shelf
def Tryz.lays156_ren : Go.Shelf.Ren := ⟨fun | 156 => 89 | 165 => 145 | 166 => 146 | 169 => 147 | 240 => 205 | 241 => 206 | 276 => 233 | 277 => 234 | n => n, fun | 31 => 77 | 9 => 9 | 3 => 3 | 4 => 4 | 0 => 0 | 20 => 20 | 72 => 186 | 76 => 190 | 70 => 183 | 37 => 184 | 75 => 189 | 127 => 227 | 164 => 244 | 5 => 5 | 80 => 149 | n => n, fun | n => n⟩
theorem Tryz.lays156 : Go.Proofs.Lays.n156 Tryz.prog Tryz.lays156_ren := {
  mixed := by kernel_rfl
  f156 := Tryz.func89.trans (congrArg some (by kernel_rfl))
  f165 := Tryz.func145.trans (congrArg some (by kernel_rfl))
  f166 := Tryz.func146.trans (congrArg some (by kernel_rfl))
  f169 := Tryz.func147.trans (congrArg some (by kernel_rfl))
  f240 := Tryz.func205.trans (congrArg some (by kernel_rfl))
  f241 := Tryz.func206.trans (congrArg some (by kernel_rfl))
  f276 := Tryz.func233.trans (congrArg some (by kernel_rfl))
  f277 := Tryz.func234.trans (congrArg some (by kernel_rfl))
  t0 := Tryz.underlying0
  a0 := Tryz.isAgg0
  z0 := Tryz.sizeOf0
  v0 := Tryz.zeroValue0
  t3 := Tryz.underlying3
  a3 := Tryz.isAgg3
  z3 := Tryz.sizeOf3
  v3 := Tryz.zeroValue3
  t4 := Tryz.underlying4
  a4 := Tryz.isAgg4
  z4 := Tryz.sizeOf4
  v4 := Tryz.zeroValue4
  t9 := Tryz.underlying9
  a9 := Tryz.isAgg9
  z9 := Tryz.sizeOf9
  v9 := Tryz.zeroValue9
  t20 := Tryz.underlying20
  a20 := Tryz.isAgg20
  z20 := Tryz.sizeOf20
  v20 := Tryz.zeroValue20
  t31 := Tryz.underlying77
  a31 := Tryz.isAgg77
  z31 := Tryz.sizeOf77
  v31 := Tryz.zeroValue77
  t37 := Tryz.underlying184
  a37 := Tryz.isAgg184
  z37 := Tryz.sizeOf184
  v37 := Tryz.zeroValue184
  t70 := Tryz.underlying183
  a70 := Tryz.isAgg183
  z70 := Tryz.sizeOf183
  v70 := Tryz.zeroValue183
  t72 := Tryz.underlying186
  a72 := Tryz.isAgg186
  z72 := Tryz.sizeOf186
  v72 := Tryz.zeroValue186
  t75 := Tryz.underlying189
  a75 := Tryz.isAgg189
  z75 := Tryz.sizeOf189
  v75 := Tryz.zeroValue189
  t76 := Tryz.underlying190
  a76 := Tryz.isAgg190
  z76 := Tryz.sizeOf190
  v76 := Tryz.zeroValue190
  t127 := Tryz.underlying227
  a127 := Tryz.isAgg227
  z127 := Tryz.sizeOf227
  v127 := Tryz.zeroValue227
  t164 := Tryz.underlying244
  a164 := Tryz.isAgg244
  z164 := Tryz.sizeOf244
  v164 := Tryz.zeroValue244 }
theorem Tryz.Builder_Extra_156 : Builder.Extra Tryz.prog Tryz.lays156_ren := {
  sizeBuilder := by kernel_rfl
  liesBuilder := by kernel_rfl
  t5 := Tryz.underlying5
  a5 := Tryz.isAgg5
  z5 := Tryz.sizeOf5
  v5 := Tryz.zeroValue5
  infoByte := by kernel_rfl
  cellsByte := by kernel_rfl
  sizeByte := by kernel_rfl
  neB5 := by decide }
open Go.RowKit in
theorem Tryz.strings_Join (bk o c : Nat) (xs : List ByteArray) (sep : ByteArray) (w : World) (hcells : ∀ (j : Nat) x, xs[j]? = some x → w.cell? ⟨bk, o + j, none⟩ = some (.string x)) (hbk : bk < w.heap.size) (hN : xs.length ≤ 140737488355328) (hcap : xs.length ≤ c) (hlen : (Lib.join (xs.map (·.data.toList)) sep.data.toList).length ≤ 140737488355328) :
    Calls Tryz.prog 89 #[.slice (some ⟨bk, o, none⟩) xs.length c, .string sep] w fun e w' => e = .returned (.string ⟨(Lib.join (xs.map (·.data.toList)) sep.data.toList).toArray⟩) ∧ Below w.heap.size w w' := Any.strings_Join Tryz.lays156 Tryz.Builder_Extra_156 bk o c xs sep w hcells hbk hN hcap hlen
def Tryz.lays137_ren : Go.Shelf.Ren := ⟨fun | 137 => 108 | 217 => 172 | 266 => 220 | n => n, fun | 9 => 9 | 5 => 5 | 3 => 3 | n => n, fun | n => n⟩
theorem Tryz.lays137 : Go.Proofs.Lays.n137 Tryz.prog Tryz.lays137_ren := {
  mixed := by kernel_rfl
  f137 := Tryz.func108.trans (congrArg some (by kernel_rfl))
  f217 := Tryz.func172.trans (congrArg some (by kernel_rfl))
  f266 := Tryz.func220.trans (congrArg some (by kernel_rfl))
  t3 := Tryz.underlying3
  a3 := Tryz.isAgg3
  z3 := Tryz.sizeOf3
  v3 := Tryz.zeroValue3
  t5 := Tryz.underlying5
  a5 := Tryz.isAgg5
  z5 := Tryz.sizeOf5
  v5 := Tryz.zeroValue5
  t9 := Tryz.underlying9
  a9 := Tryz.isAgg9
  z9 := Tryz.sizeOf9
  v9 := Tryz.zeroValue9 }
open Go.RowKit in
theorem Tryz.strings_IndexByte (s : ByteArray) (c : Int) (w : World) :
    Calls Tryz.prog 108 #[.string s, .int .u8 c] w fun e w' => e = .returned (.int .i64 (Lib.indexByte s.data.toList c.toNat.toUInt8)) ∧ w' = w := Any.strings_IndexByte Tryz.lays137 s c w
def Tryz.laysM171_ren : Go.Shelf.Ren := ⟨fun | 171 => 56 | 243 => 90 | 246 => 148 | 283 => 207 | 284 => 208 | 285 => 209 | 286 => 210 | 129 => 134 | 317 => 235 | 318 => 236 | 319 => 237 | 320 => 238 | 337 => 252 | 338 => 253 | n => n, fun | 3 => 3 | 9 => 9 | 2 => 2 | 4 => 4 | 171 => 228 | 0 => 0 | 53 => 174 | 37 => 184 | 5 => 5 | 173 => 230 | 212 => 248 | 51 => 172 | 20 => 20 | 213 => 249 | 46 => 126 | 232 => 266 | 233 => 267 | n => n, fun | 17 => 3 | 18 => 7 | 19 => 8 | n => n⟩
theorem Tryz.laysM171 : Go.Proofs.LaysM.n171 Tryz.prog Tryz.laysM171_ren := {
  mixed := by kernel_rfl
  f129 := Tryz.func134.trans (congrArg some (by kernel_rfl))
  f171 := Tryz.func56.trans (congrArg some (by kernel_rfl))
  f243 := Tryz.func90.trans (congrArg some (by kernel_rfl))
  f246 := Tryz.func148.trans (congrArg some (by kernel_rfl))
  f283 := Tryz.func207.trans (congrArg some (by kernel_rfl))
  f284 := Tryz.func208.trans (congrArg some (by kernel_rfl))
  f285 := Tryz.func209.trans (congrArg some (by kernel_rfl))
  f286 := Tryz.func210.trans (congrArg some (by kernel_rfl))
  f317 := Tryz.func235.trans (congrArg some (by kernel_rfl))
  f318 := Tryz.func236.trans (congrArg some (by kernel_rfl))
  f319 := Tryz.func237.trans (congrArg some (by kernel_rfl))
  f320 := Tryz.func238.trans (congrArg some (by kernel_rfl))
  f337 := Tryz.func252.trans (congrArg some (by kernel_rfl))
  f338 := Tryz.func253.trans (congrArg some (by kernel_rfl))
  t0 := Tryz.underlying0
  a0 := Tryz.isAgg0
  z0 := Tryz.sizeOf0
  v0 := Tryz.zeroValue0
  t2 := Tryz.underlying2
  a2 := Tryz.isAgg2
  z2 := Tryz.sizeOf2
  v2 := Tryz.zeroValue2
  t3 := Tryz.underlying3
  a3 := Tryz.isAgg3
  z3 := Tryz.sizeOf3
  v3 := Tryz.zeroValue3
  t4 := Tryz.underlying4
  a4 := Tryz.isAgg4
  z4 := Tryz.sizeOf4
  v4 := Tryz.zeroValue4
  t5 := Tryz.underlying5
  a5 := Tryz.isAgg5
  z5 := Tryz.sizeOf5
  v5 := Tryz.zeroValue5
  t9 := Tryz.underlying9
  a9 := Tryz.isAgg9
  z9 := Tryz.sizeOf9
  v9 := Tryz.zeroValue9
  t20 := Tryz.underlying20
  a20 := Tryz.isAgg20
  z20 := Tryz.sizeOf20
  v20 := Tryz.zeroValue20
  t37 := Tryz.underlying184
  a37 := Tryz.isAgg184
  z37 := Tryz.sizeOf184
  v37 := Tryz.zeroValue184
  t46 := Tryz.underlying126
  a46 := Tryz.isAgg126
  z46 := Tryz.sizeOf126
  v46 := Tryz.zeroValue126
  t51 := Tryz.underlying172
  a51 := Tryz.isAgg172
  z51 := Tryz.sizeOf172
  v51 := Tryz.zeroValue172
  t53 := Tryz.underlying174
  a53 := Tryz.isAgg174
  z53 := Tryz.sizeOf174
  v53 := Tryz.zeroValue174
  t171 := Tryz.underlying228
  a171 := Tryz.isAgg228
  z171 := Tryz.sizeOf228
  v171 := Tryz.zeroValue228
  t173 := Tryz.underlying230
  a173 := Tryz.isAgg230
  z173 := Tryz.sizeOf230
  v173 := Tryz.zeroValue230
  t212 := Tryz.underlying248
  a212 := Tryz.isAgg248
  z212 := Tryz.sizeOf248
  v212 := Tryz.zeroValue248
  t213 := Tryz.underlying249
  a213 := Tryz.isAgg249
  z213 := Tryz.sizeOf249
  t232 := Tryz.underlying266
  a232 := Tryz.isAgg266
  z232 := Tryz.sizeOf266
  v232 := Tryz.zeroValue266
  t233 := Tryz.underlying267
  a233 := Tryz.isAgg267
  z233 := Tryz.sizeOf267
  v233 := Tryz.zeroValue267
  g17 := by kernel_rfl
  g18 := by kernel_rfl
  g19 := by kernel_rfl
  i0 := by kernel_rfl
  i2 := by kernel_rfl
  i3 := by kernel_rfl
  i4 := by kernel_rfl
  i5 := by kernel_rfl
  i9 := by kernel_rfl
  i20 := by kernel_rfl
  i37 := by kernel_rfl
  i46 := by kernel_rfl
  i51 := by kernel_rfl
  i53 := by kernel_rfl
  i171 := by kernel_rfl
  i173 := by kernel_rfl
  i212 := by kernel_rfl
  i232 := by kernel_rfl
  i233 := by kernel_rfl
  m17 := by kernel_rfl
  m18 := by kernel_rfl
  m19 := by kernel_rfl }
open Go.RowKit Go.Sort Go.Lib in
theorem Tryz.strconv_Itoa (n : Int) (h0 : -9223372036854775808 ≤ n) (h1 : n ≤ 9223372036854775807) (w : World) (htab : Lib.TabIs Tryz.prog w "internal/strconv.uint64pow10" .u64 Lib.pow10Tab) :
    Calls Tryz.prog 56 #[.int .i64 n] w fun e w' => e = .returned (.string ⟨(Lib.itoa n).toArray⟩) ∧ ∃ k os, w' = grow (w.drewN k) os := Any.strconv_Itoa Tryz.laysM171 n h0 h1 w htab
def Tryz.laysM173_ren : Go.Shelf.Ren := ⟨fun | 173 => 141 | 246 => 148 | 283 => 207 | 284 => 208 | 285 => 209 | 286 => 210 | 129 => 134 | 317 => 235 | 318 => 236 | 319 => 237 | 320 => 238 | 337 => 252 | 338 => 253 | n => n, fun | 2 => 2 | 3 => 3 | 9 => 9 | 4 => 4 | 171 => 228 | 0 => 0 | 53 => 174 | 37 => 184 | 5 => 5 | 173 => 230 | 212 => 248 | 51 => 172 | 20 => 20 | 213 => 249 | 46 => 126 | 232 => 266 | 233 => 267 | n => n, fun | 17 => 3 | 18 => 7 | 19 => 8 | n => n⟩
theorem Tryz.laysM173 : Go.Proofs.LaysM.n173 Tryz.prog Tryz.laysM173_ren := {
  mixed := by kernel_rfl
  f129 := Tryz.func134.trans (congrArg some (by kernel_rfl))
  f173 := Tryz.func141.trans (congrArg some (by kernel_rfl))
  f246 := Tryz.func148.trans (congrArg some (by kernel_rfl))
  f283 := Tryz.func207.trans (congrArg some (by kernel_rfl))
  f284 := Tryz.func208.trans (congrArg some (by kernel_rfl))
  f285 := Tryz.func209.trans (congrArg some (by kernel_rfl))
  f286 := Tryz.func210.trans (congrArg some (by kernel_rfl))
  f317 := Tryz.func235.trans (congrArg some (by kernel_rfl))
  f318 := Tryz.func236.trans (congrArg some (by kernel_rfl))
  f319 := Tryz.func237.trans (congrArg some (by kernel_rfl))
  f320 := Tryz.func238.trans (congrArg some (by kernel_rfl))
  f337 := Tryz.func252.trans (congrArg some (by kernel_rfl))
  f338 := Tryz.func253.trans (congrArg some (by kernel_rfl))
  t0 := Tryz.underlying0
  a0 := Tryz.isAgg0
  z0 := Tryz.sizeOf0
  v0 := Tryz.zeroValue0
  t2 := Tryz.underlying2
  a2 := Tryz.isAgg2
  z2 := Tryz.sizeOf2
  v2 := Tryz.zeroValue2
  t3 := Tryz.underlying3
  a3 := Tryz.isAgg3
  z3 := Tryz.sizeOf3
  v3 := Tryz.zeroValue3
  t4 := Tryz.underlying4
  a4 := Tryz.isAgg4
  z4 := Tryz.sizeOf4
  v4 := Tryz.zeroValue4
  t5 := Tryz.underlying5
  a5 := Tryz.isAgg5
  z5 := Tryz.sizeOf5
  v5 := Tryz.zeroValue5
  t9 := Tryz.underlying9
  a9 := Tryz.isAgg9
  z9 := Tryz.sizeOf9
  v9 := Tryz.zeroValue9
  t20 := Tryz.underlying20
  a20 := Tryz.isAgg20
  z20 := Tryz.sizeOf20
  v20 := Tryz.zeroValue20
  t37 := Tryz.underlying184
  a37 := Tryz.isAgg184
  z37 := Tryz.sizeOf184
  v37 := Tryz.zeroValue184
  t46 := Tryz.underlying126
  a46 := Tryz.isAgg126
  z46 := Tryz.sizeOf126
  v46 := Tryz.zeroValue126
  t51 := Tryz.underlying172
  a51 := Tryz.isAgg172
  z51 := Tryz.sizeOf172
  v51 := Tryz.zeroValue172
  t53 := Tryz.underlying174
  a53 := Tryz.isAgg174
  z53 := Tryz.sizeOf174
  v53 := Tryz.zeroValue174
  t171 := Tryz.underlying228
  a171 := Tryz.isAgg228
  z171 := Tryz.sizeOf228
  v171 := Tryz.zeroValue228
  t173 := Tryz.underlying230
  a173 := Tryz.isAgg230
  z173 := Tryz.sizeOf230
  v173 := Tryz.zeroValue230
  t212 := Tryz.underlying248
  a212 := Tryz.isAgg248
  z212 := Tryz.sizeOf248
  v212 := Tryz.zeroValue248
  t213 := Tryz.underlying249
  a213 := Tryz.isAgg249
  z213 := Tryz.sizeOf249
  t232 := Tryz.underlying266
  a232 := Tryz.isAgg266
  z232 := Tryz.sizeOf266
  v232 := Tryz.zeroValue266
  t233 := Tryz.underlying267
  a233 := Tryz.isAgg267
  z233 := Tryz.sizeOf267
  v233 := Tryz.zeroValue267
  g17 := by kernel_rfl
  g18 := by kernel_rfl
  g19 := by kernel_rfl
  i0 := by kernel_rfl
  i2 := by kernel_rfl
  i3 := by kernel_rfl
  i4 := by kernel_rfl
  i5 := by kernel_rfl
  i9 := by kernel_rfl
  i20 := by kernel_rfl
  i37 := by kernel_rfl
  i46 := by kernel_rfl
  i51 := by kernel_rfl
  i53 := by kernel_rfl
  i171 := by kernel_rfl
  i173 := by kernel_rfl
  i212 := by kernel_rfl
  i232 := by kernel_rfl
  i233 := by kernel_rfl
  m17 := by kernel_rfl
  m18 := by kernel_rfl
  m19 := by kernel_rfl }
open Go.RowKit Go.Sort Go.Lib in
theorem Tryz.strconv_FormatInt_10 (n : Int) (h0 : -9223372036854775808 ≤ n) (h1 : n ≤ 9223372036854775807) (w : World) (htab : Lib.TabIs Tryz.prog w "internal/strconv.uint64pow10" .u64 Lib.pow10Tab) :
    Calls Tryz.prog 141 #[.int .i64 n, .int .i64 10] w fun e w' => e = .returned (.string ⟨(Lib.itoa n).toArray⟩) ∧ ∃ k os, w' = grow (w.drewN k) os := Any.strconv_FormatInt_10 Tryz.laysM173 n h0 h1 w htab
def Tryz.lays190_ren : Go.Shelf.Ren := ⟨fun | 190 => 74 | 125 => 79 | 258 => 123 | 128 => 133 | 129 => 134 | 302 => 187 | 303 => 188 | 304 => 189 | 305 => 190 | 306 => 191 | 307 => 192 | 308 => 193 | 309 => 194 | 310 => 195 | 333 => 226 | 329 => 197 | 330 => 198 | 334 => 227 | 335 => 228 | 336 => 229 | 344 => 248 | n => n, fun | 31 => 77 | 9 => 9 | 3 => 3 | 46 => 126 | 0 => 0 | 51 => 172 | 53 => 174 | 4 => 4 | 183 => 164 | 182 => 163 | 131 => 169 | 5 => 5 | 218 => 217 | 222 => 221 | 228 => 242 | 229 => 94 | n => n, fun | n => n⟩
theorem Tryz.lays190 : Go.Proofs.Lays.n190 Tryz.prog Tryz.lays190_ren := {
  mixed := by kernel_rfl
  f125 := Tryz.func79.trans (congrArg some (by kernel_rfl))
  f128 := Tryz.func133.trans (congrArg some (by kernel_rfl))
  f129 := Tryz.func134.trans (congrArg some (by kernel_rfl))
  f190 := Tryz.func74.trans (congrArg some (by kernel_rfl))
  f258 := Tryz.func123.trans (congrArg some (by kernel_rfl))
  f302 := Tryz.func187.trans (congrArg some (by kernel_rfl))
  f303 := Tryz.func188.trans (congrArg some (by kernel_rfl))
  f304 := Tryz.func189.trans (congrArg some (by kernel_rfl))
  f305 := Tryz.func190.trans (congrArg some (by kernel_rfl))
  f306 := Tryz.func191.trans (congrArg some (by kernel_rfl))
  f307 := Tryz.func192.trans (congrArg some (by kernel_rfl))
  f308 := Tryz.func193.trans (congrArg some (by kernel_rfl))
  f309 := Tryz.func194.trans (congrArg some (by kernel_rfl))
  f310 := Tryz.func195.trans (congrArg some (by kernel_rfl))
  f329 := Tryz.func197.trans (congrArg some (by kernel_rfl))
  f330 := Tryz.func198.trans (congrArg some (by kernel_rfl))
  f333 := Tryz.func226.trans (congrArg some (by kernel_rfl))
  f334 := Tryz.func227.trans (congrArg some (by kernel_rfl))
  f335 := Tryz.func228.trans (congrArg some (by kernel_rfl))
  f336 := Tryz.func229.trans (congrArg some (by kernel_rfl))
  f344 := Tryz.func248.trans (congrArg some (by kernel_rfl))
  t0 := Tryz.underlying0
  a0 := Tryz.isAgg0
  z0 := Tryz.sizeOf0
  v0 := Tryz.zeroValue0
  t3 := Tryz.underlying3
  a3 := Tryz.isAgg3
  z3 := Tryz.sizeOf3
  v3 := Tryz.zeroValue3
  t4 := Tryz.underlying4
  a4 := Tryz.isAgg4
  z4 := Tryz.sizeOf4
  v4 := Tryz.zeroValue4
  t5 := Tryz.underlying5
  a5 := Tryz.isAgg5
  z5 := Tryz.sizeOf5
  v5 := Tryz.zeroValue5
  t9 := Tryz.underlying9
  a9 := Tryz.isAgg9
  z9 := Tryz.sizeOf9
  v9 := Tryz.zeroValue9
  t31 := Tryz.underlying77
  a31 := Tryz.isAgg77
  z31 := Tryz.sizeOf77
  v31 := Tryz.zeroValue77
  t46 := Tryz.underlying126
  a46 := Tryz.isAgg126
  z46 := Tryz.sizeOf126
  v46 := Tryz.zeroValue126
  t51 := Tryz.underlying172
  a51 := Tryz.isAgg172
  z51 := Tryz.sizeOf172
  v51 := Tryz.zeroValue172
  t53 := Tryz.underlying174
  a53 := Tryz.isAgg174
  z53 := Tryz.sizeOf174
  v53 := Tryz.zeroValue174
  t131 := Tryz.underlying169
  a131 := Tryz.isAgg169
  z131 := Tryz.sizeOf169
  v131 := Tryz.zeroValue169
  t182 := Tryz.underlying163
  a182 := Tryz.isAgg163
  z182 := Tryz.sizeOf163
  v182 := Tryz.zeroValue163
  t183 := Tryz.underlying164
  a183 := Tryz.isAgg164
  z183 := Tryz.sizeOf164
  v183 := Tryz.zeroValue164
  t218 := Tryz.underlying217
  a218 := Tryz.isAgg217
  z218 := Tryz.sizeOf217
  v218 := Tryz.zeroValue217
  t222 := Tryz.underlying221
  a222 := Tryz.isAgg221
  z222 := Tryz.sizeOf221
  v222 := Tryz.zeroValue221
  t228 := Tryz.underlying242
  a228 := Tryz.isAgg242
  z228 := Tryz.sizeOf242
  v228 := Tryz.zeroValue242
  t229 := Tryz.underlying94
  a229 := Tryz.isAgg94
  z229 := Tryz.sizeOf94
  v229 := Tryz.zeroValue94 }
open Go.Sort Go.RowKit in
theorem Tryz.slices_Sort_string (blk off cap : Nat) (ss : List (List UInt8)) (w : World) (hH : Holds encStr w blk off ss.toArray) (hblk : blk < w.heap.size) (hsz : ss.length < 4611686018427387904) :
    Calls Tryz.prog 74 #[.slice (some ⟨blk, off, none⟩) ss.length cap] w fun e w' =>
      e = .returned (.tuple #[]) ∧ ∃ n os, w' = grow (putRow encStr (Sort.ahead w n) blk off (ss.mergeSort fun x y => decide (x ≤ y)).toArray) os := Any.slices_Sort_string Tryz.lays190 blk off cap ss w hH hblk hsz
def Tryz.lays155_ren : Go.Shelf.Ren := ⟨fun | 155 => 143 | 154 => 204 | 138 => 231 | 165 => 145 | 143 => 232 | 166 => 146 | 197 => 222 | 169 => 147 | 195 => 249 | 218 => 250 | 240 => 205 | 241 => 206 | 219 => 251 | 260 => 245 | 276 => 233 | 277 => 234 | 217 => 172 | 225 => 264 | 224 => 263 | 267 => 265 | 266 => 220 | 314 => 272 | n => n, fun | 9 => 9 | 3 => 3 | 4 => 4 | 72 => 186 | 0 => 0 | 76 => 190 | 105 => 236 | 21 => 21 | 5 => 5 | 70 => 183 | 20 => 20 | 37 => 184 | 75 => 189 | 127 => 227 | 164 => 244 | 46 => 126 | 119 => 261 | 139 => 264 | 138 => 263 | 146 => 273 | 51 => 172 | 80 => 149 | n => n, fun | 1 => 4 | 3 => 5 | 4 => 6 | n => n⟩
theorem Tryz.lays155 : Go.Proofs.Lays.n155 Tryz.prog Tryz.lays155_ren := {
  mixed := by kernel_rfl
  f138 := Tryz.func231.trans (congrArg some (by kernel_rfl))
  f143 := Tryz.func232.trans (congrArg some (by kernel_rfl))
  f154 := Tryz.func204.trans (congrArg some (by kernel_rfl))
  f155 := Tryz.func143.trans (congrArg some (by kernel_rfl))
  f165 := Tryz.func145.trans (congrArg some (by kernel_rfl))
  f166 := Tryz.func146.trans (congrArg some (by kernel_rfl))
  f169 := Tryz.func147.trans (congrArg some (by kernel_rfl))
  f195 := Tryz.func249.trans (congrArg some (by kernel_rfl))
  f197 := Tryz.func222.trans (congrArg some (by kernel_rfl))
  f217 := Tryz.func172.trans (congrArg some (by kernel_rfl))
  f218 := Tryz.func250.trans (congrArg some (by kernel_rfl))
  f219 := Tryz.func251.trans (congrArg some (by kernel_rfl))
  f224 := Tryz.func263.trans (congrArg some (by kernel_rfl))
  f225 := Tryz.func264.trans (congrArg some (by kernel_rfl))
  f240 := Tryz.func205.trans (congrArg some (by kernel_rfl))
  f241 := Tryz.func206.trans (congrArg some (by kernel_rfl))
  f260 := Tryz.func245.trans (congrArg some (by kernel_rfl))
  f266 := Tryz.func220.trans (congrArg some (by kernel_rfl))
  f267 := Tryz.func265.trans (congrArg some (by kernel_rfl))
  f276 := Tryz.func233.trans (congrArg some (by kernel_rfl))
  f277 := Tryz.func234.trans (congrArg some (by kernel_rfl))
  f314 := Tryz.func272.trans (congrArg some (by kernel_rfl))
  t0 := Tryz.underlying0
  a0 := Tryz.isAgg0
  z0 := Tryz.sizeOf0
  v0 := Tryz.zeroValue0
  t3 := Tryz.underlying3
  a3 := Tryz.isAgg3
  z3 := Tryz.sizeOf3
  v3 := Tryz.zeroValue3
  t4 := Tryz.underlying4
  a4 := Tryz.isAgg4
  z4 := Tryz.sizeOf4
  v4 := Tryz.zeroValue4
  t5 := Tryz.underlying5
  a5 := Tryz.isAgg5
  z5 := Tryz.sizeOf5
  v5 := Tryz.zeroValue5
  t9 := Tryz.underlying9
  a9 := Tryz.isAgg9
  z9 := Tryz.sizeOf9
  v9 := Tryz.zeroValue9
  t20 := Tryz.underlying20
  a20 := Tryz.isAgg20
  z20 := Tryz.sizeOf20
  v20 := Tryz.zeroValue20
  t21 := Tryz.underlying21
  a21 := Tryz.isAgg21
  z21 := Tryz.sizeOf21
  v21 := Tryz.zeroValue21
  t37 := Tryz.underlying184
  a37 := Tryz.isAgg184
  z37 := Tryz.sizeOf184
  v37 := Tryz.zeroValue184
  t46 := Tryz.underlying126
  a46 := Tryz.isAgg126
  z46 := Tryz.sizeOf126
  v46 := Tryz.zeroValue126
  t51 := Tryz.underlying172
  a51 := Tryz.isAgg172
  z51 := Tryz.sizeOf172
  v51 := Tryz.zeroValue172
  t70 := Tryz.underlying183
  a70 := Tryz.isAgg183
  z70 := Tryz.sizeOf183
  v70 := Tryz.zeroValue183
  t72 := Tryz.underlying186
  a72 := Tryz.isAgg186
  z72 := Tryz.sizeOf186
  v72 := Tryz.zeroValue186
  t75 := Tryz.underlying189
  a75 := Tryz.isAgg189
  z75 := Tryz.sizeOf189
  v75 := Tryz.zeroValue189
  t76 := Tryz.underlying190
  a76 := Tryz.isAgg190
  z76 := Tryz.sizeOf190
  v76 := Tryz.zeroValue190
  t105 := Tryz.underlying236
  a105 := Tryz.isAgg236
  z105 := Tryz.sizeOf236
  v105 := Tryz.zeroValue236
  t119 := Tryz.underlying261
  a119 := Tryz.isAgg261
  z119 := Tryz.sizeOf261
  t127 := Tryz.underlying227
  a127 := Tryz.isAgg227
  z127 := Tryz.sizeOf227
  v127 := Tryz.zeroValue227
  t138 := Tryz.underlying263
  a138 := Tryz.isAgg263
  z138 := Tryz.sizeOf263
  v138 := Tryz.zeroValue263
  t139 := Tryz.underlying264
  a139 := Tryz.isAgg264
  z139 := Tryz.sizeOf264
  v139 := Tryz.zeroValue264
  t146 := Tryz.underlying273
  a146 := Tryz.isAgg273
  z146 := Tryz.sizeOf273
  v146 := Tryz.zeroValue273
  t164 := Tryz.underlying244
  a164 := Tryz.isAgg244
  z164 := Tryz.sizeOf244
  v164 := Tryz.zeroValue244
  g1 := by kernel_rfl
  g3 := by kernel_rfl
  g4 := by kernel_rfl }
theorem Tryz.Builder_Extra_155 : Builder.Extra Tryz.prog Tryz.lays155_ren := {
  sizeBuilder := by kernel_rfl
  liesBuilder := by kernel_rfl
  t5 := Tryz.underlying5
  a5 := Tryz.isAgg5
  z5 := Tryz.sizeOf5
  v5 := Tryz.zeroValue5
  infoByte := by kernel_rfl
  cellsByte := by kernel_rfl
  sizeByte := by kernel_rfl
  neB5 := by decide }
open Go.RowKit Go.Lib in
theorem Tryz.strings_ReplaceAll (s old new : ByteArray) (m : Int) (w : World) (hs : s.size < 4294967281) (hm : w.cell? ⟨4, 0, none⟩ = some (.int .i64 m)) (h1 : 1 ≤ old.size) (hlen : s.size + Lib.countB s old * new.size ≤ 140737488355328) :
    Calls Tryz.prog 143 #[.string s, .string old, .string new] w fun e w' =>
      e = .returned (.string ⟨(Lib.replaceAll s.data.toList old.data.toList new.data.toList).toArray⟩) ∧ Below w.heap.size w w' := Any.strings_ReplaceAll Tryz.lays155 Tryz.Builder_Extra_155 s old new m w hs hm h1 hlen
def Tryz.lays227_ren : Go.Shelf.Ren := ⟨fun | 227 => 175 | n => n, fun | 9 => 9 | 116 => 205 | 4 => 4 | 0 => 0 | 3 => 3 | 5 => 5 | n => n, fun | n => n⟩
theorem Tryz.lays227 : Go.Proofs.Lays.n227 Tryz.prog Tryz.lays227_ren := {
  mixed := by kernel_rfl
  f227 := Tryz.func175.trans (congrArg some (by kernel_rfl))
  t0 := Tryz.underlying0
  a0 := Tryz.isAgg0
  z0 := Tryz.sizeOf0
  v0 := Tryz.zeroValue0
  t3 := Tryz.underlying3
  a3 := Tryz.isAgg3
  z3 := Tryz.sizeOf3
  v3 := Tryz.zeroValue3
  t4 := Tryz.underlying4
  a4 := Tryz.isAgg4
  z4 := Tryz.sizeOf4
  v4 := Tryz.zeroValue4
  t5 := Tryz.underlying5
  a5 := Tryz.isAgg5
  z5 := Tryz.sizeOf5
  v5 := Tryz.zeroValue5
  t9 := Tryz.underlying9
  a9 := Tryz.isAgg9
  z9 := Tryz.sizeOf9
  v9 := Tryz.zeroValue9
  t116 := Tryz.underlying205
  a116 := Tryz.isAgg205
  z116 := Tryz.sizeOf205 }
open Go.RowKit Go.Lib in
theorem Tryz.strings_makeASCIISet (hv116 : ∀ w, (zeroValue 205).run Tryz.prog w = .ok (.agg (Array.replicate 256 (.bool false))) w) (chars : ByteArray) (w : World) (hs : chars.size < 4294967281) (hascii : ∀ (j : Nat) b, chars.data.toList[j]? = some b → b.toNat < 128) :
    Calls Tryz.prog 175 #[.string chars] w fun e w' => e = .returned (.tuple #[.agg (Lib.setCells chars.data.toList), .bool true]) ∧ w' = w.alloc (.cells (Lib.setCells chars.data.toList) 205) := Any.strings_makeASCIISet Tryz.lays227 hv116 (by kernel_rfl) chars w hs hascii
def Tryz.lays228_ren : Go.Shelf.Ren := ⟨fun | 228 => 221 | n => n, fun | 124 => 209 | 5 => 5 | 4 => 4 | 0 => 0 | 116 => 205 | n => n, fun | n => n⟩
theorem Tryz.lays228 : Go.Proofs.Lays.n228 Tryz.prog Tryz.lays228_ren := {
  mixed := by kernel_rfl
  f228 := Tryz.func221.trans (congrArg some (by kernel_rfl))
  t0 := Tryz.underlying0
  a0 := Tryz.isAgg0
  z0 := Tryz.sizeOf0
  v0 := Tryz.zeroValue0
  t4 := Tryz.underlying4
  a4 := Tryz.isAgg4
  z4 := Tryz.sizeOf4
  v4 := Tryz.zeroValue4
  t5 := Tryz.underlying5
  a5 := Tryz.isAgg5
  z5 := Tryz.sizeOf5
  v5 := Tryz.zeroValue5
  t116 := Tryz.underlying205
  a116 := Tryz.isAgg205
  z116 := Tryz.sizeOf205
  t124 := Tryz.underlying209
  a124 := Tryz.isAgg209
  z124 := Tryz.sizeOf209
  v124 := Tryz.zeroValue209 }
open Go.RowKit Go.Lib in
theorem Tryz.asciiSet_contains (b : Nat) (x : UInt8) (v : Bool) (w : World) (hc : w.cell? ⟨b, x.toNat, none⟩ = some (.bool v)) :
    Calls Tryz.prog 221 #[.pointer (some ⟨b, 0, none⟩), .int .u8 x.toNat] w fun e w' => e = .returned (.bool v) ∧ w' = w := Any.asciiSet_contains Tryz.lays228 b x v w hc
def Tryz.lays194_ren : Go.Shelf.Ren := ⟨fun | 194 => 75 | n => n, fun | 31 => 77 | 9 => 9 | 3 => 3 | 4 => 4 | 0 => 0 | n => n, fun | n => n⟩
theorem Tryz.lays194 : Go.Proofs.Lays.n194 Tryz.prog Tryz.lays194_ren := {
  mixed := by kernel_rfl
  f194 := Tryz.func75.trans (congrArg some (by kernel_rfl))
  t0 := Tryz.underlying0
  a0 := Tryz.isAgg0
  z0 := Tryz.sizeOf0
  v0 := Tryz.zeroValue0
  t3 := Tryz.underlying3
  a3 := Tryz.isAgg3
  z3 := Tryz.sizeOf3
  v3 := Tryz.zeroValue3
  t4 := Tryz.underlying4
  a4 := Tryz.isAgg4
  z4 := Tryz.sizeOf4
  v4 := Tryz.zeroValue4
  t9 := Tryz.underlying9
  a9 := Tryz.isAgg9
  z9 := Tryz.sizeOf9
  v9 := Tryz.zeroValue9
  t31 := Tryz.underlying77
  a31 := Tryz.isAgg77
  z31 := Tryz.sizeOf77
  v31 := Tryz.zeroValue77 }
open Go.RowKit Go.Lib Go.Sort in
theorem Tryz.slices_Compact_string (blk off cap : Nat) (zs : List (List UInt8)) (w : World) (hH : Holds encStr w blk off zs.toArray) (hsz : zs.length ≤ 9223372036854775807) (hcap : zs.length ≤ cap) :
    Calls Tryz.prog 75 #[.slice (some ⟨blk, off, none⟩) zs.length cap] w fun e w' => e = .returned (.slice (some ⟨blk, off, none⟩) (Lib.compact zs).length cap) ∧ ∃ q, w' = putRow encStr (Sort.ahead w q) blk off (Lib.compact zs ++ List.replicate (zs.length - (Lib.compact zs).length) []).toArray := Any.slices_Compact_string Tryz.lays194 blk off cap zs w hH hsz hcap
open Go.RowKit Go.Lib Go.Sort in
theorem Tryz.slices_Compact_string_empty (a : Option Addr) (cap : Nat) (w : World) :
    Calls Tryz.prog 75 #[.slice a 0 cap] w fun e w' => e = .returned (.slice a 0 cap) ∧ w' = w := Any.slices_Compact_string_empty Tryz.lays194 a cap w
open Go.RowKit Go.Sort in
theorem Tryz.slices_Sort_string_none (p : Option Addr) (cap : Nat) (w : World) :
    Calls Tryz.prog 74 #[.slice p 0 cap] w fun e w' => e = .returned (.tuple #[]) ∧ w' = w := Any.slices_Sort_string_none Tryz.lays190 p cap w
end Go.Proofs
namespace Go.Proofs.YtbpdfpfgijhokaaGreatDoor
set_option maxRecDepth 100000
open Go.Dn Go.Proofs
open Go.RowKit (Below)
set_option linter.unusedVariables false
/-! ### what package-level variables hold -/
def shapeCells : List Value := [(-1, 0, 0), (0, 0, 0), (0, 0, 0), (2, 1, 1), (2, 1, 1), (2, 1, 1), (2, 1, 1), (2, 1, 1), (1, 1, 1), (2, 0, 2), (2, 0, 2), (2, 0, 2), (2, 2, 2), (2, 2, 2), (1, 2, 2), (1, 0, 2), (1, 3, 1)].flatMap fun (x : Int × Int × Int) => [Value.int .i64 x.1, .int .i64 x.2.1, .int .i64 x.2.2]
def keyCells : List Value := ([⟨#[115, 101, 108, 101, 99, 116]⟩, ⟨#[119, 104, 101, 114, 101]⟩, ⟨#[103, 114, 111, 117, 112]⟩, ⟨#[98, 121]⟩, ⟨#[111, 114, 100, 101, 114]⟩, ⟨#[108, 105, 109, 105, 116]⟩, ⟨#[97, 115]⟩, ⟨#[97, 110, 100]⟩, ⟨#[111, 114]⟩, ⟨#[110, 111, 116]⟩,
   ⟨#[105, 115]⟩, ⟨#[110, 117, 108, 108]⟩, ⟨#[116, 114, 117, 101]⟩, ⟨#[102, 97, 108, 115, 101]⟩, ⟨#[108, 101, 110]⟩, ⟨#[100, 101, 115, 99]⟩, ⟨#[99, 111, 117, 110, 116]⟩, ⟨#[115, 117, 109]⟩, ⟨#[109, 105, 110]⟩, ⟨#[109, 97, 120]⟩] : List ByteArray).map Value.string
def gatherCells : List Value := ([⟨#[]⟩, ⟨#[]⟩, ⟨#[99, 111, 117, 110, 116]⟩, ⟨#[115, 117, 109]⟩, ⟨#[109, 105, 110]⟩, ⟨#[109, 97, 120]⟩] : List ByteArray).map Value.string
structure Env (w : World) : Prop where
  max : ∃ m, w.cell? ⟨4, 0, none⟩ = some (.int .i64 m)
  pow : Lib.TabIs Tryz.prog w "internal/strconv.uint64pow10" .u64 Lib.pow10Tab
  shp : Rd w (some ⟨1, 0, none⟩) shapeCells
  key : Rd w (some ⟨2, 0, none⟩) keyCells
  gat : Rd w (some ⟨0, 0, none⟩) gatherCells
theorem var_grown {P : Program} {w w' : World} {n : String} {cs : Array Value} (h : w.var? P n = some cs) (hb : Below w.heap.size w w') : w'.var? P n = some cs := by
  unfold World.var? at *
  cases hg : P.globalNamed n with
  | none => simp [hg] at h
  | some g =>
    simp only [hg, Option.bind_some] at h ⊢
    split at h
    · rename_i c t fz hh
      rw [hb.block g (Array.getElem?_eq_some_iff.1 hh).1, hh]
      exact h
    · cases h
theorem Env.grown {w w' : World} (h : Env w) (hb : Below w.heap.size w w') : Env w' := by
  refine ⟨?_, var_grown h.pow hb, h.shp.grown hb, h.key.grown hb, h.gat.grown hb⟩
  obtain ⟨m, hm⟩ := h.max
  exact ⟨m, (Keeps.of_below (F := fun _ => False) hb).cell hm (by simp)⟩
theorem strconv_FormatBool_ok (b : Bool) (w : World) : Calls Tryz.prog f.strconv_FormatBool #[.bool b] w fun e w' => e = .returned (.string ⟨(Lib.formatBool b).toArray⟩) ∧ w' = w := by
  have h : Calls Tryz.prog f.strconv_FormatBool #[.bool b] w (Ret fun v w' => v = .string ⟨(Lib.formatBool b).toArray⟩ ∧ w' = w) := by
    apply R.strconv_FormatBool_calls
    unfold R.strconv_FormatBool
    have h2 : Calls Tryz.prog f.in_strconv_FormatBool #[.bool b] w (Ret fun v w' => v = .string ⟨(Lib.formatBool b).toArray⟩ ∧ w' = w) := by
      apply R.in_strconv_FormatBool_calls
      unfold R.in_strconv_FormatBool
      cases b
      · exact ⟨rfl, rfl⟩
      · exact ⟨rfl, rfl⟩
    refine h2.mono ?_
    rintro _ w' ⟨_, rfl, rfl, rfl⟩
    exact ⟨_, rfl, rfl, rfl⟩
  refine h.mono ?_
  rintro _ w' ⟨_, rfl, rfl, rfl⟩
  exact ⟨rfl, rfl⟩
theorem below_grow (w : World) (k : Nat) (os : Array Obj) : Below w.heap.size w (Sort.grow (w.drewN k) os) := by
  refine ⟨rfl, rfl, rfl, ?_, fun j hj => ?_⟩
  · simp [Sort.grow, World.drewN]
  · simp [Sort.grow, World.drewN, Array.getElem?_append, hj]
/-! ### Number, Signed, Text -/
/-! ### Lay -/
structure ValOk (v : Val) : Prop where
  lo : -9223372036854775808 ≤ v.2.1
  hi : v.2.1 ≤ 9223372036854775807
theorem right_kind {v : Val} (h : rightB v = true) : v.1 = 0 ∨ v.1 = 1 ∨ (v.1 = 2 ∧ (v.2.1 = 0 ∨ v.2.1 = 1)) ∨ (v.1 = 3 ∧ v.2.2.size ≤ 1024) := by
  unfold rightB at h
  split at h
  · left; assumption
  · split at h
    · right; left; assumption
    · split at h
      · right; right; left; simp at h; exact ⟨by assumption, h.1⟩
      · split at h
        · right; right; right; simp at h; exact ⟨by assumption, h.2⟩
        · cases h
/-! ### Show -/
def quoteL (l : List UInt8) : List UInt8 := l.flatMap fun c => if c = 39 then [39, 39] else [c]
theorem quoteL_len (l : List UInt8) : (quoteL l).length ≤ 2 * l.length := by
  induction l with
  | nil => simp [quoteL]
  | cons c l ih =>
    simp only [quoteL, List.flatMap_cons, List.length_append, List.length_cons] at *
    split <;> simp only [List.length_cons, List.length_nil] <;> omega
theorem index39_hit (l : List UInt8) : Lib.index (39 :: l) [39] = 0 := by simp [Lib.index, List.isPrefixOf]
theorem index39_miss (c : UInt8) (l : List UInt8) (h : c ≠ 39) : Lib.index (c :: l) [39] = if Lib.index l [39] == -1 then -1 else Lib.index l [39] + 1 := by
  have : ¬ ((39 : UInt8) = c) := fun e => h e.symm
  simp [Lib.index, List.isPrefixOf, this]
theorem replaceK_miss (c : UInt8) (l : List UInt8) (h : c ≠ 39) : ∀ k, Lib.replaceK [39] [39, 39] k (c :: l) = c :: Lib.replaceK [39] [39, 39] k l
  | 0 => rfl
  | k + 1 => by
    have hge := Lib.index_ge l [39]
    rw [Lib.replaceK, Lib.replaceK, index39_miss c l h]
    by_cases hm : Lib.index l [39] = -1
    · simp [hm]
    · have h1 : ¬ (Lib.index l [39] == -1) = true := by simpa using hm
      rw [if_neg h1, if_neg h1]
      have h2 : ¬ (Lib.index l [39] + 1 == -1) = true := by simp; omega
      rw [if_neg h2]
      obtain ⟨i, hi⟩ : ∃ i : Nat, Lib.index l [39] = i := ⟨(Lib.index l [39]).toNat, by omega⟩
      rw [hi]
      have e : ((i : Int) + 1).toNat = i + 1 := by omega
      rw [e, Int.toNat_natCast]
      have e2 : i + 1 + [(39 : UInt8)].length = (i + [(39 : UInt8)].length) + 1 := by simp
      rw [e2, List.drop_succ_cons, List.take_succ_cons]
      rfl
theorem replaceK_quote : ∀ (l : List UInt8) (k : Nat), l.count 39 ≤ k → Lib.replaceK [39] [39, 39] k l = quoteL l
  | [], k, _ => by
    cases k with
    | zero => rfl
    | succ k => simp [Lib.replaceK, Lib.index, quoteL]
  | c :: l, k, hk => by
    by_cases hc : c = 39
    · subst hc
      simp only [List.count_cons_self] at hk
      obtain ⟨k, rfl⟩ : ∃ j, k = j + 1 := ⟨k - 1, by omega⟩
      rw [Lib.replaceK_hit _ _ _ _ 0 (index39_hit l)]
      have := replaceK_quote l k (by omega)
      simp [this, quoteL]
    · rw [List.count_cons_of_ne (fun e => hc e)] at hk
      rw [replaceK_miss c l hc, replaceK_quote l k hk]
      simp [quoteL, hc]
theorem replaceAll_quote (l : List UInt8) : Lib.replaceAll l [39] [39, 39] = quoteL l := by
  unfold Lib.replaceAll Lib.replace
  rw [if_neg (by decide)]
  refine replaceK_quote l _ ?_
  unfold Lib.replaceNum
  rw [if_pos (.inl (by decide)), Lib.count_one]
  exact Nat.le_refl _
def showL (v : Val) : List UInt8 :=
  if v.1 = 0 then [110, 117, 108, 108] else if v.1 = 1 then Lib.itoa v.2.1 else if v.1 = 2 then Lib.formatBool (v.2.1 == 1) else (39 :: quoteL (bl v.2.2)) ++ [39]
def showV (v : Val) : Value := if rightB v then .tuple #[.string (sof (showL v)), .int .i64 0] else .tuple #[.string ⟨#[]⟩, .int .i64 2]
theorem value_Show_ok {w : World} (he : Env w) (v : Val) (hv : ValOk v) : Calls Tryz.prog f.value_Show #[valV v] w (Ret fun r w' => r = showV v ∧ Below w.heap.size w w') := by
  apply R.value_Show_calls
  unfold R.value_Show
  refine (SH.start (fun _ => False) w).newB fun b5 w1 hb5 B1 S1 => ⟨_, S1.cell 0 rfl rfl, _, S1.cell 0 rfl rfl, _, S1.cell 0 rfl rfl, (value_Right_ok w1 v).mono ?_⟩
  rintro _ w2 ⟨_, rfl, rfl, B2⟩
  have S2 := S1.grown B2
  have he2 := he.grown S2.below
  refine ⟨_, rfl, IFB_not (IFB_of (fun hr => ?_) (fun hr => ⟨by simp [showV, hr], S2.below⟩))⟩
  have hk := right_kind hr
  have out : ∀ l, showL v = l → Value.tuple #[.string (sof l), .int .i64 0] = showV v := fun l hl => by simp [showV, hr, hl]
  refine ⟨_, S2.cell 0 rfl rfl, IFB_eq (fun h => ⟨?_, S2.below⟩) (fun h0 => IFB_eq (fun h => ⟨_, S2.cell 0 rfl rfl, ?_⟩) (fun h1 => IFB_eq (fun h => ⟨_, S2.cell 0 rfl rfl, ?_⟩) (fun h2 => ⟨_, S2.cell 0 rfl rfl, ?_⟩)))⟩
  · exact out [110, 117, 108, 108] (by simp [showL, h])
  · refine (Tryz.strconv_FormatInt_10 v.2.1 hv.lo hv.hi w2 he2.pow).mono ?_
    rintro _ w3 ⟨rfl, k, os, rfl⟩
    exact ⟨_, rfl, out (Lib.itoa v.2.1) (by simp [showL, h]), (S2.grown (below_grow w2 k os)).below⟩
  · refine (strconv_FormatBool_ok _ w2).mono ?_
    rintro _ w2 ⟨rfl, rfl⟩
    exact ⟨_, rfl, out (Lib.formatBool (v.2.1 == 1)) (by simp [showL, h]), S2.below⟩
  · obtain ⟨m, hm⟩ := he2.max
    have hs : v.2.2.size ≤ 1024 := by omega
    have hbl := bl_length v.2.2
    have hq := quoteL_len (bl v.2.2)
    refine (Tryz.strings_ReplaceAll v.2.2 ⟨#[39]⟩ ⟨#[39, 39]⟩ m w2 (by omega) hm (by decide) ?_).mono ?_
    · have h1 := Lib.count_le v.2.2.data.toList [39]
      have h3 : v.2.2.data.toList.length = v.2.2.size := hbl
      have h2 : Lib.countB v.2.2 ⟨#[39]⟩ ≤ 1025 := Nat.le_trans h1 (by omega)
      have h4 : (ByteArray.mk #[39, 39]).size = 2 := rfl
      rw [h4]
      omega
    rintro _ w3 ⟨rfl, B3⟩
    have e : (ByteArray.mk (Lib.replaceAll v.2.2.data.toList (ByteArray.mk #[39]).data.toList (ByteArray.mk #[39, 39]).data.toList).toArray) = sof (quoteL (bl v.2.2)) := by
      have := replaceAll_quote (bl v.2.2)
      show sof _ = _
      congr 1
    rw [e]
    refine ⟨_, rfl, ?_, ?_, ?_, (S2.grown B3).below⟩
    · rw [size_sof]
      show 1 + _ ≤ _
      omega
    · rw [ByteArray.size_append, size_sof]
      show 1 + _ + 1 ≤ _
      omega
    · rw [show (ByteArray.mk #[39]) = sof [39] from rfl, sof_append, sof_append]
      exact out _ (by simp [showL, h0, h1, h2])
end Go.Proofs.YtbpdfpfgijhokaaGreatDoor
namespace Go.Proofs.YtbpdfpfgijhokaaGreatDoor
set_option maxRecDepth 100000
open Go.Dn Go.Proofs
open Go.RowKit (Below)
set_option linter.unusedVariables false
/-! ### cells out of data, one element after another -/
theorem trod_str {H : Type} {enc : TypeId × Value → H} {P : Program} {w : World} {base : Nat} {sp : Nat → Bool} {held : Bool} {fuel : Nat} {t : TypeId} {cs : List Value} {b : List UInt8} {p : List MemPlace} (ht : P.underlying t = some .string) (h : DataW.trod enc P w base sp held fuel t cs = some (.lit (.string b), p)) : cs = [.string (sof b)] := by
  obtain ⟨s, rfl, hx, _⟩ := DataW.trod_string ht h
  cases hx
  rw [show s.data.toList = bl s from rfl, sof_bl]
theorem trod_arr {H : Type} {enc : TypeId × Value → H} {P : Program} {w : World} {base : Nat} {sp : Nat → Bool} {held : Bool} {fuel : Nat} {t e : TypeId} {n m : Nat} {cs : List Value} {ds : List (DataW H)} {vss : List (List Value)} {p : List MemPlace}
    (ht : P.underlying t = some (.array n e)) (hce : P.cellsOf e = m) (hct : P.cellsOf t = n * m) (hv : vss.length = n) (hd : ds.length = n)
    (hel : ∀ (f : Nat) (i : Nat) (c : List Value) (d : DataW H) (q : List MemPlace), ds[i]? = some d → DataW.trod enc P w base sp held f e c = some (d, q) → vss[i]? = some c)
    (h : DataW.trod enc P w base sp held fuel t cs = some (.agg ds, p)) : cs = vss.flatten := by
  cases fuel with
  | zero => simp [DataW.trod] at h
  | succ fuel =>
    simp only [DataW.trod, ht, hce, hct] at h
    split at h
    · rename_i hl
      obtain ⟨xs, hm, hx⟩ := Option.map_eq_some_iff.1 h
      have hxs : xs.map (·.1) = ds := by
        have := congrArg Prod.fst hx
        simpa using this
      have all : ∀ i, i < n → vss[i]? = some ((cs.drop (i * m)).take m) := fun i hi => by
        obtain ⟨b, hb, hf⟩ := Lib.mapM_at hm i i (by simp [hi])
        exact hel _ i _ b.1 b.2 (by rw [← hxs]; simp [hb]) hf
      have go : ∀ (l : List (List Value)) (c : List Value), c.length = l.length * m → (∀ i, i < l.length → l[i]? = some ((c.drop (i * m)).take m)) → c = l.flatten := by
        intro l
        induction l with
        | nil => intro c hc _; exact List.eq_nil_of_length_eq_zero (by simpa using hc)
        | cons z l ih =>
          intro c hc hh
          have h0 := hh 0 (by simp)
          simp only [List.getElem?_cons_zero, Nat.zero_mul, List.drop_zero, Option.some.injEq] at h0
          have := ih (c.drop m) (by rw [List.length_drop, hc, List.length_cons, Nat.add_mul]; omega) fun i hi => by
            have := hh (i + 1) (by simp; omega)
            rw [List.getElem?_cons_succ] at this
            rw [List.drop_drop, show m + i * m = (i + 1) * m by rw [Nat.add_mul]; omega]
            exact this
          rw [List.flatten_cons, h0, ← this, List.take_append_drop]
      exact go vss cs (by rw [hl, hv]) fun i hi => all i (by omega)
    · cases h
theorem trod_three {H : Type} {enc : TypeId × Value → H} {P : Program} {w : World} {base : Nat} {sp : Nat → Bool} {held : Bool} {fuel : Nat} {t i64t : TypeId} {cs : List Value} {x y z : Int} {p : List MemPlace}
    (ht : fieldsT P t = some [(i64t, 0), (i64t, 1), (i64t, 2)]) (hi : P.underlying i64t = some (.int .i64)) (hc1 : P.cellsOf i64t = 1) (hc : P.cellsOf t = 3)
    (h : DataW.trod enc P w base sp held fuel t cs = some (.agg [.lit (.int .i64 x), .lit (.int .i64 y), .lit (.int .i64 z)], p)) : cs = [.int .i64 x, .int .i64 y, .int .i64 z] := by
  obtain ⟨fs, hu, hfs⟩ : ∃ fs, P.underlying t = some (.struct fs) ∧ fs.toList.map (fun f => (f.type, f.offset)) = [(i64t, 0), (i64t, 1), (i64t, 2)] := by
    unfold fieldsT at ht
    split at ht
    · rename_i fs hu
      exact ⟨fs, hu, Option.some.inj ht⟩
    · cases ht
  obtain ⟨xs, n, rfl, hx, hl, hn, hall⟩ := DataW.trod_struct hu h
  rw [hc] at hl
  have hxs : xs.map (·.1) = [.lit (.int .i64 x), .lit (.int .i64 y), .lit (.int .i64 z)] := by
    have := congrArg Prod.fst hx
    simpa using this.symm
  have one : ∀ (i : Nat) (v : Int), (fs.toList.map fun f => (f.type, f.offset))[i]? = some (i64t, i) → (xs.map (·.1))[i]? = some (.lit (.int .i64 v)) → (cs.drop i).take 1 = [.int .i64 v] := by
    intro i v hi' hv
    rw [List.getElem?_map] at hi' hv
    obtain ⟨f, hf, hff⟩ := Option.map_eq_some_iff.1 hi'
    obtain ⟨b, hb, hbv⟩ := Option.map_eq_some_iff.1 hv
    have := hall i f (by simpa using hf)
    rw [hb, show f.type = i64t from congrArg Prod.fst hff, show f.offset = i from congrArg Prod.snd hff, hc1] at this
    obtain ⟨z', hcs, rfl, _⟩ := DataW.trod_int hi this
    cases hbv
    exact hcs
  rw [hfs, hxs] at one
  match cs, hl with
  | [u0, u1, u2], _ =>
    have h0 := one 0 x rfl rfl
    have h1 := one 1 y rfl rfl
    have h2 := one 2 z rfl rfl
    simp at h0 h1 h2
    rw [h0, h1, h2]
theorem vars_rd {P : Program} {W : World} {name : String} {g : Nat} {cs : List Value} (hg : P.globalNamed name = some g) (h : W.var? P name = some cs.toArray) : Rd W (some ⟨g, 0, none⟩) cs := by
  intro j v hv
  refine ⟨_, rfl, ?_⟩
  rw [addr_add_blk, Nat.zero_add]
  have := World.var?_cell hg h j
  rw [this]
  simpa using hv
theorem arr_of {P : Program} {W : World} {name : String} {g : Nat} {t e : TypeId} {n m : Nat} {ds : List (DataW Unit)} {vss : List (List Value)} {rest : List (String × DataW Unit)}
    (hg : P.globalNamed name = some g) (hty : (P.globals[g]?).map (·.type) = some t) (ht : P.underlying t = some (.array n e)) (hce : P.cellsOf e = m) (hct : P.cellsOf t = n * m) (hv : vss.length = n) (hd : ds.length = n)
    (hel : ∀ (H : Type) (enc : TypeId × Value → Unit) (base : Nat) (sp : Nat → Bool) (held : Bool) (f : Nat) (i : Nat) (c : List Value) (d : DataW Unit) (q : List MemPlace), ds[i]? = some d → DataW.trod enc P W base sp held f e c = some (d, q) → vss[i]? = some c)
    (h : laidMet P ((name, .agg ds) :: rest) W) : Rd W (some ⟨g, 0, none⟩) vss.flatten := by
  obtain ⟨ps, ⟨g', t', cs, fuel, p, q, hg', ht', hvar, hd', _, _⟩, _⟩ := h
  obtain rfl := Option.some.inj (hg.symm.trans hg')
  obtain rfl := Option.some.inj (hty.symm.trans ht')
  have e := trod_arr ht hce hct hv hd (fun f i c d q h1 h2 => hel Unit _ _ _ _ f i c d q h1 h2) hd'
  refine vars_rd hg ?_
  rw [hvar, ← e]
theorem flat_one {α β : Type} (f : α → β) : ∀ l : List α, (l.map fun b => [f b]).flatten = l.map f
  | [] => rfl
  | b :: l => by rw [List.map_cons, List.flatten_cons, flat_one f l]; rfl
theorem strs_of {P : Program} {W : World} {name : String} {g : Nat} {t e : TypeId} {n : Nat} {bs : List ByteArray} {rest : List (String × DataW Unit)}
    (hg : P.globalNamed name = some g) (hty : (P.globals[g]?).map (·.type) = some t) (ht : P.underlying t = some (.array n e)) (he : P.underlying e = some .string) (hce : P.cellsOf e = 1) (hct : P.cellsOf t = n) (hn : bs.length = n)
    (h : laidMet P ((name, .agg (bs.map fun b => .lit (.string (bl b)))) :: rest) W) : Rd W (some ⟨g, 0, none⟩) (bs.map Value.string) := by
  have := arr_of (vss := bs.map fun b => [Value.string b]) hg hty ht hce (by rw [hct, Nat.mul_one]) (by simpa using hn) (by simpa using hn) (fun _ _ _ _ _ f i c d q h1 h2 => by
    rw [List.getElem?_map] at h1 ⊢
    obtain ⟨b, hb, rfl⟩ := Option.map_eq_some_iff.1 h1
    rw [hb, trod_str he h2, sof_bl]
    rfl) h
  rwa [flat_one] at this
theorem trip_of {P : Program} {W : World} {name : String} {g : Nat} {t e i64t : TypeId} {n : Nat} {xs : List (Int × Int × Int)} {rest : List (String × DataW Unit)}
    (hg : P.globalNamed name = some g) (hty : (P.globals[g]?).map (·.type) = some t) (ht : P.underlying t = some (.array n e)) (he : fieldsT P e = some [(i64t, 0), (i64t, 1), (i64t, 2)]) (hi : P.underlying i64t = some (.int .i64)) (hc1 : P.cellsOf i64t = 1) (hce : P.cellsOf e = 3) (hct : P.cellsOf t = n * 3) (hn : xs.length = n)
    (h : laidMet P ((name, .agg (xs.map fun x => .agg [.lit (.int .i64 x.1), .lit (.int .i64 x.2.1), .lit (.int .i64 x.2.2)])) :: rest) W) : Rd W (some ⟨g, 0, none⟩) (xs.flatMap fun x => [Value.int .i64 x.1, .int .i64 x.2.1, .int .i64 x.2.2]) := by
  have := arr_of (vss := xs.map fun x => [Value.int .i64 x.1, .int .i64 x.2.1, .int .i64 x.2.2]) hg hty ht hce hct (by simpa using hn) (by simpa using hn) (fun _ _ _ _ _ f i c d q h1 h2 => by
    rw [List.getElem?_map] at h1 ⊢
    obtain ⟨b, hb, rfl⟩ := Option.map_eq_some_iff.1 h1
    rw [hb, trod_three he hi hc1 hce h2]
    rfl) h
  rwa [← List.flatMap_def] at this
theorem pow_of {W : World} {l : List (String × DataW Unit)} (hf : (l.filter fun x => x.1 == "internal/strconv.uint64pow10") = [("internal/strconv.uint64pow10", Rows.laid_internal_strconv_uint64pow10)]) (h : laidMet Tryz.prog l W) :
    Lib.TabIs Tryz.prog W "internal/strconv.uint64pow10" .u64 Lib.pow10Tab := by
  have h1 := h.filter fun x => x.1 == "internal/strconv.uint64pow10"
  rw [hf] at h1
  exact Lib.tabIs_of_head (g := 3) (t := 248) (e := ty.uint64) (n := 20) (by kernel_rfl) (by kernel_rfl) (by kernel_rfl) (by kernel_rfl) (by kernel_rfl) (by kernel_rfl) h1
theorem max_of {W : World} (h : W.ShapedOpen Tryz.prog) : ∃ m, W.cell? ⟨4, 0, none⟩ = some (.int .i64 m) :=
  cell_of_shapedOpen_int (zero := #[.int .i64 0]) (t := ty.int) h (of_decide_eq_true (by kernel_rfl)) (by kernel_rfl) rfl (by kernel_rfl) (by kernel_rfl) (by kernel_rfl)
def shapesL : List (Int × Int × Int) := [(-1, 0, 0), (0, 0, 0), (0, 0, 0), (2, 1, 1), (2, 1, 1), (2, 1, 1), (2, 1, 1), (2, 1, 1), (1, 1, 1), (2, 0, 2), (2, 0, 2), (2, 0, 2), (2, 2, 2), (2, 2, 2), (1, 2, 2), (1, 0, 2), (1, 3, 1)]
def keysL : List ByteArray := [⟨#[115, 101, 108, 101, 99, 116]⟩, ⟨#[119, 104, 101, 114, 101]⟩, ⟨#[103, 114, 111, 117, 112]⟩, ⟨#[98, 121]⟩, ⟨#[111, 114, 100, 101, 114]⟩, ⟨#[108, 105, 109, 105, 116]⟩, ⟨#[97, 115]⟩, ⟨#[97, 110, 100]⟩, ⟨#[111, 114]⟩, ⟨#[110, 111, 116]⟩,
   ⟨#[105, 115]⟩, ⟨#[110, 117, 108, 108]⟩, ⟨#[116, 114, 117, 101]⟩, ⟨#[102, 97, 108, 115, 101]⟩, ⟨#[108, 101, 110]⟩, ⟨#[100, 101, 115, 99]⟩, ⟨#[99, 111, 117, 110, 116]⟩, ⟨#[115, 117, 109]⟩, ⟨#[109, 105, 110]⟩, ⟨#[109, 97, 120]⟩]
def gathersL : List ByteArray := [⟨#[]⟩, ⟨#[]⟩, ⟨#[99, 111, 117, 110, 116]⟩, ⟨#[115, 117, 109]⟩, ⟨#[109, 105, 110]⟩, ⟨#[109, 97, 120]⟩]
theorem env_of {W : World} {l : List (String × DataW Unit)} (h1 : (l.filter fun x => x.1 == "stackyard/expr.shapes") = [("stackyard/expr.shapes", Rows.laid_stackyard_expr_shapes)]) (h2 : (l.filter fun x => x.1 == "stackyard/query.keys") = [("stackyard/query.keys", Rows.laid_stackyard_query_keys)])
    (h3 : (l.filter fun x => x.1 == "stackyard/query.gathers") = [("stackyard/query.gathers", Rows.laid_stackyard_query_gathers)]) (h4 : (l.filter fun x => x.1 == "internal/strconv.uint64pow10") = [("internal/strconv.uint64pow10", Rows.laid_internal_strconv_uint64pow10)])
    (hS : W.ShapedOpen Tryz.prog) (h : laidMet Tryz.prog l W) : Env W := by
  have g1 := h.filter fun x => x.1 == "stackyard/expr.shapes"
  have g2 := h.filter fun x => x.1 == "stackyard/query.keys"
  have g3 := h.filter fun x => x.1 == "stackyard/query.gathers"
  rw [h1] at g1
  rw [h2] at g2
  rw [h3] at g3
  have e1 : (Rows.laid_stackyard_expr_shapes : DataW Unit) = .agg (shapesL.map fun x => .agg [.lit (.int .i64 x.1), .lit (.int .i64 x.2.1), .lit (.int .i64 x.2.2)]) := by rfl
  have e2 : (Rows.laid_stackyard_query_keys : DataW Unit) = .agg (keysL.map fun b => .lit (.string (bl b))) := by rfl
  have e3 : (Rows.laid_stackyard_query_gathers : DataW Unit) = .agg (gathersL.map fun b => .lit (.string (bl b))) := by rfl
  rw [e1] at g1
  rw [e2] at g2
  rw [e3] at g3
  exact ⟨max_of hS, pow_of h4 h, trip_of (g := 1) (t := 158) (e := 157) (i64t := ty.int) (n := 17) (by kernel_rfl) (by kernel_rfl) (by kernel_rfl) (by kernel_rfl) (by kernel_rfl) (by kernel_rfl) (by kernel_rfl) (by kernel_rfl) rfl g1,
    strs_of (g := 2) (t := 224) (e := ty.string) (n := 20) (by kernel_rfl) (by kernel_rfl) (by kernel_rfl) (by kernel_rfl) (by kernel_rfl) (by kernel_rfl) rfl g2,
    strs_of (g := 0) (t := 136) (e := ty.string) (n := 6) (by kernel_rfl) (by kernel_rfl) (by kernel_rfl) (by kernel_rfl) (by kernel_rfl) (by kernel_rfl) rfl g3⟩
end Go.Proofs.YtbpdfpfgijhokaaGreatDoor
namespace Go.Proofs
set_option linter.unusedVariables false
set_option maxRecDepth 100000
open Go.Shelf
def Tryz.laysC174_ren : Go.Shelf.Ren := ⟨fun | 174 => 274 | 247 => 256 | 245 => 241 | 287 => 268 | 279 => 257 | 280 => 258 | 281 => 259 | 282 => 260 | 321 => 275 | 322 => 276 | 316 => 269 | 171 => 56 | 205 => 270 | 243 => 90 | 246 => 148 | 283 => 207 | 284 => 208 | 285 => 209 | 286 => 210 | 129 => 134 | 317 => 235 | 318 => 236 | 319 => 237 | 320 => 238 | 337 => 252 | 338 => 253 | n => n, fun | 9 => 9 | 3 => 3 | 2 => 2 | 75 => 189 | 85 => 256 | 4 => 4 | 167 => 255 | 5 => 5 | 53 => 174 | 175 => 268 | 46 => 126 | 168 => 258 | 37 => 184 | 0 => 0 | 210 => 271 | 21 => 21 | 127 => 227 | 145 => 280 | 143 => 278 | 171 => 228 | 173 => 230 | 212 => 248 | 51 => 172 | 20 => 20 | 213 => 249 | 232 => 266 | 233 => 267 | 80 => 149 | n => n, fun | 15 => 9 | 16 => 10 | 17 => 3 | 18 => 7 | 19 => 8 | n => n⟩
theorem Tryz.laysC174 : Go.Proofs.LaysC.n174 Tryz.prog Tryz.laysC174_ren := {
  mixed := by kernel_rfl
  f129 := Tryz.func134.trans (congrArg some (by kernel_rfl))
  f171 := Tryz.func56.trans (congrArg some (by kernel_rfl))
  f174 := Tryz.func274.trans (congrArg some (by kernel_rfl))
  f205 := Tryz.func270.trans (congrArg some (by kernel_rfl))
  f243 := Tryz.func90.trans (congrArg some (by kernel_rfl))
  f245 := Tryz.func241.trans (congrArg some (by kernel_rfl))
  f246 := Tryz.func148.trans (congrArg some (by kernel_rfl))
  f247 := Tryz.func256.trans (congrArg some (by kernel_rfl))
  f279 := Tryz.func257.trans (congrArg some (by kernel_rfl))
  f280 := Tryz.func258.trans (congrArg some (by kernel_rfl))
  f281 := Tryz.func259.trans (congrArg some (by kernel_rfl))
  f282 := Tryz.func260.trans (congrArg some (by kernel_rfl))
  f283 := Tryz.func207.trans (congrArg some (by kernel_rfl))
  f284 := Tryz.func208.trans (congrArg some (by kernel_rfl))
  f285 := Tryz.func209.trans (congrArg some (by kernel_rfl))
  f286 := Tryz.func210.trans (congrArg some (by kernel_rfl))
  f287 := Tryz.func268.trans (congrArg some (by kernel_rfl))
  f316 := Tryz.func269.trans (congrArg some (by kernel_rfl))
  f317 := Tryz.func235.trans (congrArg some (by kernel_rfl))
  f318 := Tryz.func236.trans (congrArg some (by kernel_rfl))
  f319 := Tryz.func237.trans (congrArg some (by kernel_rfl))
  f320 := Tryz.func238.trans (congrArg some (by kernel_rfl))
  f321 := Tryz.func275.trans (congrArg some (by kernel_rfl))
  f322 := Tryz.func276.trans (congrArg some (by kernel_rfl))
  f337 := Tryz.func252.trans (congrArg some (by kernel_rfl))
  f338 := Tryz.func253.trans (congrArg some (by kernel_rfl))
  t0 := Tryz.underlying0
  a0 := Tryz.isAgg0
  z0 := Tryz.sizeOf0
  v0 := Tryz.zeroValue0
  t2 := Tryz.underlying2
  a2 := Tryz.isAgg2
  z2 := Tryz.sizeOf2
  v2 := Tryz.zeroValue2
  t3 := Tryz.underlying3
  a3 := Tryz.isAgg3
  z3 := Tryz.sizeOf3
  v3 := Tryz.zeroValue3
  t4 := Tryz.underlying4
  a4 := Tryz.isAgg4
  z4 := Tryz.sizeOf4
  v4 := Tryz.zeroValue4
  t5 := Tryz.underlying5
  a5 := Tryz.isAgg5
  z5 := Tryz.sizeOf5
  v5 := Tryz.zeroValue5
  t9 := Tryz.underlying9
  a9 := Tryz.isAgg9
  z9 := Tryz.sizeOf9
  v9 := Tryz.zeroValue9
  t20 := Tryz.underlying20
  a20 := Tryz.isAgg20
  z20 := Tryz.sizeOf20
  v20 := Tryz.zeroValue20
  t21 := Tryz.underlying21
  a21 := Tryz.isAgg21
  z21 := Tryz.sizeOf21
  v21 := Tryz.zeroValue21
  t37 := Tryz.underlying184
  a37 := Tryz.isAgg184
  z37 := Tryz.sizeOf184
  v37 := Tryz.zeroValue184
  t46 := Tryz.underlying126
  a46 := Tryz.isAgg126
  z46 := Tryz.sizeOf126
  v46 := Tryz.zeroValue126
  t51 := Tryz.underlying172
  a51 := Tryz.isAgg172
  z51 := Tryz.sizeOf172
  v51 := Tryz.zeroValue172
  t53 := Tryz.underlying174
  a53 := Tryz.isAgg174
  z53 := Tryz.sizeOf174
  v53 := Tryz.zeroValue174
  t75 := Tryz.underlying189
  a75 := Tryz.isAgg189
  z75 := Tryz.sizeOf189
  v75 := Tryz.zeroValue189
  t85 := Tryz.underlying256
  a85 := Tryz.isAgg256
  z85 := Tryz.sizeOf256
  v85 := Tryz.zeroValue256
  t127 := Tryz.underlying227
  a127 := Tryz.isAgg227
  z127 := Tryz.sizeOf227
  v127 := Tryz.zeroValue227
  t143 := Tryz.underlying278
  a143 := Tryz.isAgg278
  z143 := Tryz.sizeOf278
  v143 := Tryz.zeroValue278
  t145 := Tryz.underlying280
  a145 := Tryz.isAgg280
  z145 := Tryz.sizeOf280
  v145 := Tryz.zeroValue280
  t167 := Tryz.underlying255
  a167 := Tryz.isAgg255
  z167 := Tryz.sizeOf255
  v167 := Tryz.zeroValue255
  t168 := Tryz.underlying258
  a168 := Tryz.isAgg258
  z168 := Tryz.sizeOf258
  v168 := Tryz.zeroValue258
  t171 := Tryz.underlying228
  a171 := Tryz.isAgg228
  z171 := Tryz.sizeOf228
  v171 := Tryz.zeroValue228
  t173 := Tryz.underlying230
  a173 := Tryz.isAgg230
  z173 := Tryz.sizeOf230
  v173 := Tryz.zeroValue230
  t175 := Tryz.underlying268
  a175 := Tryz.isAgg268
  z175 := Tryz.sizeOf268
  v175 := Tryz.zeroValue268
  t210 := Tryz.underlying271
  a210 := Tryz.isAgg271
  z210 := Tryz.sizeOf271
  v210 := Tryz.zeroValue271
  t212 := Tryz.underlying248
  a212 := Tryz.isAgg248
  z212 := Tryz.sizeOf248
  v212 := Tryz.zeroValue248
  t213 := Tryz.underlying249
  a213 := Tryz.isAgg249
  z213 := Tryz.sizeOf249
  t232 := Tryz.underlying266
  a232 := Tryz.isAgg266
  z232 := Tryz.sizeOf266
  v232 := Tryz.zeroValue266
  t233 := Tryz.underlying267
  a233 := Tryz.isAgg267
  z233 := Tryz.sizeOf267
  v233 := Tryz.zeroValue267
  g15 := by kernel_rfl
  g16 := by kernel_rfl
  g17 := by kernel_rfl
  g18 := by kernel_rfl
  g19 := by kernel_rfl
  t80 := Tryz.underlying149
  a80 := Tryz.isAgg149
  z80 := Tryz.sizeOf149
  v80 := Tryz.zeroValue149
  i0 := by kernel_rfl
  i2 := by kernel_rfl
  i3 := by kernel_rfl
  i4 := by kernel_rfl
  i5 := by kernel_rfl
  i9 := by kernel_rfl
  i20 := by kernel_rfl
  i21 := by kernel_rfl
  i37 := by kernel_rfl
  i46 := by kernel_rfl
  i51 := by kernel_rfl
  i53 := by kernel_rfl
  i75 := by kernel_rfl
  i80 := by kernel_rfl
  i85 := by kernel_rfl
  i127 := by kernel_rfl
  i143 := by kernel_rfl
  i145 := by kernel_rfl
  i167 := by kernel_rfl
  i168 := by kernel_rfl
  i171 := by kernel_rfl
  i173 := by kernel_rfl
  i175 := by kernel_rfl
  i210 := by kernel_rfl
  i212 := by kernel_rfl
  i232 := by kernel_rfl
  i233 := by kernel_rfl
  m15 := by kernel_rfl
  m16 := by kernel_rfl
  m17 := by kernel_rfl
  m18 := by kernel_rfl
  m19 := by kernel_rfl
  c0 := by kernel_rfl
  c2 := by kernel_rfl
  c3 := by kernel_rfl
  c4 := by kernel_rfl
  c5 := by kernel_rfl
  c9 := by kernel_rfl
  c20 := by kernel_rfl
  c21 := by kernel_rfl
  c37 := by kernel_rfl
  c46 := by kernel_rfl
  c51 := by kernel_rfl
  c53 := by kernel_rfl
  c75 := by kernel_rfl
  c80 := by kernel_rfl
  c85 := by kernel_rfl
  c127 := by kernel_rfl
  c143 := by kernel_rfl
  c145 := by kernel_rfl
  c167 := by kernel_rfl
  c168 := by kernel_rfl
  c171 := by kernel_rfl
  c173 := by kernel_rfl
  c175 := by kernel_rfl
  c210 := by kernel_rfl
  c212 := by kernel_rfl
  c213 := by kernel_rfl
  c232 := by kernel_rfl
  c233 := by kernel_rfl }
open Go.RowKit in
theorem Tryz.strconv_ParseInt_10_at64_ok (s : ByteArray) (hmax : s.size ≤ 9223372036854775806) (v : Int) (h : Lib.parseIntB 64 s.data.toList = .ok v) (w : World) :
    Calls Tryz.prog 274 #[.string s, .int .i64 10, .int .i64 64] w fun e w' => e = .returned (.tuple #[.int .i64 v, .nilIface]) ∧ (w' = w ∨ ∃ t, w' = Lib.bytesWorld w 5 t) := Any.strconv_ParseInt_10_at64_ok Tryz.laysC174 s hmax v h w
open Go.RowKit in
theorem Tryz.strconv_ParseInt_10_at64_syntax (s : ByteArray) (hlim : s.size ≤ 281474976710656) (h : Lib.parseIntB 64 s.data.toList = .«syntax») (ev : Value) (w : World) (hv : w.cell? ⟨9, 0, none⟩ = some ev) (hev : ev = .nilIface ∨ ∃ te pe, ev = .iface te pe) :
    Calls Tryz.prog 274 #[.string s, .int .i64 10, .int .i64 64] w fun e w' => ∃ N, e = .returned (.tuple #[.int .i64 (0), .iface 258 (.pointer (some ⟨N, 0, none⟩))]) ∧ w.heap.size ≤ N ∧ w'.heap[N]? = some (.cells #[.string ⟨#[80, 97, 114, 115, 101, 73, 110, 116]⟩, .string s, ev] 271 (0, 0)) ∧ Below w.heap.size w w' := Any.strconv_ParseInt_10_at64_syntax Tryz.laysC174 s hlim h ev w hv hev
open Go.RowKit in
theorem Tryz.strconv_ParseInt_10_at64_range (s : ByteArray) (hlim : s.size ≤ 281474976710656) (h : Lib.parseIntB 64 s.data.toList = .range) (ev : Value) (w : World) (hv : w.cell? ⟨10, 0, none⟩ = some ev) (hev : ev = .nilIface ∨ ∃ te pe, ev = .iface te pe) :
    Calls Tryz.prog 274 #[.string s, .int .i64 10, .int .i64 64] w fun e w' => ∃ N, e = .returned (.tuple #[.int .i64 (Lib.intSat 64 s.data.toList), .iface 258 (.pointer (some ⟨N, 0, none⟩))]) ∧ w.heap.size ≤ N ∧ w'.heap[N]? = some (.cells #[.string ⟨#[80, 97, 114, 115, 101, 73, 110, 116]⟩, .string s, ev] 271 (0, 0)) ∧ Below w.heap.size w w' := Any.strconv_ParseInt_10_at64_range Tryz.laysC174 s hlim h ev w hv hev
def Tryz.laysC172_ren : Go.Shelf.Ren := ⟨fun | 172 => 216 | 244 => 240 | 245 => 241 | 247 => 256 | 279 => 257 | 280 => 258 | 281 => 259 | 282 => 260 | 287 => 268 | 316 => 269 | 171 => 56 | 205 => 270 | 321 => 275 | 322 => 276 | 243 => 90 | 246 => 148 | 283 => 207 | 284 => 208 | 285 => 209 | 286 => 210 | 129 => 134 | 317 => 235 | 318 => 236 | 319 => 237 | 320 => 238 | 337 => 252 | 338 => 253 | n => n, fun | 9 => 9 | 3 => 3 | 75 => 189 | 76 => 190 | 4 => 4 | 5 => 5 | 167 => 255 | 37 => 184 | 0 => 0 | 85 => 256 | 2 => 2 | 168 => 258 | 53 => 174 | 175 => 268 | 46 => 126 | 210 => 271 | 127 => 227 | 145 => 280 | 143 => 278 | 21 => 21 | 171 => 228 | 173 => 230 | 212 => 248 | 51 => 172 | 20 => 20 | 213 => 249 | 232 => 266 | 233 => 267 | 80 => 149 | n => n, fun | 15 => 9 | 16 => 10 | 17 => 3 | 18 => 7 | 19 => 8 | n => n⟩
theorem Tryz.laysC172 : Go.Proofs.LaysC.n172 Tryz.prog Tryz.laysC172_ren := {
  mixed := by kernel_rfl
  f129 := Tryz.func134.trans (congrArg some (by kernel_rfl))
  f171 := Tryz.func56.trans (congrArg some (by kernel_rfl))
  f172 := Tryz.func216.trans (congrArg some (by kernel_rfl))
  f205 := Tryz.func270.trans (congrArg some (by kernel_rfl))
  f243 := Tryz.func90.trans (congrArg some (by kernel_rfl))
  f244 := Tryz.func240.trans (congrArg some (by kernel_rfl))
  f245 := Tryz.func241.trans (congrArg some (by kernel_rfl))
  f246 := Tryz.func148.trans (congrArg some (by kernel_rfl))
  f247 := Tryz.func256.trans (congrArg some (by kernel_rfl))
  f279 := Tryz.func257.trans (congrArg some (by kernel_rfl))
  f280 := Tryz.func258.trans (congrArg some (by kernel_rfl))
  f281 := Tryz.func259.trans (congrArg some (by kernel_rfl))
  f282 := Tryz.func260.trans (congrArg some (by kernel_rfl))
  f283 := Tryz.func207.trans (congrArg some (by kernel_rfl))
  f284 := Tryz.func208.trans (congrArg some (by kernel_rfl))
  f285 := Tryz.func209.trans (congrArg some (by kernel_rfl))
  f286 := Tryz.func210.trans (congrArg some (by kernel_rfl))
  f287 := Tryz.func268.trans (congrArg some (by kernel_rfl))
  f316 := Tryz.func269.trans (congrArg some (by kernel_rfl))
  f317 := Tryz.func235.trans (congrArg some (by kernel_rfl))
  f318 := Tryz.func236.trans (congrArg some (by kernel_rfl))
  f319 := Tryz.func237.trans (congrArg some (by kernel_rfl))
  f320 := Tryz.func238.trans (congrArg some (by kernel_rfl))
  f321 := Tryz.func275.trans (congrArg some (by kernel_rfl))
  f322 := Tryz.func276.trans (congrArg some (by kernel_rfl))
  f337 := Tryz.func252.trans (congrArg some (by kernel_rfl))
  f338 := Tryz.func253.trans (congrArg some (by kernel_rfl))
  t0 := Tryz.underlying0
  a0 := Tryz.isAgg0
  z0 := Tryz.sizeOf0
  v0 := Tryz.zeroValue0
  t2 := Tryz.underlying2
  a2 := Tryz.isAgg2
  z2 := Tryz.sizeOf2
  v2 := Tryz.zeroValue2
  t3 := Tryz.underlying3
  a3 := Tryz.isAgg3
  z3 := Tryz.sizeOf3
  v3 := Tryz.zeroValue3
  t4 := Tryz.underlying4
  a4 := Tryz.isAgg4
  z4 := Tryz.sizeOf4
  v4 := Tryz.zeroValue4
  t5 := Tryz.underlying5
  a5 := Tryz.isAgg5
  z5 := Tryz.sizeOf5
  v5 := Tryz.zeroValue5
  t9 := Tryz.underlying9
  a9 := Tryz.isAgg9
  z9 := Tryz.sizeOf9
  v9 := Tryz.zeroValue9
  t20 := Tryz.underlying20
  a20 := Tryz.isAgg20
  z20 := Tryz.sizeOf20
  v20 := Tryz.zeroValue20
  t21 := Tryz.underlying21
  a21 := Tryz.isAgg21
  z21 := Tryz.sizeOf21
  v21 := Tryz.zeroValue21
  t37 := Tryz.underlying184
  a37 := Tryz.isAgg184
  z37 := Tryz.sizeOf184
  v37 := Tryz.zeroValue184
  t46 := Tryz.underlying126
  a46 := Tryz.isAgg126
  z46 := Tryz.sizeOf126
  v46 := Tryz.zeroValue126
  t51 := Tryz.underlying172
  a51 := Tryz.isAgg172
  z51 := Tryz.sizeOf172
  v51 := Tryz.zeroValue172
  t53 := Tryz.underlying174
  a53 := Tryz.isAgg174
  z53 := Tryz.sizeOf174
  v53 := Tryz.zeroValue174
  t75 := Tryz.underlying189
  a75 := Tryz.isAgg189
  z75 := Tryz.sizeOf189
  v75 := Tryz.zeroValue189
  t76 := Tryz.underlying190
  a76 := Tryz.isAgg190
  z76 := Tryz.sizeOf190
  v76 := Tryz.zeroValue190
  t85 := Tryz.underlying256
  a85 := Tryz.isAgg256
  z85 := Tryz.sizeOf256
  v85 := Tryz.zeroValue256
  t127 := Tryz.underlying227
  a127 := Tryz.isAgg227
  z127 := Tryz.sizeOf227
  v127 := Tryz.zeroValue227
  t143 := Tryz.underlying278
  a143 := Tryz.isAgg278
  z143 := Tryz.sizeOf278
  v143 := Tryz.zeroValue278
  t145 := Tryz.underlying280
  a145 := Tryz.isAgg280
  z145 := Tryz.sizeOf280
  v145 := Tryz.zeroValue280
  t167 := Tryz.underlying255
  a167 := Tryz.isAgg255
  z167 := Tryz.sizeOf255
  v167 := Tryz.zeroValue255
  t168 := Tryz.underlying258
  a168 := Tryz.isAgg258
  z168 := Tryz.sizeOf258
  v168 := Tryz.zeroValue258
  t171 := Tryz.underlying228
  a171 := Tryz.isAgg228
  z171 := Tryz.sizeOf228
  v171 := Tryz.zeroValue228
  t173 := Tryz.underlying230
  a173 := Tryz.isAgg230
  z173 := Tryz.sizeOf230
  v173 := Tryz.zeroValue230
  t175 := Tryz.underlying268
  a175 := Tryz.isAgg268
  z175 := Tryz.sizeOf268
  v175 := Tryz.zeroValue268
  t210 := Tryz.underlying271
  a210 := Tryz.isAgg271
  z210 := Tryz.sizeOf271
  v210 := Tryz.zeroValue271
  t212 := Tryz.underlying248
  a212 := Tryz.isAgg248
  z212 := Tryz.sizeOf248
  v212 := Tryz.zeroValue248
  t213 := Tryz.underlying249
  a213 := Tryz.isAgg249
  z213 := Tryz.sizeOf249
  t232 := Tryz.underlying266
  a232 := Tryz.isAgg266
  z232 := Tryz.sizeOf266
  v232 := Tryz.zeroValue266
  t233 := Tryz.underlying267
  a233 := Tryz.isAgg267
  z233 := Tryz.sizeOf267
  v233 := Tryz.zeroValue267
  g15 := by kernel_rfl
  g16 := by kernel_rfl
  g17 := by kernel_rfl
  g18 := by kernel_rfl
  g19 := by kernel_rfl
  t80 := Tryz.underlying149
  a80 := Tryz.isAgg149
  z80 := Tryz.sizeOf149
  v80 := Tryz.zeroValue149
  i0 := by kernel_rfl
  i2 := by kernel_rfl
  i3 := by kernel_rfl
  i4 := by kernel_rfl
  i5 := by kernel_rfl
  i9 := by kernel_rfl
  i20 := by kernel_rfl
  i21 := by kernel_rfl
  i37 := by kernel_rfl
  i46 := by kernel_rfl
  i51 := by kernel_rfl
  i53 := by kernel_rfl
  i75 := by kernel_rfl
  i76 := by kernel_rfl
  i80 := by kernel_rfl
  i85 := by kernel_rfl
  i127 := by kernel_rfl
  i143 := by kernel_rfl
  i145 := by kernel_rfl
  i167 := by kernel_rfl
  i168 := by kernel_rfl
  i171 := by kernel_rfl
  i173 := by kernel_rfl
  i175 := by kernel_rfl
  i210 := by kernel_rfl
  i212 := by kernel_rfl
  i232 := by kernel_rfl
  i233 := by kernel_rfl
  m15 := by kernel_rfl
  m16 := by kernel_rfl
  m17 := by kernel_rfl
  m18 := by kernel_rfl
  m19 := by kernel_rfl
  c0 := by kernel_rfl
  c2 := by kernel_rfl
  c3 := by kernel_rfl
  c4 := by kernel_rfl
  c5 := by kernel_rfl
  c9 := by kernel_rfl
  c20 := by kernel_rfl
  c21 := by kernel_rfl
  c37 := by kernel_rfl
  c46 := by kernel_rfl
  c51 := by kernel_rfl
  c53 := by kernel_rfl
  c75 := by kernel_rfl
  c76 := by kernel_rfl
  c80 := by kernel_rfl
  c85 := by kernel_rfl
  c127 := by kernel_rfl
  c143 := by kernel_rfl
  c145 := by kernel_rfl
  c167 := by kernel_rfl
  c168 := by kernel_rfl
  c171 := by kernel_rfl
  c173 := by kernel_rfl
  c175 := by kernel_rfl
  c210 := by kernel_rfl
  c212 := by kernel_rfl
  c213 := by kernel_rfl
  c232 := by kernel_rfl
  c233 := by kernel_rfl }
open Go.RowKit in
theorem Tryz.strconv_Atoi_ok (s : ByteArray) (hmax : s.size ≤ 9223372036854775806) (v : Int) (h : Lib.atoiAll s.data.toList = .ok v) (w : World) :
    Calls Tryz.prog 216 #[.string s] w fun e w' => e = .returned (.tuple #[.int .i64 v, .nilIface]) ∧ (w' = w ∨ ∃ t, w' = Lib.bytesWorld w 5 t) := Any.strconv_Atoi_ok Tryz.laysC172 s hmax v h w
open Go.RowKit in
theorem Tryz.strconv_Atoi_syntax (s : ByteArray) (hlim : s.size ≤ 281474976710656) (h : Lib.atoiAll s.data.toList = .«syntax») (ev : Value) (w : World) (hv : w.cell? ⟨9, 0, none⟩ = some ev) (hev : ev = .nilIface ∨ ∃ te pe, ev = .iface te pe) :
    Calls Tryz.prog 216 #[.string s] w fun e w' => ∃ N, e = .returned (.tuple #[.int .i64 (0), .iface 258 (.pointer (some ⟨N, 0, none⟩))]) ∧ w.heap.size ≤ N ∧ w'.heap[N]? = some (.cells #[.string ⟨#[65, 116, 111, 105]⟩, .string s, ev] 271 (0, 0)) ∧ Below w.heap.size w w' := Any.strconv_Atoi_syntax Tryz.laysC172 s hlim h ev w hv hev
open Go.RowKit in
theorem Tryz.strconv_Atoi_range (s : ByteArray) (hlim : s.size ≤ 281474976710656) (h : Lib.atoiAll s.data.toList = .range) (ev : Value) (w : World) (hv : w.cell? ⟨10, 0, none⟩ = some ev) (hev : ev = .nilIface ∨ ∃ te pe, ev = .iface te pe) :
    Calls Tryz.prog 216 #[.string s] w fun e w' => ∃ N, e = .returned (.tuple #[.int .i64 (Lib.atoiSat s.data.toList), .iface 258 (.pointer (some ⟨N, 0, none⟩))]) ∧ w.heap.size ≤ N ∧ w'.heap[N]? = some (.cells #[.string ⟨#[65, 116, 111, 105]⟩, .string s, ev] 271 (0, 0)) ∧ Below w.heap.size w w' := Any.strconv_Atoi_range Tryz.laysC172 s hlim h ev w hv hev
end Go.Proofs
namespace Go.Proofs.YtbpdfpfgijhokaaGreatDoor
set_option maxRecDepth 100000
open Go.Dn Go.Proofs
set_option linter.unusedVariables false
/-! ### quotes -/
def vunq : List UInt8 → Option (List UInt8)
  | [] => some []
  | [c] => if c = 39 then none else some [c]
  | c :: d :: r => if c = 39 then (if d = 39 then (vunq r).map (39 :: ·) else none) else (vunq (d :: r)).map (c :: ·)
theorem unq_quote : ∀ t : List UInt8, vunq (quoteL t) = some t
  | [] => rfl
  | c :: t => by
    have ih := unq_quote t
    by_cases h : c = 39
    · subst h
      have e : quoteL (39 :: t) = 39 :: 39 :: quoteL t := by simp [quoteL]
      rw [e]
      simp [vunq, ih]
    · have e : quoteL (c :: t) = c :: quoteL t := by simp [quoteL, h]
      rw [e]
      cases hq : quoteL t with
      | nil => rw [hq] at ih; simp [vunq] at ih; subst ih; simp [vunq, h]
      | cons d r => rw [hq] at ih; simp [vunq, h, ih]
theorem quote_unq : ∀ (m t : List UInt8), vunq m = some t → quoteL t = m
  | [], t, h => by simp [vunq] at h; subst h; rfl
  | [c], t, h => by
    unfold vunq at h
    split at h
    · cases h
    · rename_i hc
      simp at h
      subst h
      simp [quoteL, hc]
  | c :: d :: r, t, h => by
    unfold vunq at h
    split at h
    · rename_i hc
      split at h
      · rename_i hd
        obtain ⟨u, hu, rfl⟩ := Option.map_eq_some_iff.1 h
        subst hc hd
        simp [quoteL]
        exact quote_unq r u hu
      · cases h
    · rename_i hc
      obtain ⟨u, hu, rfl⟩ := Option.map_eq_some_iff.1 h
      have := quote_unq (d :: r) u hu
      simp only [quoteL, List.flatMap_cons, hc, if_false] at this ⊢
      rw [this]
      rfl
/-! ### numbers -/
theorem vdec_head (u : Nat) : ∃ c r, Lib.decDigits u = c :: r ∧ 48 ≤ c.toNat ∧ c.toNat ≤ 57 := by
  induction u using Nat.strongRecOn with
  | _ u ih =>
    by_cases h : u < 10
    · refine ⟨UInt8.ofNat (48 + u), [], Lib.decDigits_one h, ?_, ?_⟩ <;> simp <;> omega
    · obtain ⟨c, r, e, h1, h2⟩ := ih (u / 10) (by omega)
      exact ⟨c, r ++ [UInt8.ofNat (48 + u % 10)], by rw [Lib.decDigits, dif_neg h, e]; rfl, h1, h2⟩
theorem vdec_parse {M : Nat} (hM : M ≤ 18446744073709551615) : ∀ (u : Nat), u ≤ M → ∀ r, Lib.parseUintM M 0 (Lib.decDigits u ++ r) = Lib.parseUintM M u r := by
  intro u
  induction u using Nat.strongRecOn with
  | _ u ih =>
    intro hu r
    by_cases h : u < 10
    · rw [Lib.decDigits_one h]
      have e : (UInt8.ofNat (48 + u)).toNat = 48 + u := by simp; omega
      conv => lhs; rw [List.singleton_append, Lib.parseUintM]
      rw [e, if_pos (by omega), if_neg (by omega), if_neg (by omega)]
      congr 1
      omega
    · have e : (UInt8.ofNat (48 + u % 10)).toNat = 48 + u % 10 := by simp; omega
      rw [Lib.decDigits, dif_neg h, List.append_assoc, ih (u / 10) (by omega) (by omega)]
      conv => lhs; rw [List.singleton_append, Lib.parseUintM]
      rw [e, if_pos (by omega), if_neg (by omega), if_neg (by omega)]
      congr 1
      omega
theorem vitoa_parse (n : Int) (h1 : -9223372036854775808 ≤ n) (h2 : n ≤ 9223372036854775807) : Lib.parseIntB 64 (Lib.itoa n) = .ok n := by
  have p64 : (2 : Nat) ^ 64 - 1 = 18446744073709551615 := by decide
  have p63 : (2 : Nat) ^ (64 - 1) = 9223372036854775808 := by decide
  have key : ∀ u : Nat, u ≤ 9223372036854775808 → Lib.parseUintB 64 (Lib.decDigits u) = .ok u := by
    intro u hu
    obtain ⟨c, r, e, _⟩ := vdec_head u
    unfold Lib.parseUintB
    rw [if_neg (by rw [e]; simp), p64]
    have := vdec_parse (M := 18446744073709551615) (by omega) u (by omega) []
    rw [List.append_nil] at this
    rw [this]
    rfl
  unfold Lib.itoa
  by_cases hn : n < 0
  · rw [if_pos hn]
    simp only [Lib.parseIntB]
    have e45 : (45 : UInt8).toNat = 45 := rfl
    rw [if_pos (.inr e45), key _ (by omega)]
    simp only [e45, p63]
    simp only [not_true_eq_false, false_and, if_false, true_and, if_true]
    rw [if_neg (by omega)]
    congr 1
    omega
  · rw [if_neg hn]
    obtain ⟨c, r, e, hc1, hc2⟩ := vdec_head n.toNat
    have hk := key n.toNat (by omega)
    rw [e] at hk ⊢
    simp only [Lib.parseIntB]
    rw [if_neg (by omega), hk]
    simp only [p63]
    rw [if_neg (by omega), if_neg (by omega), if_neg (by omega)]
    congr 1
    omega
theorem vitoa_inj {m n : Int} (hm : -9223372036854775808 ≤ m ∧ m ≤ 9223372036854775807) (hn : -9223372036854775808 ≤ n ∧ n ≤ 9223372036854775807) (h : Lib.itoa m = Lib.itoa n) : m = n := by
  have h1 := vitoa_parse m hm.1 hm.2
  have h2 := vitoa_parse n hn.1 hn.2
  rw [h, h2] at h1
  cases h1
  rfl
theorem vitoa_head (n : Int) : ∃ c r, Lib.itoa n = c :: r ∧ (c.toNat = 45 ∨ (48 ≤ c.toNat ∧ c.toNat ≤ 57)) := by
  unfold Lib.itoa
  split
  · exact ⟨45, _, rfl, .inl rfl⟩
  · obtain ⟨c, r, e, h1, h2⟩ := vdec_head n.toNat
    exact ⟨c, r, e, .inr ⟨h1, h2⟩⟩
/-! ### one text, one value -/
def vTrue : List UInt8 := [116, 114, 117, 101]
def vFalse : List UInt8 := [102, 97, 108, 115, 101]
def vNull : List UInt8 := [110, 117, 108, 108]
theorem vfmt_true : Lib.formatBool true = vTrue := by decide
theorem vfmt_false : Lib.formatBool false = vFalse := by decide
theorem show_cases {v : Val} (h : rightB v = true) (s : List UInt8) (hs : showL v = s) :
    (v = (0, 0, E0) ∧ s = vNull) ∨ (v = (1, v.2.1, E0) ∧ s = Lib.itoa v.2.1) ∨ (v = (2, 0, E0) ∧ s = vFalse) ∨ (v = (2, 1, E0) ∧ s = vTrue) ∨ (v = (3, 0, v.2.2) ∧ v.2.2.size ≤ 1024 ∧ s = (39 :: quoteL (bl v.2.2)) ++ [39]) := by
  obtain ⟨k, n, t⟩ := v
  unfold rightB at h
  unfold showL at hs
  simp only at h hs
  by_cases h0 : k = 0
  · subst h0
    simp at h hs
    left
    exact ⟨by rw [h.1, h.2], hs.symm⟩
  · rw [if_neg h0] at h hs
    by_cases h1 : k = 1
    · subst h1
      simp at h hs
      right; left
      exact ⟨by rw [h], hs.symm⟩
    · rw [if_neg h1] at h hs
      by_cases h2 : k = 2
      · subst h2
        simp at h hs
        obtain ⟨hn, rfl⟩ := h
        rcases hn with rfl | rfl
        · right; right; left
          exact ⟨rfl, by rw [← hs]; exact vfmt_false⟩
        · right; right; right; left
          exact ⟨rfl, by rw [← hs]; exact vfmt_true⟩
      · rw [if_neg h2] at h hs
        by_cases h3 : k = 3
        · subst h3
          simp at h
          right; right; right; right
          exact ⟨by rw [h.1], h.2, hs.symm⟩
        · rw [if_neg h3] at h; cases h
theorem show_inj {u v : Val} (hu : rightB u = true) (hv : rightB v = true) (qu : ValOk u) (qv : ValOk v) (h : showL u = showL v) : u = v := by
  have cu := show_cases hu _ h
  have cv := show_cases hv _ rfl
  generalize showL v = s at cu cv
  have hd : ∀ w : Val, ((w = (0, 0, E0) ∧ s = vNull) → (s.headD 0).toNat = 110) ∧ ((w = (1, w.2.1, E0) ∧ s = Lib.itoa w.2.1) → ((s.headD 0).toNat = 45 ∨ 48 ≤ (s.headD 0).toNat ∧ (s.headD 0).toNat ≤ 57)) ∧ ((w = (2, 0, E0) ∧ s = vFalse) → (s.headD 0).toNat = 102) ∧
      ((w = (2, 1, E0) ∧ s = vTrue) → (s.headD 0).toNat = 116) ∧ ((w = (3, 0, w.2.2) ∧ w.2.2.size ≤ 1024 ∧ s = (39 :: quoteL (bl w.2.2)) ++ [39]) → (s.headD 0).toNat = 39) := by
    intro w
    refine ⟨fun h => by rw [h.2]; rfl, fun h => ?_, fun h => by rw [h.2]; rfl, fun h => by rw [h.2]; rfl, fun h => by rw [h.2.2]; rfl⟩
    obtain ⟨c1, r1, i1, d1⟩ := vitoa_head w.2.1
    rw [h.2, i1]
    exact d1
  obtain ⟨u1, u2, u3, u4, u5⟩ := hd u
  obtain ⟨v1, v2, v3, v4, v5⟩ := hd v
  rcases cu with cu | cu | cu | cu | cu
  · have hu' := u1 cu
    rcases cv with cv | cv | cv | cv | cv
    · rw [cu.1, cv.1]
    · have := v2 cv; omega
    · have := v3 cv; omega
    · have := v4 cv; omega
    · have := v5 cv; omega
  · have hu' := u2 cu
    rcases cv with cv | cv | cv | cv | cv
    · have := v1 cv; omega
    · rw [cu.1, cv.1]
      have := vitoa_inj ⟨qu.lo, qu.hi⟩ ⟨qv.lo, qv.hi⟩ (cu.2.symm.trans cv.2)
      rw [this]
    · have := v3 cv; omega
    · have := v4 cv; omega
    · have := v5 cv; omega
  · have hu' := u3 cu
    rcases cv with cv | cv | cv | cv | cv
    · have := v1 cv; omega
    · have := v2 cv; omega
    · rw [cu.1, cv.1]
    · have := v4 cv; omega
    · have := v5 cv; omega
  · have hu' := u4 cu
    rcases cv with cv | cv | cv | cv | cv
    · have := v1 cv; omega
    · have := v2 cv; omega
    · have := v3 cv; omega
    · rw [cu.1, cv.1]
    · have := v5 cv; omega
  · have hu' := u5 cu
    rcases cv with cv | cv | cv | cv | cv
    · have := v1 cv; omega
    · have := v2 cv; omega
    · have := v3 cv; omega
    · have := v4 cv; omega
    · rw [cu.1, cv.1]
      have e := cu.2.2.symm.trans cv.2.2
      simp only [List.cons_append, List.cons.injEq, true_and] at e
      have e2 : quoteL (bl u.2.2) = quoteL (bl v.2.2) := List.append_cancel_right e
      have e3 := unq_quote (bl u.2.2)
      rw [e2, unq_quote] at e3
      simp at e3
      rw [bl_inj e3]
end Go.Proofs.YtbpdfpfgijhokaaGreatDoor
namespace Go.Dn
set_option linter.unusedVariables false
set_option maxRecDepth 100000
theorem SH.v3 {F : Nat → Prop} {w0 w : World} {H : List Ent} (S : SH F w0 w H) (n : Nat) {b : Nat} {x y : Int} {s : ByteArray} {t : TypeId} (hn : H[n]? = some (b, #[.int .i64 x, .int .i64 y, .string s], t)) {Q : Int → Int → ByteArray → Prop} (h : Q x y s) :
    ∃ a : Int, w.cell? ⟨b, 0, none⟩ = some (.int .i64 a) ∧ ∃ c : Int, w.cell? ⟨b, 1, none⟩ = some (.int .i64 c) ∧ ∃ d : ByteArray, w.cell? ⟨b, 2, none⟩ = some (.string d) ∧ Q a c d :=
  ⟨x, S.cell n hn rfl, y, S.cell n hn rfl, s, S.cell n hn rfl, h⟩
end Go.Dn
namespace Go.Proofs.YtbpdfpfgijhokaaGreatDoor
set_option maxRecDepth 100000
open Go.Dn Go.Proofs
open Go.RowKit (Below)
set_option linter.unusedVariables false
theorem sget_nat {s : ByteArray} {k : Nat} (hk : k < (bl s).length) : sget s k = (bl s)[k] := by
  rw [sget_eq]
  simp [List.getD, hk]
theorem sget_byte {s : ByteArray} {k : Nat} (hk : k < (bl s).length) : Value.int .u8 ((sget s k).toNat : Int) = byteV (bl s)[k] := by
  rw [sget_nat hk]
  rfl
theorem u8_39 {c : UInt8} : ((c.toNat : Int) = 39) ↔ c = 39 := by
  constructor
  · intro h
    apply UInt8.toNat_inj.1
    have : (39 : UInt8).toNat = 39 := rfl
    omega
  · intro h; subst h; rfl
/-! ### quoted -/
/-! ### Digits -/
def tTrue : List UInt8 := [116, 114, 117, 101]
def tFalse : List UInt8 := [102, 97, 108, 115, 101]
theorem fmt_true : Lib.formatBool true = tTrue := by decide
theorem fmt_false : Lib.formatBool false = tFalse := by decide
theorem NewB.appended {w w1 w2 w3 : World} {l m : List UInt8} {a a' : Option Addr} {c c' : Nat} (h : NewB w w1 l a c) (hb : Below w1.heap.size w1 w2) (R : Row w3 ty.uint8 1 a' m.length c' (m.map byteV)) (K : Keeps (fun k => rowB a = some k) w2 w3) (N : ∀ k, rowB a' = some k → rowB a = some k ∨ w2.heap.size ≤ k) : NewB w w3 m a' c' := by
  have h2 := h.grown hb
  refine ⟨R, fun k hk => ?_, h2.bel.trans (K.below h2.bel.size fun k hk he => by have := h2.new k he; omega)⟩
  rcases N k hk with hh | hh
  · exact h2.new k hh
  · exact Nat.le_trans h2.bel.size hh
/-! ### the program's Parse -/
inductive Ex where
  | mk (op : Int) (nm : ByteArray) (v : Val) (ks : List Ex)
def Ex.op : Ex → Int | .mk op _ _ _ => op
def Ex.nm : Ex → ByteArray | .mk _ nm _ _ => nm
def Ex.v : Ex → Val | .mk _ _ v _ => v
def Ex.ks : Ex → List Ex | .mk _ _ _ ks => ks
theorem Ex.ind {M : Ex → Prop} (h : ∀ op nm v ks, (∀ k ∈ ks, M k) → M (.mk op nm v ks)) : ∀ x, M x
  | .mk op nm v ks => h op nm v ks fun k hk => Ex.ind h k
  termination_by x => SizeOf.sizeOf x
  decreasing_by
    have := List.sizeOf_lt_of_mem hk
    simp only [Ex.mk.sizeOf_spec]
    omega
abbrev i64 (n : Int) : Prop := -9223372036854775808 ≤ n ∧ n ≤ 9223372036854775807
def exHead (x : Ex) (a : Option Addr) (cap : Nat) : List Value := [.int .i64 x.op, .string x.nm, .int .i64 x.v.1, .int .i64 x.v.2.1, .string x.v.2.2, .slice a x.ks.length cap]
mutual
/-- these cells are an expression, and what it leads to lies outside some blocks -/
def ExC (F : Nat → Prop) (w : World) : Ex → List Value → Prop
  | .mk op nm v ks, cs => ∃ a cap rs, cs = [.int .i64 op, .string nm, .int .i64 v.1, .int .i64 v.2.1, .string v.2.2, .slice a ks.length cap] ∧
      (Rd w a rs ∧ (∀ p, a = some p → rs ≠ [] → ¬ F p.block) ∧ ks.length ≤ cap ∧ cap ≤ maxLen ∧ (a = none → cap = 0)) ∧
      (i64 op ∧ nm.size ≤ maxLen ∧ i64 v.1 ∧ i64 v.2.1 ∧ v.2.2.size ≤ maxLen) ∧ ExL F w ks rs
def ExL (F : Nat → Prop) (w : World) : List Ex → List Value → Prop
  | [], cs => cs = []
  | x :: xs, cs => ∃ c r, cs = c ++ r ∧ ExC F w x c ∧ ExL F w xs r
end
section
variable {F G : Nat → Prop} {w w' : World}
theorem ExC.len {x : Ex} {cs : List Value} (h : ExC F w x cs) : cs.length = 6 := by
  obtain ⟨op, nm, v, ks⟩ := x
  unfold ExC at h
  obtain ⟨a, cap, rs, rfl, _⟩ := h
  rfl
theorem ExL.len : ∀ {xs : List Ex} {cs : List Value}, ExL F w xs cs → cs.length = xs.length * 6
  | [], cs, h => by unfold ExL at h; subst h; rfl
  | x :: xs, cs, h => by
    unfold ExL at h
    obtain ⟨c, r, rfl, h1, h2⟩ := h
    have := h1.len
    have := h2.len
    simp only [List.length_append, List.length_cons]
    omega
theorem ExL.get : ∀ {xs : List Ex} {cs : List Value}, ExL F w xs cs → ∀ (i : Nat) (hi : i < xs.length), ExC F w xs[i] ((cs.drop (i * 6)).take 6)
  | [], cs, h, i, hi => by simp at hi
  | x :: xs, cs, h, i, hi => by
    unfold ExL at h
    obtain ⟨c, r, rfl, h1, h2⟩ := h
    have hl := h1.len
    cases i with
    | zero =>
      have : ((c ++ r).drop (0 * 6)).take 6 = c := by rw [Nat.zero_mul, List.drop_zero, List.take_append_of_le_length (by omega), List.take_of_length_le (by omega)]
      rw [this]
      exact h1
    | succ i =>
      have : ((c ++ r).drop ((i + 1) * 6)).take 6 = (r.drop (i * 6)).take 6 := by
        rw [List.drop_append, List.drop_eq_nil_of_le (by omega), List.nil_append, hl]
        congr 2
        omega
      rw [this]
      exact ExL.get h2 i (by simpa using hi)
theorem ExC.open {x : Ex} {cs : List Value} (h : ExC F w x cs) : ∃ a cap rs, cs = exHead x a cap ∧ Rd w a rs ∧ (∀ p, a = some p → rs ≠ [] → ¬ F p.block) ∧ x.ks.length ≤ cap ∧ cap ≤ maxLen ∧ (a = none → cap = 0) ∧
    (i64 x.op ∧ x.nm.size ≤ maxLen ∧ i64 x.v.1 ∧ i64 x.v.2.1 ∧ x.v.2.2.size ≤ maxLen) ∧ ExL F w x.ks rs := by
  obtain ⟨op, nm, v, ks⟩ := x
  unfold ExC at h
  obtain ⟨a, cap, rs, rfl, ⟨h1, h2, h3, h4, h5⟩, h6, h7⟩ := h
  exact ⟨a, cap, rs, rfl, h1, h2, h3, h4, h5, h6, h7⟩
theorem ExC.close {x : Ex} {a : Option Addr} {cap : Nat} {rs : List Value} (h1 : Rd w a rs) (h2 : ∀ p, a = some p → rs ≠ [] → ¬ F p.block) (h3 : x.ks.length ≤ cap) (h4 : cap ≤ maxLen) (h5 : a = none → cap = 0)
    (h6 : i64 x.op ∧ x.nm.size ≤ maxLen ∧ i64 x.v.1 ∧ i64 x.v.2.1 ∧ x.v.2.2.size ≤ maxLen) (h7 : ExL F w x.ks rs) : ExC F w x (exHead x a cap) := by
  obtain ⟨op, nm, v, ks⟩ := x
  unfold ExC
  exact ⟨a, cap, rs, rfl, ⟨h1, h2, h3, h4, h5⟩, h6, h7⟩
theorem ExL.mono {H : World → World → Prop} {xs : List Ex} (hx : ∀ x ∈ xs, ∀ cs, ExC F w x cs → ExC G w' x cs) : ∀ {cs : List Value}, ExL F w xs cs → ExL G w' xs cs := by
  induction xs with
  | nil => intro cs h; unfold ExL at h ⊢; exact h
  | cons x xs ih =>
    intro cs h
    unfold ExL at h ⊢
    obtain ⟨c, r, rfl, h1, h2⟩ := h
    exact ⟨c, r, rfl, hx x (by simp) c h1, ih (fun y hy => hx y (by simp [hy])) h2⟩
theorem ExC.grown (hk : Below w.heap.size w w') {x : Ex} {cs : List Value} (h : ExC F w x cs) : ExC F w' x cs := by
  revert cs
  induction x using Ex.ind with
  | h op nm v ks ih =>
    intro cs h
    obtain ⟨a, cap, rs, rfl, h1, h2, h3, h4, h5, h6, h7⟩ := h.open
    exact ExC.close (h1.grown hk) h2 h3 h4 h5 h6 (ExL.mono (H := fun _ _ => True) (fun k hk' cs hc => ih k hk' hc) h7)
theorem ExL.grown (hk : Below w.heap.size w w') {xs : List Ex} {cs : List Value} (h : ExL F w xs cs) : ExL F w' xs cs := ExL.mono (H := fun _ _ => True) (fun _ _ _ hc => hc.grown hk) h
theorem ExL.nil : ExL F w [] [] := by unfold ExL; rfl
end
/-! ### nodes -/
mutual
/-- the nodes, with their depths, those of a depth that may not be without what is below them -/
def Ex.nodes : Ex → Nat → List (Nat × Ex)
  | .mk op nm v ks, d => (d, .mk op nm v ks) :: if d ≤ 40 then Ex.nodesL ks (d + 1) else []
def Ex.nodesL : List Ex → Nat → List (Nat × Ex)
  | [], _ => []
  | k :: ks, d => k.nodes d ++ Ex.nodesL ks d
end
mutual
def Ex.size : Ex → Nat
  | .mk _ _ _ ks => Ex.sizeL ks + 1
def Ex.sizeL : List Ex → Nat
  | [] => 0
  | k :: ks => k.size + Ex.sizeL ks
end
def manyOf (op : Int) : Int :=
  if op = 1 ∨ op = 2 then 0 else if op = 8 ∨ op = 14 ∨ op = 15 ∨ op = 16 then 1 else if 3 ≤ op ∧ op ≤ 13 then 2 else -1
abbrev V0 : Val := (0, 0, E0)
def okN (x : Ex) : Bool := decide ((x.ks.length : Int) = manyOf x.op) && (decide (x.op = 1) || decide (x.nm = E0)) && (decide (x.op = 2) || decide (x.v = V0)) && rightB x.v
mutual
/-- are all nodes as they must be, down to a depth? -/
def Ex.okA : Ex → Nat → Bool
  | _, 0 => false
  | .mk op nm v ks, d + 1 => okN (.mk op nm v ks) && Ex.okL ks d
def Ex.okL : List Ex → Nat → Bool
  | [], _ => true
  | k :: ks, d => k.okA d && Ex.okL ks d
end
def Ex.formed (x : Ex) : Bool := x.okA 40 && decide (x.size ≤ 400)
theorem nodes_ok : ∀ (x : Ex) (d : Nat), d ≤ 41 → ((∀ p ∈ x.nodes d, p.1 ≤ 40 ∧ okN p.2 = true) ↔ x.okA (41 - d) = true) := by
  intro x
  induction x using Ex.ind with
  | h op nm v ks ih =>
    intro d hd
    have hL : ∀ (l : List Ex), (∀ k ∈ l, k ∈ ks) → d ≤ 40 → ((∀ p ∈ Ex.nodesL l (d + 1), p.1 ≤ 40 ∧ okN p.2 = true) ↔ Ex.okL l (41 - (d + 1)) = true) := by
      intro l
      induction l with
      | nil => intro _ _; simp [Ex.nodesL, Ex.okL]
      | cons k l ihl =>
        intro hl hd
        have h1 := ih k (hl k (by simp)) (d + 1) (by omega)
        have h2 := ihl (fun y hy => hl y (by simp [hy])) hd
        simp only [Ex.nodesL, Ex.okL, List.mem_append, Bool.and_eq_true, ← h1, ← h2]
        constructor
        · intro h; exact ⟨fun p hp => h p (.inl hp), fun p hp => h p (.inr hp)⟩
        · rintro ⟨ha, hb⟩ p (hp | hp)
          · exact ha p hp
          · exact hb p hp
    by_cases h41 : d = 41
    · subst h41
      simp [Ex.nodes, Ex.okA]
    · have hd' : d ≤ 40 := by omega
      have e : 41 - d = (41 - (d + 1)) + 1 := by omega
      rw [e]
      simp only [Ex.nodes, Ex.okA, Bool.and_eq_true, if_pos hd', List.mem_cons, ← hL ks (fun _ h => h) hd']
      constructor
      · intro h; exact ⟨(h _ (.inl rfl)).2, fun p hp => h p (.inr hp)⟩
      · rintro ⟨ha, hb⟩ p (rfl | hp)
        · exact ⟨hd', ha⟩
        · exact hb p hp
theorem nodes_len : ∀ (x : Ex) (d : Nat), x.okA (41 - d) = true → (x.nodes d).length = x.size := by
  intro x
  induction x using Ex.ind with
  | h op nm v ks ih =>
    intro d h
    have hd : d ≤ 40 := by
      apply Classical.byContradiction
      intro hn
      rw [show 41 - d = 0 by omega] at h
      simp [Ex.okA] at h
    rw [show 41 - d = (41 - (d + 1)) + 1 by omega] at h
    simp only [Ex.okA, Bool.and_eq_true] at h
    have hL : ∀ (l : List Ex), (∀ k ∈ l, k ∈ ks) → Ex.okL l (41 - (d + 1)) = true → (Ex.nodesL l (d + 1)).length = Ex.sizeL l := by
      intro l
      induction l with
      | nil => intro _ _; simp [Ex.nodesL, Ex.sizeL]
      | cons k l ihl =>
        intro hl hok
        simp only [Ex.okL, Bool.and_eq_true] at hok
        simp only [Ex.nodesL, Ex.sizeL, List.length_append, ih k (hl k (by simp)) (d + 1) hok.1, ihl (fun y hy => hl y (by simp [hy])) hok.2]
    simp only [Ex.nodes, Ex.size, if_pos hd, List.length_cons, hL ks (fun _ h => h) h.2]
theorem formed_nodes (x : Ex) : x.formed = true ↔ (∀ p ∈ x.nodes 1, p.1 ≤ 40 ∧ okN p.2 = true) ∧ (x.nodes 1).length ≤ 400 := by
  have h1 := nodes_ok x 1 (by omega)
  rw [h1]
  simp only [Ex.formed, Bool.and_eq_true, decide_eq_true_eq]
  constructor
  · rintro ⟨ha, hb⟩; exact ⟨ha, by rw [nodes_len x 1 ha]; exact hb⟩
  · rintro ⟨ha, hb⟩; exact ⟨ha, by rw [nodes_len x 1 ha] at hb; exact hb⟩
theorem formed_kid {op : Int} {nm : ByteArray} {v : Val} {ks : List Ex} {d : Nat} (h : Ex.okA (.mk op nm v ks) (d + 1) = true) : okN (.mk op nm v ks) = true ∧ ∀ k ∈ ks, k.okA d = true := by
  simp only [Ex.okA, Bool.and_eq_true] at h
  refine ⟨h.1, ?_⟩
  have h2 := h.2
  clear h
  induction ks with
  | nil => simp
  | cons k ks ih =>
    simp only [Ex.okL, Bool.and_eq_true] at h2
    intro y hy
    rcases List.mem_cons.1 hy with rfl | hy
    · exact h2.1
    · exact ih h2.2 y hy
def letB (c : UInt8) : Bool := decide (97 ≤ c.toNat) && decide (c.toNat ≤ 122)
def othB (c : UInt8) : Bool := (decide (48 ≤ c.toNat) && decide (c.toNat ≤ 57)) || c.toNat == 95
def nameAt (s : ByteArray) (i : Nat) : Bool := letB (sget s i) || (othB (sget s i) && i != 0)
def isNameB (s : ByteArray) : Bool := (List.range s.size).all (nameAt s) && decide (1 ≤ s.size) && decide (s.size ≤ 24)
theorem trimRight_ok (mem : UInt8 → Bool) {w : World} {b : Nat} (hc : ∀ x : UInt8, w.cell? ⟨b, x.toNat, none⟩ = some (.bool (mem x))) (s : ByteArray) (hs : s.size ≤ 9223372036854775807) :
    Calls Tryz.prog f.strings_trimRightASCII #[.string s, .pointer (some ⟨b, 0, none⟩)] w (Ret fun r w' => ∃ l m, r = .string (sof l) ∧ bl s = l ++ m ∧ m.all mem = true ∧ (l = [] ∨ ∃ p c, l = p ++ [c] ∧ mem c = false) ∧ w' = w) := by
  apply R.strings_trimRightASCII_calls
  unfold R.strings_trimRightASCII
  refine ⟨fun st w' => ∃ l m, st = [.string (sof l)] ∧ bl s = l ++ m ∧ m.all mem = true ∧ w' = w, fun st _ => match st with | [.string t] => t.size | _ => 0, ⟨bl s, [], by rw [sof_bl], by simp, rfl, rfl⟩, ?_⟩
  rintro t w1 ⟨l, m, hst, hl, hm, rfl⟩
  have ht : t = sof l := by simpa using hst
  subst ht
  rw [size_sof]
  have hlen : l.length ≤ 9223372036854775807 := by
    have := congrArg List.length hl
    rw [bl_length, List.length_append] at this
    omega
  refine IFB_dec (fun h => ?_) (fun h => ?_)
  · have hne : l ≠ [] := by intro h2; subst h2; simp at h
    obtain ⟨p, c, rfl⟩ : ∃ p c, l = p ++ [c] := ⟨l.dropLast, l.getLast hne, (List.dropLast_concat_getLast hne).symm⟩
    simp only [List.length_append, List.length_cons, List.length_nil] at h hlen ⊢
    have e1 : IntKind.i64.wrap (((p.length + (0 + 1) : Nat) : Int) - 1) = (p.length : Int) := by rw [wrap_i64 (by omega) (by omega)]; omega
    rw [e1, Int.toNat_natCast, sget_eq, bl_sof, show (p ++ [c]).getD p.length 0 = c by simp]
    refine ⟨⟨by omega, by omega⟩, (Tryz.asciiSet_contains b c (mem c) w1 (hc c)).mono ?_⟩
    rintro _ w2 ⟨rfl, rfl⟩
    refine ⟨_, rfl, IFB_of (fun h2 => ?_) (fun h2 => ?_)⟩
    · exact ⟨p ++ [c], m, rfl, hl, hm, .inr ⟨p, c, rfl, by simpa using h2⟩, rfl⟩
    · have hmc : mem c = true := by simpa using h2
      have e2 : ByteArray.extract (sof (p ++ [c])) 0 p.length = sof p := by
        rw [extract_eq, bl_sof]
        simp
      refine ⟨⟨by omega, by omega, by omega⟩, ?_⟩
      rw [e2]
      exact ⟨⟨p, c :: m, rfl, by rw [hl]; simp, by simp [hmc, hm], rfl⟩, by show (sof p).size < (sof (p ++ [c])).size; rw [size_sof, size_sof]; simp⟩
  · have : l = [] := List.eq_nil_of_length_eq_zero (by omega)
    exact ⟨l, m, rfl, hl, hm, .inl this, rfl⟩
theorem trimLeft_ok (mem : UInt8 → Bool) {w : World} {b : Nat} (hc : ∀ x : UInt8, w.cell? ⟨b, x.toNat, none⟩ = some (.bool (mem x))) (s : ByteArray) :
    Calls Tryz.prog f.strings_trimLeftASCII #[.string s, .pointer (some ⟨b, 0, none⟩)] w (Ret fun r w' => ∃ l m, r = .string (sof l) ∧ bl s = m ++ l ∧ m.all mem = true ∧ (l = [] ∨ ∃ c p, l = c :: p ∧ mem c = false) ∧ w' = w) := by
  apply R.strings_trimLeftASCII_calls
  unfold R.strings_trimLeftASCII
  refine ⟨fun st w' => ∃ l m, st = [.string (sof l)] ∧ bl s = m ++ l ∧ m.all mem = true ∧ w' = w, fun st _ => match st with | [.string t] => t.size | _ => 0, ⟨bl s, [], by rw [sof_bl], by simp, rfl, rfl⟩, ?_⟩
  rintro t w1 ⟨l, m, hst, hl, hm, rfl⟩
  have ht : t = sof l := by simpa using hst
  subst ht
  rw [size_sof]
  refine IFB_dec (fun h => ?_) (fun h => ?_)
  · cases l with
    | nil => simp at h
    | cons c p =>
      simp only [List.length_cons] at h ⊢
      rw [sget_eq, bl_sof, show (c :: p).getD 0 0 = c by rfl]
      refine ⟨⟨by omega, by omega⟩, (Tryz.asciiSet_contains b c (mem c) w1 (hc c)).mono ?_⟩
      rintro _ w2 ⟨rfl, rfl⟩
      refine ⟨_, rfl, IFB_of (fun h2 => ?_) (fun h2 => ?_)⟩
      · exact ⟨c :: p, m, rfl, hl, hm, .inr ⟨c, p, rfl, by simpa using h2⟩, rfl⟩
      · have hmc : mem c = true := by simpa using h2
        have e2 : ByteArray.extract (sof (c :: p)) 1 (p.length + 1) = sof p := by
          rw [extract_eq, bl_sof]
          simp
        refine ⟨⟨by omega, by omega, by omega⟩, ?_⟩
        rw [e2]
        exact ⟨⟨p, m ++ [c], rfl, by rw [hl]; simp, by simp [hmc, hm], rfl⟩, by show (sof p).size < (sof (c :: p)).size; rw [size_sof, size_sof]; simp⟩
  · have : l = [] := List.eq_nil_of_length_eq_zero (by omega)
    exact ⟨l, m, rfl, hl, hm, .inl this, rfl⟩
end Go.Proofs.YtbpdfpfgijhokaaGreatDoor
namespace Go.Dn
set_option linter.unusedVariables false
set_option maxRecDepth 100000
open Go.RowKit (Below)
def splice : Array Value → Nat → List Value → Array Value
  | cs, _, [] => cs
  | cs, i, v :: vs => splice (cs.setIfInBounds i v) (i + 1) vs
theorem splice_toList : ∀ (vs : List Value) (cs : Array Value) (i : Nat), i + vs.length ≤ cs.size → (splice cs i vs).toList = cs.toList.take i ++ vs ++ cs.toList.drop (i + vs.length)
  | [], cs, i, _ => by simp [splice]
  | v :: vs, cs, i, h => by
    simp only [List.length_cons] at h
    rw [splice, splice_toList vs _ _ (by simp; omega)]
    apply List.ext_getElem?
    intro j
    simp only [Array.toList_setIfInBounds, List.length_cons, List.getElem?_append, List.length_append, List.length_take, List.length_set, Array.length_toList, List.getElem?_take, List.getElem?_drop]
    grind
theorem splice_all (vs : List Value) (cs : Array Value) (h : vs.length = cs.size) : splice cs 0 vs = ⟨vs⟩ := by
  apply Array.ext'
  rw [splice_toList vs cs 0 (by omega)]
  simp [h]
theorem STOREC_blk : ∀ (vs : List Value) {w : World} {b : Nat} {cs : Array Value} {t : TypeId} {i : Nat} {k : World → Prop}, w.heap[b]? = some (.cells cs t (0, 0)) → i + vs.length ≤ cs.size → (∀ v ∈ vs, v.oneCell' = true) →
    (∀ w', Keeps (· = b) w w' → w'.heap[b]? = some (.cells (splice cs i vs) t (0, 0)) → k w') → STOREC vs ⟨b, 0, none⟩ i k w
  | [], w, _, _, _, _, _, hb, _, _, hk => hk w (.refl _ w) hb
  | v :: vs, w, b, cs, t, i, k, hb, hi, h1, hk => by
    simp only [List.length_cons] at hi
    unfold STOREC
    rw [h1 v (by simp), addr_add_blk, Nat.zero_add]
    exact sto_blk hb (by omega) fun w1 K1 hb1 => STOREC_blk vs hb1 (by simp; omega) (fun x hx => h1 x (by simp [hx])) fun w2 K2 hb2 => hk w2 (K1.trans K2 (fun _ _ h => h)) hb2
theorem SH.stoAll {F : Nat → Prop} {w0 w : World} {H : List Ent} (S : SH F w0 w H) (n : Nat) {b : Nat} {cs : Array Value} {t : TypeId} (hn : H[n]? = some (b, cs, t)) {vs : List Value} (hl : vs.length = cs.size) (h1 : ∀ v ∈ vs, v.oneCell' = true)
    {k : World → Prop} (hk : ∀ w', Keeps (· = b) w w' → SH F w0 w' (H.set n (b, ⟨vs⟩, t)) → k w') : STOREC vs ⟨b, 0, none⟩ 0 k w :=
  STOREC_blk vs (S.get n hn) (by omega) h1 fun w' K hb => hk w' K (S.setAt n hn K (by rw [splice_all vs cs hl] at hb; exact hb))
end Go.Dn
