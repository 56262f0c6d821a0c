/-
  Texts of this claim, laid one behind the other by a program of mine (install.py): Dn.Mem, Dn.Laws, Dn.Str, Dn.Laws2, Dn.Laws3, Dn.Laws4, K.Wire, K.Shelf, K.Sch2, K.Sch3, Dn.Arr, Dn.Arr2, K.Sch4, K.Iter, Dn.Maps, K.Rise, Dn.MapsB, Dn.St, Dn.MapsP, Dn.MapsQ, Dn.Lit, K.Tys, K.Dk1, K.Dk2, Dn.MapsR, K.Dk3, K.Dk4.
-/
import Derived.Test.YtfgbfodohmeamaaGreatDoorM2
import Derived.Below
import Derived.Laws.MakeOwn
import Derived.Laws.BytesString
import Derived.Laws.NewBlocks
import Derived.Laws.OwnMore
import Derived.Laws.StructEq
import Derived.Laws.Strings2
import Derived.Laws.BytesArg
import Derived.Test.YtfgbfodohmeamaaGreatDoorRead
import Derived.Test.YtfgbfodohmeamaaGreatDoorM1
import Derived.Shelf.Small.Strs
import Derived.Shelf.Strings.Search1
import Derived.Shelf.Strings.AsciiSet
import Derived.Test.YtfgbfodohmeamaaGreatDoorProg
import Derived.Laws.CopyRow
import Derived.Laws.IdiomCopy
import Derived.Shelf.SlIter.Nil
import Derived.Shelf.SortM.Plain
import Derived.Shelf.SortM.SortNone
import Derived.Ground.GgzProg
import Derived.Ground.SlgmProg
import Derived.Maps.Own
import Derived.Maps.Views
import Derived.Sort.KeysCollected
import Derived.Maps.OwnSet
import Derived.Maps.Range
import Derived.LaidEqlPtr
import Derived.WideKeyEntry
import Derived.StringKeys
namespace Go.Dn
set_option maxRecDepth 100000
open Go.RowKit (Below)
/-! ## What stays -/
structure Keeps (F : Nat → Prop) (w w' : World) : Prop where
  os : w'.os = w.os
  tape : w'.tape = w.tape
  output : w'.output = w.output
  size : w.heap.size ≤ w'.heap.size
  block : ∀ k, k < w.heap.size → ¬ F k → w'.heap[k]? = w.heap[k]?
theorem Keeps.refl (F : Nat → Prop) (w : World) : Keeps F w w := ⟨rfl, rfl, rfl, Nat.le_refl _, fun _ _ _ => rfl⟩
theorem Keeps.trans {F G : Nat → Prop} {a b c : World} (h : Keeps F a b) (h' : Keeps G b c) (hs : ∀ k, k < a.heap.size → G k → F k) : Keeps F a c :=
  ⟨h'.os.trans h.os, h'.tape.trans h.tape, h'.output.trans h.output, Nat.le_trans h.size h'.size,
    fun k hk hn => (h'.block k (Nat.lt_of_lt_of_le hk h.size) fun hg => hn (hs k hk hg)).trans (h.block k hk hn)⟩
theorem Keeps.mono {F G : Nat → Prop} {a b : World} (h : Keeps F a b) (hs : ∀ k, k < a.heap.size → F k → G k) : Keeps G a b :=
  ⟨h.os, h.tape, h.output, h.size, fun k hk hn => h.block k hk fun hf => hn (hs k hk hf)⟩
theorem Keeps.of_below {F : Nat → Prop} {a b : World} (h : Below a.heap.size a b) : Keeps F a b := ⟨h.os, h.tape, h.output, h.size, fun k hk _ => h.block k hk⟩
theorem Keeps.below {F : Nat → Prop} {a b : World} {B : Nat} (h : Keeps F a b) (hB : B ≤ a.heap.size) (hs : ∀ k, k < B → ¬ F k) : Below B a b :=
  ⟨h.os, h.tape, h.output, h.size, fun k hk => h.block k (Nat.lt_of_lt_of_le hk hB) (hs k hk)⟩
theorem Keeps.alloc {F : Nat → Prop} {a w : World} (h : Keeps F a w) (o : Obj) : Keeps F a (w.alloc o) :=
  ⟨h.os, h.tape, h.output, Nat.le_trans h.size (by simp), fun k hk hn => (Below.heap_alloc w o k (Nat.lt_of_lt_of_le hk h.size)).trans (h.block k hk hn)⟩
theorem Keeps.drew {F : Nat → Prop} {a w : World} (h : Keeps F a w) : Keeps F a w.drew := ⟨h.os, h.tape, h.output, h.size, h.block⟩
theorem Keeps.setCell {F : Nat → Prop} {a w : World} (h : Keeps F a w) {p : Addr} (hp : F p.block ∨ a.heap.size ≤ p.block) (v : Value) : Keeps F a (w.setCell p v) :=
  ⟨h.os, h.tape, h.output, by simpa using h.size, fun k hk hn => by
    rw [Below.heap_setCell w p v k (by rintro rfl; rcases hp with hp | hp; exact hn hp; omega)]
    exact h.block k hk hn⟩
theorem Keeps.cell {F : Nat → Prop} {a b : World} (h : Keeps F a b) {p : Addr} {v : Value} (hc : a.cell? p = some v) (hn : ¬ F p.block) : b.cell? p = some v :=
  (World.cell?_of_block (w := a) (h.block p.block (World.block_lt_of_cell? a p hc) hn)).trans hc
theorem Keeps.at {F : Nat → Prop} {a b : World} (h : Keeps F a b) {k : Nat} {o : Obj} (hc : a.heap[k]? = some o) (hn : ¬ F k) : b.heap[k]? = some o :=
  (h.block k (Array.getElem?_eq_some_iff.1 hc).1 hn).trans hc
/-! ## Known blocks -/
abbrev Ent := Nat × Array Value × TypeId
structure SH (F : Nat → Prop) (w0 w : World) (H : List Ent) : Prop where
  keeps : Keeps F w0 w
  mem : ∀ x ∈ H, w.heap[x.1]? = some (.cells x.2.1 x.2.2 (0, 0))
  nodup : (H.map (·.1)).Nodup
  own : ∀ x ∈ H, F x.1 ∨ w0.heap.size ≤ x.1
section
variable {F : Nat → Prop} {w0 w : World} {H : List Ent}
theorem SH.lt (S : SH F w0 w H) {x : Ent} (hx : x ∈ H) : x.1 < w.heap.size := (Array.getElem?_eq_some_iff.1 (S.mem x hx)).1
theorem SH.start (F : Nat → Prop) (w : World) : SH F w w [] := ⟨.refl F w, by simp, by simp, by simp⟩
theorem SH.alloc (S : SH F w0 w H) (cs : Array Value) (t : TypeId) : SH F w0 (w.alloc (.cells cs t)) ((w.heap.size, cs, t) :: H) where
  keeps := S.keeps.alloc _
  mem := by
    intro x hx
    rcases List.mem_cons.1 hx with rfl | hx
    · exact heap_alloc_new w _
    · rw [Below.heap_alloc w _ x.1 (S.lt hx)]; exact S.mem x hx
  nodup := by
    simp only [List.map_cons, List.nodup_cons]
    refine ⟨fun hm => ?_, S.nodup⟩
    obtain ⟨x, hx, he⟩ := List.mem_map.1 hm
    have := S.lt hx
    omega
  own := by
    intro x hx
    rcases List.mem_cons.1 hx with rfl | hx
    · exact .inr S.keeps.size
    · exact S.own x hx
theorem SH.get (S : SH F w0 w H) (n : Nat) {b : Nat} {cs : Array Value} {t : TypeId} (hn : H[n]? = some (b, cs, t)) : w.heap[b]? = some (.cells cs t (0, 0)) :=
  S.mem _ (List.mem_of_getElem? hn)
theorem SH.cell (S : SH F w0 w H) (n : Nat) {b : Nat} {cs : Array Value} {t : TypeId} (hn : H[n]? = some (b, cs, t)) {i : Nat} {v : Value} (hv : cs[i]? = some v) : w.cell? ⟨b, i, none⟩ = some v := by
  have := S.get n hn
  simp [World.cell?, this, hv]
theorem nodup_ne {α : Type} {l : List α} (h : l.Nodup) {i j : Nat} {x y : α} (hi : l[i]? = some x) (hj : l[j]? = some y) (hne : i ≠ j) : x ≠ y := by
  obtain ⟨h1, rfl⟩ := List.getElem?_eq_some_iff.1 hi
  obtain ⟨h2, rfl⟩ := List.getElem?_eq_some_iff.1 hj
  intro he
  rcases Nat.lt_or_gt_of_ne hne with hlt | hlt
  · exact (List.pairwise_iff_getElem.1 h) i j h1 h2 hlt he
  · exact (List.pairwise_iff_getElem.1 h) j i h2 h1 hlt he.symm
theorem SH.setAt (S : SH F w0 w H) (n : Nat) {b : Nat} {cs : Array Value} {t : TypeId} (hn : H[n]? = some (b, cs, t)) {w' : World} {cs' : Array Value} (hk : Keeps (· = b) w w')
    (hb : w'.heap[b]? = some (.cells cs' t (0, 0))) : SH F w0 w' (H.set n (b, cs', t)) where
  keeps := S.keeps.trans hk fun k hlt he => by
    subst he
    rcases S.own _ (List.mem_of_getElem? hn) with h | h
    · exact h
    · exact absurd hlt (Nat.not_lt.2 h)
  mem := by
    intro x hx
    obtain ⟨i, hi⟩ := List.mem_iff_getElem?.1 hx
    by_cases hin : n = i
    · subst hin
      have hlt := (List.getElem?_eq_some_iff.1 hn).1
      rw [List.getElem?_set_self hlt] at hi
      cases hi
      exact hb
    · rw [List.getElem?_set_ne hin] at hi
      have hne : x.1 ≠ b := by
        refine nodup_ne S.nodup (i := i) (j := n) ?_ ?_ (Ne.symm hin)
        · simp [hi]
        · simp [hn]
      exact hk.at (S.mem x (List.mem_of_getElem? hi)) hne
  nodup := by
    have : (H.set n (b, cs', t)).map (·.1) = H.map (·.1) := by
      apply List.ext_getElem?
      intro i
      simp only [List.getElem?_map]
      by_cases hin : n = i
      · subst hin
        have hlt := (List.getElem?_eq_some_iff.1 hn).1
        rw [List.getElem?_set_self hlt, hn]
        rfl
      · rw [List.getElem?_set_ne hin]
    rw [this]
    exact S.nodup
  own := by
    intro x hx
    obtain ⟨i, hi⟩ := List.mem_iff_getElem?.1 hx
    by_cases hin : n = i
    · subst hin
      have hlt := (List.getElem?_eq_some_iff.1 hn).1
      rw [List.getElem?_set_self hlt] at hi
      cases hi
      exact S.own (b, cs, t) (List.mem_of_getElem? hn)
    · rw [List.getElem?_set_ne hin] at hi
      exact S.own x (List.mem_of_getElem? hi)
theorem keeps_setCell (w : World) (b i : Nat) (v : Value) : Keeps (· = b) w (w.setCell ⟨b, i, none⟩ v) := Keeps.setCell (F := (· = b)) (Keeps.refl _ w) (p := ⟨b, i, none⟩) (.inl rfl) v
theorem heap_setCell_at {w : World} {b i : Nat} {cs : Array Value} {t : TypeId} {f : Nat × Nat} (h : w.heap[b]? = some (.cells cs t f)) (v : Value) :
    (w.setCell ⟨b, i, none⟩ v).heap[b]? = some (.cells (cs.setIfInBounds i v) t f) := by
  simp [World.setCell, Array.getElem?_modify, h]
theorem SH.grown (S : SH F w0 w H) {w' : World} (h : Below w.heap.size w w') : SH F w0 w' H where
  keeps := S.keeps.trans (Keeps.of_below (F := fun _ => False) h) (by simp)
  mem := fun x hx => (h.block x.1 (S.lt hx)).trans (S.mem x hx)
  nodup := S.nodup
  own := S.own
end
end Go.Dn
namespace Go.Dn
set_option maxRecDepth 100000
open Go.RowKit (Below)
theorem addr_add_add (p : Addr) (x y : Nat) : (p.add x).add y = p.add (x + y) := by
  unfold Addr.add
  by_cases hx : x = 0
  · subst hx; simp
  · by_cases hy : y = 0
    · subst hy; simp
    · simp [hx, hy, Nat.add_assoc]
theorem addr_add_blk (b i j : Nat) : (⟨b, i, none⟩ : Addr).add j = ⟨b, i + j, none⟩ := by
  unfold Addr.add
  by_cases hj : j = 0
  · subst hj; simp
  · simp [hj]
theorem addr_add_block (p : Addr) (x : Nat) : (p.add x).block = p.block := by
  unfold Addr.add
  split <;> rfl
def Rd (w : World) (a : Option Addr) (vs : List Value) : Prop := ∀ j v, vs[j]? = some v → ∃ p, a = some p ∧ w.cell? (p.add j) = some v
theorem Rd.nil (w : World) (a : Option Addr) : Rd w a [] := by intro j v h; simp at h
theorem Rd.keeps {F : Nat → Prop} {w w' : World} {a : Option Addr} {vs : List Value} (h : Rd w a vs) (hk : Keeps F w w') (hn : ∀ p, a = some p → ¬ F p.block) : Rd w' a vs := by
  intro j v hv
  obtain ⟨p, hp, hc⟩ := h j v hv
  exact ⟨p, hp, hk.cell hc (by rw [addr_add_block]; exact hn p hp)⟩
theorem Rd.grown {w w' : World} {a : Option Addr} {vs : List Value} (h : Rd w a vs) (hk : Below w.heap.size w w') : Rd w' a vs :=
  h.keeps (F := fun _ => False) (Keeps.of_below hk) (by simp)
theorem Rd.take {w : World} {a : Option Addr} {vs : List Value} (h : Rd w a vs) (n : Nat) : Rd w a (vs.take n) := by
  intro j v hv
  rw [List.getElem?_take] at hv
  split at hv
  · exact h j v hv
  · cases hv
theorem Rd.drop {w : World} {p : Addr} {vs : List Value} (h : Rd w (some p) vs) (n : Nat) : Rd w (some (p.add n)) (vs.drop n) := by
  intro j v hv
  rw [List.getElem?_drop] at hv
  obtain ⟨q, hq, hc⟩ := h _ v hv
  cases hq
  exact ⟨_, rfl, by rw [addr_add_add]; exact hc⟩
theorem Rd.sla {w : World} {a : Option Addr} {vs : List Value} (h : Rd w a vs) (l hh m sz : Nat) (h2 : hh ≤ m) : Rd w (SLA a l m sz) ((vs.drop (l * sz)).take ((hh - l) * sz)) := by
  unfold SLA
  split
  · have : hh - l = 0 := by omega
    rw [this]
    simp [Rd]
  · cases a with
    | none =>
      intro j v hv
      rw [List.getElem?_take] at hv
      split at hv
      · rw [List.getElem?_drop] at hv
        obtain ⟨p, hp, _⟩ := h _ v hv
        cases hp
      · cases hv
    | some p => exact (h.drop (l * sz)).take _
theorem Rd.of_block {w : World} {b : Nat} {cs : Array Value} {t : TypeId} {f : Nat × Nat} (h : w.heap[b]? = some (.cells cs t f)) (i : Nat) : Rd w (some ⟨b, i, none⟩) (cs.toList.drop i) := by
  intro j v hv
  refine ⟨_, rfl, ?_⟩
  rw [addr_add_blk]
  rw [List.getElem?_drop] at hv
  simp [World.cell?, h]
  simpa using hv
theorem Rd.of_block0 {w : World} {b : Nat} {cs : Array Value} {t : TypeId} {f : Nat × Nat} (h : w.heap[b]? = some (.cells cs t f)) : Rd w (some ⟨b, 0, none⟩) cs.toList := by
  have := Rd.of_block h 0
  simpa using this
def rowB (a : Option Addr) : Option Nat := a.map (·.block)
def Row (w : World) (e : TypeId) (sz : Nat) (a : Option Addr) (n c : Nat) (xs : List Value) : Prop :=
  xs.length = n * sz ∧ ((a = none ∧ n = 0 ∧ c = 0) ∨
    ∃ g cur, a = some ⟨g, 0, none⟩ ∧ w.heap[g]? = some (.cells cur e (0, 0)) ∧ n ≤ c ∧ c ≤ 9223372036854775807 ∧ cur.size = c * sz ∧ cur.toList.take (n * sz) = xs)
theorem Row.nil (w : World) (e : TypeId) (sz : Nat) : Row w e sz none 0 0 [] := ⟨by simp, .inl ⟨rfl, rfl, rfl⟩⟩
theorem Row.rd {w : World} {e : TypeId} {sz : Nat} {a : Option Addr} {n c : Nat} {xs : List Value} (h : Row w e sz a n c xs) : Rd w a xs := by
  rcases h with ⟨hl, ⟨rfl, rfl, rfl⟩ | ⟨g, cur, rfl, hg, _, _, _, rfl⟩⟩
  · have : xs = [] := List.eq_nil_of_length_eq_zero (by simpa using hl)
    subst this
    exact Rd.nil _ _
  · exact (Rd.of_block0 hg).take _
theorem Row.lt {w : World} {e : TypeId} {sz : Nat} {a : Option Addr} {n c : Nat} {xs : List Value} (h : Row w e sz a n c xs) {k : Nat} (hk : rowB a = some k) : k < w.heap.size := by
  rcases h with ⟨_, ⟨rfl, _⟩ | ⟨g, cur, rfl, hg, _⟩⟩
  · cases hk
  · cases hk; exact (Array.getElem?_eq_some_iff.1 hg).1
def slT (P : Program) (t : TypeId) : Option (TypeId × Nat × Nat × Value) :=
  match P.underlying t with
  | some (.slice e) =>
    (match P.info? e with
    | some i => (match i.zero with
      | some z => some (e, i.size, i.bytes, z)
      | none => none)
    | none => none)
  | _ => none
theorem slT_out {P : Program} {t e : TypeId} {sz by_ : Nat} {z : Value} (h : slT P t = some (e, sz, by_, z)) : P.underlying t = some (.slice e) ∧ ∃ i, P.info? e = some i ∧ i.zero = some z ∧ i.size = sz ∧ i.bytes = by_ := by
  unfold slT at h
  split at h
  · rename_i e' hu
    split at h
    · rename_i i hi
      split at h
      · rename_i z' hz
        simp only [Option.some.injEq, Prod.mk.injEq] at h
        obtain ⟨rfl, rfl, rfl, rfl⟩ := h
        exact ⟨hu, i, hi, hz, rfl, rfl⟩
      · cases h
    · cases h
  · cases h
theorem keeps_setRow (w : World) (g : Nat) (cs : Array Value) : Keeps (· = g) w (w.setRow g cs) :=
  ⟨rfl, rfl, rfl, by simp [World.setRow], fun k _ hn => by simp only [World.setRow, Array.getElem?_modify]; rw [if_neg (fun h => hn h.symm)]⟩
theorem heap_setRow {w : World} {g : Nat} {cur cs : Array Value} {t : TypeId} {f : Nat × Nat} (h : w.heap[g]? = some (.cells cur t f)) : (w.setRow g cs).heap[g]? = some (.cells cs t f) := by
  simp [World.setRow, Array.getElem?_modify, h]
theorem append_row {P : Program} {t ty e : TypeId} {sz bytes : Nat} {z : Value} (hT : slT P t = some (e, sz, bytes, z)) (hz : z.cells.size = sz) (hsz : 0 < sz) (hb0 : 0 < bytes)
    {w : World} {a : Option Addr} {n c : Nat} {xs : List Value} (hr : Row w e sz a n c xs) {b : Option Addr} {m mc : Nat} {news : List Value} (hs : Rd w b news) (hl : news.length = m * sz)
    (h1 : ∀ u ∈ news, u.oneCell' = true) (hby : (n + m) * bytes ≤ 140737488355328) :
    ∃ a' c' w', (Builtin.append_ #[t, t] ty #[.slice a n c, .slice b m mc]).run P w = .ok (.slice a' (n + m) c') w' ∧ Row w' e sz a' (n + m) c' (xs ++ news) ∧
      Keeps (fun k => rowB a = some k) w w' ∧ (∀ k, rowB a' = some k → rowB a = some k ∨ w.heap.size ≤ k) := by
  obtain ⟨hu, i, hi, hiz, rfl, rfl⟩ := slT_out hT
  have hnm : n + m ≤ 140737488355328 := Nat.le_trans (Nat.le_mul_of_pos_right _ hb0) hby
  have hlen : (xs ++ news).length = (n + m) * i.size := by rw [List.length_append, hr.1, hl, Nat.add_mul]
  -- a grown row
  have grown : ∀ (old : Nat), old < n + m → Row (w.drew.alloc (.cells (xs.toArray ++ news.toArray ++ Builtin.zeroCells z.cells (grownCap w (n + m) old e - (n + m))) e)) e i.size
      (some ⟨w.heap.size, 0, none⟩) (n + m) (grownCap w (n + m) old e) (xs ++ news) := by
    intro old ho
    have hge := grownCap_ge w (n + m) old e
    have hcm : grownCap w (n + m) old e ≤ maxLen := grownCap_le_maxLen w (n + m) old e (by unfold maxLen; omega)
    refine ⟨hlen, .inr ⟨w.heap.size, _, rfl, heap_alloc_new w.drew _, hge, by unfold maxLen at hcm; omega, ?_, ?_⟩⟩
    · simp only [Array.size_append, List.size_toArray, size_zeroCells, hz, hr.1, hl, ← Nat.add_mul]
      congr 1
      omega
    · simp only [Array.toList_append, List.append_assoc]
      rw [← List.append_assoc, ← hlen]
      exact List.take_left
  have gkeeps : ∀ (cs : Array Value) (row : Nat → Prop), Keeps row w (w.drew.alloc (.cells cs e)) := fun cs row => (Keeps.refl row w).drew.alloc _
  have src : 0 < m → ∃ p, b = some p ∧ ∀ j u, news[j]? = some u → w.cell? (p.add j) = some u := by
    intro hm
    have h0 : 0 < news.length := by rw [hl]; exact Nat.mul_pos hm hsz
    obtain ⟨p, hp, _⟩ := hs 0 news[0] (List.getElem?_eq_getElem h0)
    refine ⟨p, hp, fun j u hu => ?_⟩
    obtain ⟨q, hq, hc⟩ := hs j u hu
    rw [hp] at hq
    cases hq
    exact hc
  have none0 : m = 0 → news = [] := fun hm => List.eq_nil_of_length_eq_zero (by rw [hl, hm]; simp)
  rcases hr.2 with ⟨rfl, rfl, rfl⟩ | ⟨g, cur, rfl, hg, hnc, hcm, hcs, htake⟩
  · have hx : xs = [] := List.eq_nil_of_length_eq_zero (by simpa using hr.1)
    subst hx
    by_cases hm : m = 0
    · have hn := none0 hm
      subst hm hn
      refine ⟨none, 0, w, ?_, by simpa using Row.nil w e i.size, .refl _ _, by simp [rowB]⟩
      cases b <;> simp [Builtin.append_, run_underlying hu, sizeOf, typeInfo, hi, Builtin.lenOf, Builtin.firstCells, loadCells, loadCellsFrom]
    · obtain ⟨p, rfl, hp⟩ := src (by omega)
      have hrun := run_append_nil (P := P) w t ty e i z hu hi hiz p m mc news hl hp (by omega) (by omega) (by simp only [Nat.zero_add] at hby; omega)
      have hrow := grown 0 (by omega)
      simp only [Nat.zero_add] at hrow hrun ⊢
      refine ⟨_, _, _, hrun, ?_, gkeeps _ _, fun k hk => .inr ?_⟩
      · simpa using hrow
      · simp [rowB] at hk; omega
  · by_cases hroom : n + m ≤ c
    · by_cases hm : m = 0
      · have hn := none0 hm
        subst hm hn
        refine ⟨some ⟨g, 0, none⟩, c, w, ?_, by simpa using hr, .refl _ _, fun k hk => .inl hk⟩
        cases b <;> simp [Builtin.append_, run_underlying hu, sizeOf, typeInfo, hi, Builtin.lenOf, Builtin.firstCells, loadCells, loadCellsFrom, hnc, storeCells]
      · obtain ⟨p, rfl, hp⟩ := src (by omega)
        have hfit : n * i.size + news.length ≤ cur.size := by rw [hl, hcs, ← Nat.add_mul]; exact Nat.mul_le_mul_right _ hroom
        have hrun := run_append_room (P := P) w t ty e i hu hi g n c cur hg p m mc news hl hp h1 hroom hfit
        have hxl : (List.take (n * i.size) cur.toList) = xs := htake
        refine ⟨_, _, _, hrun, ⟨hlen, .inr ⟨g, _, rfl, heap_setRow hg, hroom, hcm, ?_, ?_⟩⟩, (keeps_setRow w g _).mono (fun k _ h => by subst h; rfl), fun k hk => .inl hk⟩
        · simp only [List.size_toArray, List.length_append, List.length_take, List.length_drop, Array.length_toList]
          omega
        · rw [hxl]
          rw [← hlen]
          exact List.take_left
    · obtain ⟨p, rfl, hp⟩ := src (by omega)
      have hold : ∀ j v, xs[j]? = some v → w.cell? ((⟨g, 0, none⟩ : Addr).add j) = some v := by
        intro j v hv
        obtain ⟨q, hq, hc⟩ := hr.rd j v hv
        cases hq
        exact hc
      have hrun := run_append_grow (P := P) w t ty e i z hu hi hiz ⟨g, 0, none⟩ n c xs hr.1 hold p m mc news hl hp (by omega) (by omega) (growslice_fits (by omega) hby)
      refine ⟨_, _, _, hrun, grown c (by omega), gkeeps _ _, fun k hk => .inr ?_⟩
      simp [rowB] at hk
      omega
def bl (s : ByteArray) : List UInt8 := s.data.toList
def sof (l : List UInt8) : ByteArray := ⟨l.toArray⟩
def byteV (c : UInt8) : Value := .int .u8 (c.toNat : Int)
theorem bl_sof (l : List UInt8) : bl (sof l) = l := by simp [bl, sof]
theorem sof_bl (s : ByteArray) : sof (bl s) = s := by cases s; simp [bl, sof]
theorem bl_length (s : ByteArray) : (bl s).length = s.size := Array.length_toList
theorem size_sof (l : List UInt8) : (sof l).size = l.length := by simp [sof, ByteArray.size]
theorem bl_inj {s t : ByteArray} (h : bl s = bl t) : s = t := by rw [← sof_bl s, ← sof_bl t, h]
theorem extract_eq (s : ByteArray) (a b : Nat) : s.extract a b = sof (((bl s).drop a).take (b - a)) := by
  have h := ByteArray.extract_mk (bl s) a b
  have e : (ByteArray.mk (bl s).toArray) = s := sof_bl s
  rw [e] at h
  exact h
theorem bytesEq_iff (a b : ByteArray) : bytesEq a b = decide (a = b) := by
  unfold bytesEq
  rw [ByteArray.toList_eq, ByteArray.toList_eq]
  have : (a = b) ↔ a.data.toList = b.data.toList := ⟨fun h => by rw [h], fun h => bl_inj h⟩
  rw [Bool.eq_iff_iff]
  simp [this]
theorem sget_eq (s : ByteArray) (i : Nat) : sget s i = (bl s).getD i 0 := rfl
theorem byteV_one (c : UInt8) : (byteV c).oneCell' = true := rfl
def bytesT (P : Program) (st bt : TypeId) : Bool :=
  match P.underlying st, P.underlying bt with
  | some .string, some (.slice e) => (match P.underlying e with
    | some (.int .u8) => true
    | _ => false)
  | _, _ => false
theorem bytesT_out {P : Program} {st bt : TypeId} (h : bytesT P st bt = true) : P.underlying st = some .string ∧ ∃ e, P.underlying bt = some (.slice e) ∧ P.underlying e = some (.int .u8) := by
  unfold bytesT at h
  split at h
  · rename_i e hs hb
    split at h
    · rename_i he; exact ⟨hs, e, hb, he⟩
    · cases h
  · cases h
theorem push_bytes (l : List UInt8) : (l.map fun c => ((c.toNat : Nat) : Int)).foldl (fun r n => r.push (UInt8.ofNat n.toNat)) ByteArray.empty = sof l := by
  rw [foldl_push_bytes]
  apply bl_inj
  rw [bl_sof]
  show (ByteArray.empty.data ++ _).toList = l
  have h0 : ByteArray.empty.data.toList = [] := rfl
  rw [Array.toList_append, h0, List.nil_append, List.map_map, List.toList_toArray]
  have : ((fun n : Int => UInt8.ofNat n.toNat) ∘ fun c : UInt8 => ((c.toNat : Nat) : Int)) = id := by
    funext c
    simp
  rw [this, List.map_id]
theorem string_of_bytes {P : Program} {st bt : TypeId} (hT : bytesT P st bt = true) {w : World} {a : Option Addr} {l : List UInt8} {n c : Nat} (hn : n = l.length) (hr : Rd w a (l.map byteV)) {f : Value → World → Prop}
    (hf : f (.string (sof l)) w) : OPR P (convert bt st (.slice a n c)) f w := by
  obtain ⟨hs, e, hb, he⟩ := bytesT_out hT
  unfold OPR
  rw [run_convert_bytes_string w bt st e a n c hb he hs]
  cases a with
  | none =>
    have hl : l = [] := by
      cases l with
      | nil => rfl
      | cons x r =>
        obtain ⟨p, hp, _⟩ := hr 0 (byteV x) (by simp)
        cases hp
    subst hl
    have : sof [] = ByteArray.empty := rfl
    rw [this] at hf
    simpa [Conv.bytesToString] using hf
  | some p =>
    have hld : (loadCells p n).run P w = .ok ((l.map fun c => ((c.toNat : Nat) : Int)).map (Value.int .u8)).toArray w := by
      have := run_loadCells_list (P := P) w p (l.map byteV) (fun j v hv => by
        obtain ⟨q, hq, hc⟩ := hr j v hv
        cases hq
        exact hc)
      rw [List.length_map, ← hn] at this
      rw [this]
      congr 1
      simp [byteV, Function.comp_def]
    rw [run_bytesToString w p n c _ hld, push_bytes]
    exact hf
theorem Row.set {w : World} {e : TypeId} {sz : Nat} {g : Nat} {n c : Nat} {xs : List Value} (h : Row w e sz (some ⟨g, 0, none⟩) n c xs) (j : Nat) (_hj : j < n * sz) (v : Value) :
    Row (w.setCell ⟨g, j, none⟩ v) e sz (some ⟨g, 0, none⟩) n c (xs.set j v) := by
  refine ⟨by rw [List.length_set]; exact h.1, ?_⟩
  rcases h.2 with ⟨h0, _⟩ | ⟨g', cur, hg', hg, hnc, hcm, hcs, rfl⟩
  · cases h0
  · cases hg'
    refine .inr ⟨g, _, rfl, heap_setCell_at hg v, hnc, hcm, by simpa using hcs, ?_⟩
    rw [Array.toList_setIfInBounds, List.take_set]
theorem Row.sto {w : World} {e : TypeId} {sz : Nat} {g : Nat} {n c : Nat} {xs : List Value} (h : Row w e sz (some ⟨g, 0, none⟩) n c xs) {j : Nat} (hj : j < n * sz) {v : Value} {k : World → Prop}
    (hk : ∀ w', Row w' e sz (some ⟨g, 0, none⟩) n c (xs.set j v) → Keeps (· = g) w w' → k w') : STO ⟨g, j, none⟩ v k w := by
  have hx : j < xs.length := by rw [h.1]; exact hj
  obtain ⟨p, hp, hc⟩ := h.rd j xs[j] (List.getElem?_eq_getElem hx)
  cases hp
  rw [addr_add_blk, Nat.zero_add] at hc
  refine ⟨by rw [hc]; rfl, ?_, hk _ (h.set j hj v) (keeps_setCell w g j v)⟩
  rcases h.2 with ⟨h0, _⟩ | ⟨g', cur, hg', hg, _⟩
  · cases h0
  · cases hg'
    simp [World.frozen?, hg]
end Go.Dn
namespace Go.Dn
open Go.RowKit (Below)
theorem SH.below {w0 w : World} {H : List Ent} (S : SH (fun _ => False) w0 w H) : Below w0.heap.size w0 w := S.keeps.below (Nat.le_refl _) (by simp)
end Go.Dn
namespace Go.Dn
open Go.RowKit (Below)
section
variable {F : Nat → Prop} {w0 w : World} {H : List Ent}
theorem SH.newB (S : SH F w0 w H) {cs : Array Value} {t : TypeId} {k : Nat → World → Prop} (hk : ∀ b w', w.heap.size ≤ b → Below w.heap.size w w' → SH F w0 w' ((b, cs, t) :: H) → k b w') : NEWB cs t k w :=
  hk _ _ (Nat.le_refl _) ((Below.refl _ w).alloc (Nat.le_refl _) _) (S.alloc cs t)
end
theorem sto_blk {w : World} {b : Nat} {cs : Array Value} {t : TypeId} (hb : w.heap[b]? = some (.cells cs t (0, 0))) {i : Nat} {v : Value} {k : World → Prop} (hi : i < cs.size)
    (hk : ∀ w', Keeps (· = b) w w' → w'.heap[b]? = some (.cells (cs.setIfInBounds i v) t (0, 0)) → k w') : STO ⟨b, i, none⟩ v k w := by
  refine ⟨?_, ?_, hk _ (keeps_setCell w b i v) (heap_setCell_at hb v)⟩
  · simp [World.cell?, hb, hi]
  · simp [World.frozen?, hb]
section
variable {F : Nat → Prop} {w0 w : World} {H : List Ent}
end
theorem first_string {P : Program} {w : World} (s : ByteArray) : (Builtin.firstCells 1 s.size (.string s)).run P w = .ok ((bl s).map byteV).toArray w := by
  simp only [Builtin.firstCells, Sem.run_pure]
  congr 1
  apply Array.ext'
  have : s.extract 0 s.size = s := by rw [extract_eq]; apply bl_inj; rw [bl_sof, List.drop_zero, Nat.sub_zero, List.take_of_length_le (by rw [bl_length]; omega)]
  rw [this]
  simp [bl, byteV]
theorem append_string {P : Program} {t u ty e : TypeId} {bytes : Nat} {z : Value} (hT : slT P t = some (e, 1, bytes, z)) (hu' : P.underlying u = some .string) (hz : z.cells.size = 1) (hb0 : 0 < bytes)
    {w : World} {a : Option Addr} {n c : Nat} {xs : List Value} (hr : Row w e 1 a n c xs) (s : ByteArray) (hby : (n + s.size) * bytes ≤ 140737488355328) :
    ∃ a' c' w', (Builtin.append_ #[t, u] ty #[.slice a n c, .string s]).run P w = .ok (.slice a' (n + s.size) c') w' ∧ Row w' e 1 a' (n + s.size) c' (xs ++ (bl s).map byteV) ∧
      Keeps (fun k => rowB a = some k) w w' ∧ (∀ k, rowB a' = some k → rowB a = some k ∨ w.heap.size ≤ k) := by
  obtain ⟨hu, i, hi, hiz, hi1, rfl⟩ := slT_out hT
  have hnm : n + s.size ≤ 140737488355328 := Nat.le_trans (Nat.le_mul_of_pos_right _ hb0) hby
  have hl : ((bl s).map byteV).length = s.size := by rw [List.length_map, bl_length]
  have hlen : (xs ++ (bl s).map byteV).length = (n + s.size) * 1 := by rw [List.length_append, hr.1, hl]; omega
  have h1 : ∀ u ∈ (bl s).map byteV, u.oneCell' = true := by
    intro u hu
    obtain ⟨c, _, rfl⟩ := List.mem_map.1 hu
    exact byteV_one c
  have grown : ∀ (old : Nat), old < n + s.size → Row (w.drew.alloc (.cells (xs.toArray ++ ((bl s).map byteV).toArray ++ Builtin.zeroCells z.cells (grownCap w (n + s.size) old e - (n + s.size))) e)) e 1
      (some ⟨w.heap.size, 0, none⟩) (n + s.size) (grownCap w (n + s.size) old e) (xs ++ (bl s).map byteV) := by
    intro old ho
    have hge := grownCap_ge w (n + s.size) old e
    have hcm : grownCap w (n + s.size) old e ≤ maxLen := grownCap_le_maxLen w (n + s.size) old e (by unfold maxLen; omega)
    refine ⟨hlen, .inr ⟨w.heap.size, _, rfl, heap_alloc_new w.drew _, hge, by unfold maxLen at hcm; omega, ?_, ?_⟩⟩
    · simp only [Array.size_append, List.size_toArray, size_zeroCells, hz, hr.1, hl]
      omega
    · simp only [Array.toList_append, List.append_assoc]
      rw [← List.append_assoc, ← hlen]
      exact List.take_left
  have gkeeps : ∀ (cs : Array Value) (row : Nat → Prop), Keeps row w (w.drew.alloc (.cells cs e)) := fun cs row => (Keeps.refl row w).drew.alloc _
  have grow : ∀ (old : Nat) (olds : Value), (∀ w', w'.heap = w.heap → (Builtin.firstCells 1 n olds).run P w' = .ok xs.toArray w') → old < n + s.size → (∃ b0, olds = .slice b0 n old) →
      (Builtin.append_ #[t, u] ty #[olds, .string s]).run P w = .ok (.slice (some ⟨w.heap.size, 0, none⟩) (n + s.size) (grownCap w (n + s.size) old e))
        (w.drew.alloc (.cells (xs.toArray ++ ((bl s).map byteV).toArray ++ Builtin.zeroCells z.cells (grownCap w (n + s.size) old e - (n + s.size))) e)) := by
    rintro old _ hf ho ⟨b0, rfl⟩
    have hn : ¬ (n + s.size ≤ old) := by omega
    have h63' : ¬ (9223372036854775807 < ((n : Int) + (s.size : Int))) := by omega
    have h48' : ¬ (281474976710656 < Builtin.nextslicecap (n + s.size) old * i.bytes) := by have := growslice_fits (old := old) (need := n + s.size) ho hby; omega
    have hf' := hf w.drew rfl
    simp [Builtin.append_, run_underlying hu, run_underlying hu', sizeOf, typeInfo, zeroValue, hi, hiz, hi1, Builtin.lenOf, hn, h63', h48', Question.forced, hf', first_string, newRow, grownCap]
    congr 2
    apply Array.ext'
    simp [List.append_assoc]
  rcases hr.2 with ⟨rfl, rfl, rfl⟩ | ⟨g, cur, rfl, hg, hnc, hcm, hcs, htake⟩
  · have hx : xs = [] := List.eq_nil_of_length_eq_zero (by simpa using hr.1)
    subst hx
    by_cases hm : s.size = 0
    · have hn : (bl s).map byteV = [] := List.eq_nil_of_length_eq_zero (by rw [hl, hm])
      refine ⟨none, 0, w, ?_, by rw [hm, hn]; exact Row.nil w e 1, .refl _ _, by simp [rowB]⟩
      have := first_string (P := P) (w := w) s
      rw [hm] at this
      simp [Builtin.append_, run_underlying hu, run_underlying hu', sizeOf, typeInfo, hi, hi1, Builtin.lenOf, hm, this]
    · exact ⟨_, _, _, grow 0 (.slice none 0 0) (fun w' _ => by simp [Builtin.firstCells]) (by omega) ⟨_, rfl⟩, grown 0 (by omega), gkeeps _ _, fun k hk => .inr (by simp [rowB] at hk; omega)⟩
  · by_cases hroom : n + s.size ≤ c
    · have hfit : n + ((bl s).map byteV).length ≤ cur.size := by rw [hl, hcs]; omega
      have hst := run_storeCells_at P g n e ((bl s).map byteV) 0 cur w hg (by simpa using hfit) h1
      simp only [Nat.add_zero] at hst
      refine ⟨some ⟨g, 0, none⟩, c, _, ?_, ⟨hlen, .inr ⟨g, _, rfl, heap_setRow hg, hroom, hcm, ?_, ?_⟩⟩, (keeps_setRow w g (cur.toList.take n ++ (bl s).map byteV ++ cur.toList.drop (n + ((bl s).map byteV).length)).toArray).mono (fun k _ h => by subst h; rfl), fun k hk => .inl hk⟩
      · simp [Builtin.append_, run_underlying hu, run_underlying hu', sizeOf, typeInfo, hi, hi1, Builtin.lenOf, hroom, first_string, Addr.add_lit]
        rw [hst]
        simp
      · simp only [List.size_toArray, List.length_append, List.length_take, List.length_drop, Array.length_toList]
        omega
      · have hxl : cur.toList.take n = xs := by rw [← htake]; simp
        rw [hxl, ← hlen]
        exact List.take_left
    · have hold : ∀ w', w'.heap = w.heap → (Builtin.firstCells 1 n (.slice (some ⟨g, 0, none⟩) n c)).run P w' = .ok xs.toArray w' := by
        intro w' hw'
        refine run_firstCells_some (P := P) w' 1 n ⟨g, 0, none⟩ n c xs hr.1 fun j v hv => ?_
        obtain ⟨q, hq, hc⟩ := hr.rd j v hv
        cases hq
        have : w'.cell? ((⟨g, 0, none⟩ : Addr).add j) = w.cell? ((⟨g, 0, none⟩ : Addr).add j) := by unfold World.cell?; rw [hw']
        rw [this]
        exact hc
      exact ⟨_, _, _, grow c _ hold (by omega) ⟨_, rfl⟩, grown c (by omega), gkeeps _ _, fun k hk => .inr (by simp [rowB] at hk; omega)⟩
end Go.Dn
namespace Go.Proofs.YtfgbfodohmeamaaGreatDoor
set_option maxRecDepth 100000
open Go.Dn Go.Proofs
open Go.RowKit (Below)
set_option linter.unusedVariables false
theorem tbytes : bytesT Tryz.prog ty.string ty.L_uint8 = true := by kernel_rfl
theorem tB : slT Tryz.prog ty.L_uint8 = some (ty.uint8, 1, 1, .int .u8 0) := by kernel_rfl
theorem zB : (Value.int .u8 0).cells.size = 1 := rfl
theorem bytes_one (l : List UInt8) : ∀ u ∈ l.map byteV, u.oneCell' = true := by
  intro u hu
  obtain ⟨c, _, rfl⟩ := List.mem_map.1 hu
  exact byteV_one c
theorem below_trans {a b c : World} (h : Below a.heap.size a b) (h' : Below b.heap.size b c) : Below a.heap.size a c := h.trans (h'.mono h.size)
theorem append_text {w : World} {a : Option Addr} {c : Nat} {l : List UInt8} (hr : Row w ty.uint8 1 a l.length c (l.map byteV)) (s : ByteArray) (hl : l.length + s.size ≤ 140737488355328) {f : Value → World → Prop}
    (hf : ∀ a' c' w', Row w' ty.uint8 1 a' (l ++ bl s).length c' ((l ++ bl s).map byteV) → Keeps (fun k => rowB a = some k) w w' → (∀ k, rowB a' = some k → rowB a = some k ∨ w.heap.size ≤ k) → f (.slice a' (l ++ bl s).length c') w') :
    OPR Tryz.prog (Builtin.append_ #[ty.L_uint8, ty.string] ty.L_uint8 #[.slice a l.length c, .string s]) f w := by
  obtain ⟨a', c', w', hrun, hrow, hk, hnew⟩ := append_string (ty := ty.L_uint8) tB (show Tryz.prog.underlying ty.string = some .string by kernel_rfl) zB (by omega) hr s (by omega)
  unfold OPR
  rw [hrun]
  have hlen : (l ++ bl s).length = l.length + s.size := by rw [List.length_append, bl_length]
  rw [← List.map_append, ← hlen] at hrow
  rw [← hlen]
  exact hf a' c' w' hrow hk hnew
/-! ### digits -/
/-! ### Concat -/
end Go.Proofs.YtfgbfodohmeamaaGreatDoor
namespace Go.Proofs
set_option maxRecDepth 100000
open Go.Shelf
def Tryz.lays227_ren : Go.Shelf.Ren := ⟨fun | 227 => 122 | n => n, fun | 9 => 9 | 116 => 182 | 4 => 4 | 0 => 0 | 3 => 3 | 5 => 5 | n => n, fun | n => n⟩
theorem Tryz.lays227 : Go.Proofs.Lays.n227 Tryz.prog Tryz.lays227_ren := {
  mixed := by kernel_rfl
  f227 := Tryz.func122.trans (congrArg some (by kernel_rfl))
  t0 := Tryz.underlying0
  a0 := Tryz.isAgg0
  z0 := Tryz.sizeOf0
  v0 := Tryz.zeroValue0
  t3 := Tryz.underlying3
  a3 := Tryz.isAgg3
  z3 := Tryz.sizeOf3
  v3 := Tryz.zeroValue3
  t4 := Tryz.underlying4
  a4 := Tryz.isAgg4
  z4 := Tryz.sizeOf4
  v4 := Tryz.zeroValue4
  t5 := Tryz.underlying5
  a5 := Tryz.isAgg5
  z5 := Tryz.sizeOf5
  v5 := Tryz.zeroValue5
  t9 := Tryz.underlying9
  a9 := Tryz.isAgg9
  z9 := Tryz.sizeOf9
  v9 := Tryz.zeroValue9
  t116 := Tryz.underlying182
  a116 := Tryz.isAgg182
  z116 := Tryz.sizeOf182 }
open Go.RowKit Go.Lib in
theorem Tryz.strings_makeASCIISet (hv116 : ∀ w, (zeroValue 182).run Tryz.prog w = .ok (.agg (Array.replicate 256 (.bool false))) w) (chars : ByteArray) (w : World) (hs : chars.size < 4294967281) (hascii : ∀ (j : Nat) b, chars.data.toList[j]? = some b → b.toNat < 128) :
    Calls Tryz.prog 122 #[.string chars] w fun e w' => e = .returned (.tuple #[.agg (Lib.setCells chars.data.toList), .bool true]) ∧ w' = w.alloc (.cells (Lib.setCells chars.data.toList) 182) := Any.strings_makeASCIISet Tryz.lays227 hv116 (by kernel_rfl) chars w hs hascii
def Tryz.lays228_ren : Go.Shelf.Ren := ⟨fun | 228 => 149 | n => n, fun | 124 => 186 | 5 => 5 | 4 => 4 | 0 => 0 | 116 => 182 | n => n, fun | n => n⟩
theorem Tryz.lays228 : Go.Proofs.Lays.n228 Tryz.prog Tryz.lays228_ren := {
  mixed := by kernel_rfl
  f228 := Tryz.func149.trans (congrArg some (by kernel_rfl))
  t0 := Tryz.underlying0
  a0 := Tryz.isAgg0
  z0 := Tryz.sizeOf0
  v0 := Tryz.zeroValue0
  t4 := Tryz.underlying4
  a4 := Tryz.isAgg4
  z4 := Tryz.sizeOf4
  v4 := Tryz.zeroValue4
  t5 := Tryz.underlying5
  a5 := Tryz.isAgg5
  z5 := Tryz.sizeOf5
  v5 := Tryz.zeroValue5
  t116 := Tryz.underlying182
  a116 := Tryz.isAgg182
  z116 := Tryz.sizeOf182
  t124 := Tryz.underlying186
  a124 := Tryz.isAgg186
  z124 := Tryz.sizeOf186
  v124 := Tryz.zeroValue186 }
open Go.RowKit Go.Lib in
theorem Tryz.asciiSet_contains (b : Nat) (x : UInt8) (v : Bool) (w : World) (hc : w.cell? ⟨b, x.toNat, none⟩ = some (.bool v)) :
    Calls Tryz.prog 149 #[.pointer (some ⟨b, 0, none⟩), .int .u8 x.toNat] w fun e w' => e = .returned (.bool v) ∧ w' = w := Any.asciiSet_contains Tryz.lays228 b x v w hc
end Go.Proofs
namespace Go.Proofs.YtfgbfodohmeamaaGreatDoor
set_option maxRecDepth 100000
open Go.Dn Go.Proofs
open Go.RowKit (Below)
set_option linter.unusedVariables false
theorem trimRight_ok (mem : UInt8 → Bool) {w : World} {b : Nat} (hc : ∀ x : UInt8, w.cell? ⟨b, x.toNat, none⟩ = some (.bool (mem x))) (s : ByteArray) (hs : s.size ≤ 9223372036854775807) :
    Calls Tryz.prog f.strings_trimRightASCII #[.string s, .pointer (some ⟨b, 0, none⟩)] w (Ret fun r w' => ∃ l m, r = .string (sof l) ∧ bl s = l ++ m ∧ m.all mem = true ∧ (l = [] ∨ ∃ p c, l = p ++ [c] ∧ mem c = false) ∧ w' = w) := by
  apply R.strings_trimRightASCII_calls
  unfold R.strings_trimRightASCII
  refine ⟨fun st w' => ∃ l m, st = [.string (sof l)] ∧ bl s = l ++ m ∧ m.all mem = true ∧ w' = w, fun st _ => match st with | [.string t] => t.size | _ => 0, ⟨bl s, [], by rw [sof_bl], by simp, rfl, rfl⟩, ?_⟩
  rintro t w1 ⟨l, m, hst, hl, hm, rfl⟩
  have ht : t = sof l := by simpa using hst
  subst ht
  rw [size_sof]
  have hlen : l.length ≤ 9223372036854775807 := by
    have := congrArg List.length hl
    rw [bl_length, List.length_append] at this
    omega
  refine IFB_dec (fun h => ?_) (fun h => ?_)
  · have hne : l ≠ [] := by intro h2; subst h2; simp at h
    obtain ⟨p, c, rfl⟩ : ∃ p c, l = p ++ [c] := ⟨l.dropLast, l.getLast hne, (List.dropLast_concat_getLast hne).symm⟩
    simp only [List.length_append, List.length_cons, List.length_nil] at h hlen ⊢
    have e1 : IntKind.i64.wrap (((p.length + (0 + 1) : Nat) : Int) - 1) = (p.length : Int) := by rw [wrap_i64 (by omega) (by omega)]; omega
    rw [e1, Int.toNat_natCast, sget_eq, bl_sof, show (p ++ [c]).getD p.length 0 = c by simp]
    refine ⟨⟨by omega, by omega⟩, (Tryz.asciiSet_contains b c (mem c) w1 (hc c)).mono ?_⟩
    rintro _ w2 ⟨rfl, rfl⟩
    refine ⟨_, rfl, IFB_of (fun h2 => ?_) (fun h2 => ?_)⟩
    · exact ⟨p ++ [c], m, rfl, hl, hm, .inr ⟨p, c, rfl, by simpa using h2⟩, rfl⟩
    · have hmc : mem c = true := by simpa using h2
      have e2 : ByteArray.extract (sof (p ++ [c])) 0 p.length = sof p := by
        rw [extract_eq, bl_sof]
        simp
      refine ⟨⟨by omega, by omega, by omega⟩, ?_⟩
      rw [e2]
      exact ⟨⟨p, c :: m, rfl, by rw [hl]; simp, by simp [hmc, hm], rfl⟩, by show (sof p).size < (sof (p ++ [c])).size; rw [size_sof, size_sof]; simp⟩
  · have : l = [] := List.eq_nil_of_length_eq_zero (by omega)
    exact ⟨l, m, rfl, hl, hm, .inl this, rfl⟩
theorem trimLeft_ok (mem : UInt8 → Bool) {w : World} {b : Nat} (hc : ∀ x : UInt8, w.cell? ⟨b, x.toNat, none⟩ = some (.bool (mem x))) (s : ByteArray) :
    Calls Tryz.prog f.strings_trimLeftASCII #[.string s, .pointer (some ⟨b, 0, none⟩)] w (Ret fun r w' => ∃ l m, r = .string (sof l) ∧ bl s = m ++ l ∧ m.all mem = true ∧ (l = [] ∨ ∃ c p, l = c :: p ∧ mem c = false) ∧ w' = w) := by
  apply R.strings_trimLeftASCII_calls
  unfold R.strings_trimLeftASCII
  refine ⟨fun st w' => ∃ l m, st = [.string (sof l)] ∧ bl s = m ++ l ∧ m.all mem = true ∧ w' = w, fun st _ => match st with | [.string t] => t.size | _ => 0, ⟨bl s, [], by rw [sof_bl], by simp, rfl, rfl⟩, ?_⟩
  rintro t w1 ⟨l, m, hst, hl, hm, rfl⟩
  have ht : t = sof l := by simpa using hst
  subst ht
  rw [size_sof]
  refine IFB_dec (fun h => ?_) (fun h => ?_)
  · cases l with
    | nil => simp at h
    | cons c p =>
      simp only [List.length_cons] at h ⊢
      rw [sget_eq, bl_sof, show (c :: p).getD 0 0 = c by rfl]
      refine ⟨⟨by omega, by omega⟩, (Tryz.asciiSet_contains b c (mem c) w1 (hc c)).mono ?_⟩
      rintro _ w2 ⟨rfl, rfl⟩
      refine ⟨_, rfl, IFB_of (fun h2 => ?_) (fun h2 => ?_)⟩
      · exact ⟨c :: p, m, rfl, hl, hm, .inr ⟨c, p, rfl, by simpa using h2⟩, rfl⟩
      · have hmc : mem c = true := by simpa using h2
        have e2 : ByteArray.extract (sof (c :: p)) 1 (p.length + 1) = sof p := by
          rw [extract_eq, bl_sof]
          simp
        refine ⟨⟨by omega, by omega, by omega⟩, ?_⟩
        rw [e2]
        exact ⟨⟨p, m ++ [c], rfl, by rw [hl]; simp, by simp [hmc, hm], rfl⟩, by show (sof p).size < (sof (c :: p)).size; rw [size_sof, size_sof]; simp⟩
  · have : l = [] := List.eq_nil_of_length_eq_zero (by omega)
    exact ⟨l, m, rfl, hl, hm, .inl this, rfl⟩
end Go.Proofs.YtfgbfodohmeamaaGreatDoor
namespace Go.Dn
set_option maxRecDepth 100000
open Go.RowKit (Below)
def splice : Array Value → Nat → List Value → Array Value
  | cs, _, [] => cs
  | cs, i, v :: vs => splice (cs.setIfInBounds i v) (i + 1) vs
theorem splice_toList : ∀ (vs : List Value) (cs : Array Value) (i : Nat), i + vs.length ≤ cs.size → (splice cs i vs).toList = cs.toList.take i ++ vs ++ cs.toList.drop (i + vs.length)
  | [], cs, i, _ => by simp [splice]
  | v :: vs, cs, i, h => by
    simp only [List.length_cons] at h
    rw [splice, splice_toList vs _ _ (by simp; omega)]
    apply List.ext_getElem?
    intro j
    simp only [Array.toList_setIfInBounds, List.length_cons, List.getElem?_append, List.length_append, List.length_take, List.length_set, Array.length_toList, List.getElem?_take, List.getElem?_drop]
    grind
theorem splice_all (vs : List Value) (cs : Array Value) (h : vs.length = cs.size) : splice cs 0 vs = ⟨vs⟩ := by
  apply Array.ext'
  rw [splice_toList vs cs 0 (by omega)]
  simp [h]
theorem STOREC_blk : ∀ (vs : List Value) {w : World} {b : Nat} {cs : Array Value} {t : TypeId} {i : Nat} {k : World → Prop}, w.heap[b]? = some (.cells cs t (0, 0)) → i + vs.length ≤ cs.size → (∀ v ∈ vs, v.oneCell' = true) →
    (∀ w', Keeps (· = b) w w' → w'.heap[b]? = some (.cells (splice cs i vs) t (0, 0)) → k w') → STOREC vs ⟨b, 0, none⟩ i k w
  | [], w, _, _, _, _, _, hb, _, _, hk => hk w (.refl _ w) hb
  | v :: vs, w, b, cs, t, i, k, hb, hi, h1, hk => by
    simp only [List.length_cons] at hi
    unfold STOREC
    rw [h1 v (by simp), addr_add_blk, Nat.zero_add]
    exact sto_blk hb (by omega) fun w1 K1 hb1 => STOREC_blk vs hb1 (by simp; omega) (fun x hx => h1 x (by simp [hx])) fun w2 K2 hb2 => hk w2 (K1.trans K2 (fun _ _ h => h)) hb2
theorem SH.stoAll {F : Nat → Prop} {w0 w : World} {H : List Ent} (S : SH F w0 w H) (n : Nat) {b : Nat} {cs : Array Value} {t : TypeId} (hn : H[n]? = some (b, cs, t)) {vs : List Value} (hl : vs.length = cs.size) (h1 : ∀ v ∈ vs, v.oneCell' = true)
    {k : World → Prop} (hk : ∀ w', Keeps (· = b) w w' → SH F w0 w' (H.set n (b, ⟨vs⟩, t)) → k w') : STOREC vs ⟨b, 0, none⟩ 0 k w :=
  STOREC_blk vs (S.get n hn) (by omega) h1 fun w' K hb => hk w' K (S.setAt n hn K (by rw [splice_all vs cs hl] at hb; exact hb))
end Go.Dn
namespace Go.Proofs.YtfgbfodohmeamaaGreatDoor
set_option maxRecDepth 100000
open Go.Dn Go.Proofs
open Go.RowKit (Below)
set_option linter.unusedVariables false
theorem BIF_len {vs : List Value} {n : Nat} {X : Prop} (h : vs.length = n) (hx : X) : bif (Nat.beq (List.length vs) n && true) then X else False := by
  subst h
  rw [Nat.beq_refl]
  exact hx
theorem LIKEL_bools : ∀ (us : List Bool) {n : Nat} {f : List Value → Prop}, us.length = n → f (us.map .bool) → LIKEL (List.replicate n (.bool false)) f
  | [], _, _, hn, h => by subst hn; exact h
  | u :: us, _, _, hn, h => by subst hn; exact ⟨u, LIKEL_bools us rfl h⟩
def setB (l : List UInt8) : List Bool := (List.range 256).map fun j => l.contains (UInt8.ofNat j)
theorem setB_cells (l : List UInt8) : Lib.setCells l = ⟨(setB l).map .bool⟩ := by
  rw [Lib.setCells_eq]
  apply Array.ext'
  simp [setB, List.map_map, Function.comp_def]
theorem strings_Trim_ok (s cut : ByteArray) (hs : s.size ≤ 9223372036854775807) (h2 : 2 ≤ cut.size) (hz : cut.size < 4294967281) (ha : ∀ (j : Nat) b, cut.data.toList[j]? = some b → b.toNat < 128) (w : World) :
    Calls Tryz.prog f.strings_Trim #[.string s, .string cut] w (Ret fun r w' => ∃ q, r = .string q ∧ (q = ⟨#[]⟩ ↔ (bl s).all (bl cut).contains = true) ∧ Below w.heap.size w w') := by
  apply R.strings_Trim_calls
  unfold R.strings_Trim
  have he : ∀ x : ByteArray, bytesEq x ⟨#[]⟩ = true → x = ⟨#[]⟩ := fun x h => by rw [bytesEq_iff] at h; simpa using h
  refine IFB_of (fun h => ?_) (fun h0 => IFB_of (fun h => ?_) (fun h1 => ?_))
  · have := he s h
    subst this
    exact ⟨_, rfl, by simp [bl], .refl _ _⟩
  · have := he cut h
    subst this
    exact absurd h2 (by decide)
  · refine ⟨fun st w' => st = [.bool false] ∧ w' = w, IFB_eq (fun h => by omega) (fun _ => ⟨rfl, rfl⟩), ?_⟩
    rintro t w1 ⟨ht, rfl⟩
    have : t = false := by simpa using ht
    subst this
    refine IFB_false ((Tryz.strings_makeASCIISet (fun _ => by kernel_rfl) cut w1 hz ha).mono ?_)
    rintro _ w5 ⟨rfl, rfl⟩
    rw [setB_cells]
    have hbl : (setB cut.data.toList).length = 256 := by simp [setB]
    refine LIKEL_bools (setB cut.data.toList) hbl ⟨true, rfl, ?_⟩
    have B0 : Below w1.heap.size w1 (w1.alloc (.cells ⟨(setB cut.data.toList).map .bool⟩ 182)) := (Below.refl _ w1).alloc (Nat.le_refl _) _
    have S0 := (SH.start (fun _ => False) w1).grown B0
    have h1 : ∀ v ∈ (setB cut.data.toList).map Value.bool, v.oneCell' = true := by
      intro v hv
      obtain ⟨u, _, rfl⟩ := List.mem_map.1 hv
      rfl
    have hl2 : ((setB cut.data.toList).map Value.bool).length = 256 := by rw [List.length_map]; exact hbl
    refine S0.newB fun b12 w6 _ _ S => BIF_len hl2 (S.stoAll 0 rfl hl2 h1 fun w7 _ S => IFB_true ?_)
    have hc : ∀ x : UInt8, w7.cell? ⟨b12, x.toNat, none⟩ = some (.bool ((bl cut).contains x)) := fun x => S.cell 0 rfl (by
      rw [← setB_cells]
      exact Lib.setCells_at _ _)
    refine (trimRight_ok (bl cut).contains hc s hs).mono ?_
    rintro _ w8 ⟨_, rfl, l, m, rfl, hl, hm, hlast, rfl⟩
    refine ⟨_, rfl, (trimLeft_ok (bl cut).contains hc (sof l)).mono ?_⟩
    rintro _ w9 ⟨_, rfl, q, p, rfl, hq, hp, hfirst, rfl⟩
    refine ⟨_, rfl, _, rfl, ?_, S.below⟩
    rw [bl_sof] at hq
    rw [hl, hq, List.all_append, List.all_append, hm, hp]
    rcases hfirst with rfl | ⟨c, r, rfl, hcf⟩
    · simp [sof]
    · simp [sof]
      intro hcc
      simp_all
end Go.Proofs.YtfgbfodohmeamaaGreatDoor
namespace Go.Proofs
set_option maxRecDepth 100000
open Go.RowKit Go.Maps Go.Sort Go.Shelf
def Tryz.keys54_ren : Go.Shelf.Ren := ⟨fun | 7 => 54 | 10 => 95 | n => n, fun | 23 => 101 | 26 => 9 | 3 => 106 | 28 => 123 | 0 => 0 | 27 => 122 | 33 => 149 | 4 => 4 | n => n, fun | n => n⟩
theorem Tryz.keys54 : Go.Proofs.SlLaysZ.n7 Tryz.prog Tryz.keys54_ren := {
  mixed := by kernel_rfl
  f7 := ⟨Tryz.f54.name, by decide, Tryz.func54.trans (congrArg some (by kernel_rfl))⟩
  f10 := ⟨Tryz.f95.name, by decide, Tryz.func95.trans (congrArg some (by kernel_rfl))⟩
  t0 := Tryz.underlying0
  a0 := Tryz.isAgg0
  z0 := Tryz.sizeOf0
  v0 := Tryz.zeroValue0
  t4 := Tryz.underlying4
  a4 := Tryz.isAgg4
  z4 := Tryz.sizeOf4
  v4 := Tryz.zeroValue4
  t23 := Tryz.underlying101
  a23 := Tryz.isAgg101
  z23 := Tryz.sizeOf101
  v23 := Tryz.zeroValue101
  t26 := Tryz.underlying9
  a26 := Tryz.isAgg9
  z26 := Tryz.sizeOf9
  v26 := Tryz.zeroValue9
  t27 := Tryz.underlying122
  a27 := Tryz.isAgg122
  z27 := Tryz.sizeOf122
  v27 := Tryz.zeroValue122
  t28 := Tryz.underlying123
  a28 := Tryz.isAgg123
  z28 := Tryz.sizeOf123
  v28 := Tryz.zeroValue123
  t33 := Tryz.underlying149
  a33 := Tryz.isAgg149
  z33 := Tryz.sizeOf149
  v33 := Tryz.zeroValue149 }
def Tryz.sorted53_ren : Go.Shelf.Ren := ⟨fun | 6 => 53 | 8 => 93 | 9 => 94 | 11 => 127 | 13 => 119 | 12 => 128 | 23 => 147 | 24 => 148 | 14 => 153 | 15 => 154 | 16 => 155 | 17 => 156 | 18 => 157 | 19 => 158 | 20 => 159 | 21 => 160 | 22 => 161 | 25 => 172 | 26 => 165 | 27 => 166 | 28 => 173 | 29 => 174 | 30 => 175 | 31 => 181 | n => n, fun | 26 => 9 | 28 => 123 | 24 => 30 | 0 => 0 | 3 => 3 | 37 => 179 | 48 => 159 | 50 => 164 | 4 => 4 | 40 => 200 | 39 => 199 | 45 => 204 | 5 => 5 | 9 => 9 | 51 => 222 | 55 => 226 | 57 => 231 | 58 => 232 | 33 => 149 | n => n, fun | n => n⟩
theorem Tryz.sorted53 : Go.Proofs.SlLaysZ.n6 Tryz.prog Tryz.sorted53_ren := {
  mixed := by kernel_rfl
  f6 := ⟨Tryz.f53.name, by decide, Tryz.func53.trans (congrArg some (by kernel_rfl))⟩
  f8 := ⟨Tryz.f93.name, by decide, Tryz.func93.trans (congrArg some (by kernel_rfl))⟩
  f11 := ⟨Tryz.f127.name, by decide, Tryz.func127.trans (congrArg some (by kernel_rfl))⟩
  t0 := Tryz.underlying0
  a0 := Tryz.isAgg0
  z0 := Tryz.sizeOf0
  v0 := Tryz.zeroValue0
  t24 := Tryz.underlying30
  a24 := Tryz.isAgg30
  z24 := Tryz.sizeOf30
  v24 := Tryz.zeroValue30
  t26 := Tryz.underlying9
  a26 := Tryz.isAgg9
  z26 := Tryz.sizeOf9
  v26 := Tryz.zeroValue9
  t28 := Tryz.underlying123
  a28 := Tryz.isAgg123
  z28 := Tryz.sizeOf123
  v28 := Tryz.zeroValue123
  i26 := by kernel_rfl }
def Tryz.sort94_ren : Go.Shelf.Ren := ⟨fun | 6 => 94 | 8 => 119 | 9 => 128 | 19 => 147 | 20 => 148 | 21 => 153 | 22 => 154 | 23 => 155 | 24 => 156 | 25 => 157 | 26 => 158 | 27 => 159 | 28 => 160 | 29 => 161 | 36 => 172 | 31 => 165 | 32 => 166 | 37 => 173 | 38 => 174 | 39 => 175 | 41 => 181 | n => n, fun | 27 => 30 | 29 => 9 | 3 => 3 | 32 => 179 | 26 => 30 | 0 => 0 | 44 => 159 | 46 => 164 | 4 => 4 | 36 => 200 | 35 => 199 | 41 => 204 | 5 => 5 | 9 => 9 | 53 => 222 | 57 => 226 | 63 => 231 | 64 => 232 | n => n, fun | n => n⟩
theorem Tryz.sort94 : Go.Proofs.SlLaysM.n6 Tryz.prog Tryz.sort94_ren := {
  mixed := by kernel_rfl
  f6 := ⟨Tryz.f94.name, by decide, Tryz.func94.trans (congrArg some (by kernel_rfl))⟩
  f8 := Tryz.func119.trans (congrArg some (by kernel_rfl))
  f9 := ⟨Tryz.f128.name, by decide, Tryz.func128.trans (congrArg some (by kernel_rfl))⟩
  f19 := Tryz.func147.trans (congrArg some (by kernel_rfl))
  f20 := Tryz.func148.trans (congrArg some (by kernel_rfl))
  f21 := ⟨Tryz.f153.name, by decide, Tryz.func153.trans (congrArg some (by kernel_rfl))⟩
  f22 := ⟨Tryz.f154.name, by decide, Tryz.func154.trans (congrArg some (by kernel_rfl))⟩
  f23 := ⟨Tryz.f155.name, by decide, Tryz.func155.trans (congrArg some (by kernel_rfl))⟩
  f24 := ⟨Tryz.f156.name, by decide, Tryz.func156.trans (congrArg some (by kernel_rfl))⟩
  f25 := ⟨Tryz.f157.name, by decide, Tryz.func157.trans (congrArg some (by kernel_rfl))⟩
  f26 := ⟨Tryz.f158.name, by decide, Tryz.func158.trans (congrArg some (by kernel_rfl))⟩
  f27 := ⟨Tryz.f159.name, by decide, Tryz.func159.trans (congrArg some (by kernel_rfl))⟩
  f28 := ⟨Tryz.f160.name, by decide, Tryz.func160.trans (congrArg some (by kernel_rfl))⟩
  f29 := ⟨Tryz.f161.name, by decide, Tryz.func161.trans (congrArg some (by kernel_rfl))⟩
  f31 := Tryz.func165.trans (congrArg some (by kernel_rfl))
  f32 := Tryz.func166.trans (congrArg some (by kernel_rfl))
  f36 := ⟨Tryz.f172.name, by decide, Tryz.func172.trans (congrArg some (by kernel_rfl))⟩
  f37 := ⟨Tryz.f173.name, by decide, Tryz.func173.trans (congrArg some (by kernel_rfl))⟩
  f38 := ⟨Tryz.f174.name, by decide, Tryz.func174.trans (congrArg some (by kernel_rfl))⟩
  f39 := ⟨Tryz.f175.name, by decide, Tryz.func175.trans (congrArg some (by kernel_rfl))⟩
  f41 := ⟨Tryz.f181.name, by decide, Tryz.func181.trans (congrArg some (by kernel_rfl))⟩
  t0 := Tryz.underlying0
  a0 := Tryz.isAgg0
  z0 := Tryz.sizeOf0
  v0 := Tryz.zeroValue0
  t3 := Tryz.underlying3
  a3 := Tryz.isAgg3
  z3 := Tryz.sizeOf3
  v3 := Tryz.zeroValue3
  t4 := Tryz.underlying4
  a4 := Tryz.isAgg4
  z4 := Tryz.sizeOf4
  v4 := Tryz.zeroValue4
  t5 := Tryz.underlying5
  a5 := Tryz.isAgg5
  z5 := Tryz.sizeOf5
  v5 := Tryz.zeroValue5
  t9 := Tryz.underlying9
  a9 := Tryz.isAgg9
  z9 := Tryz.sizeOf9
  v9 := Tryz.zeroValue9
  t26 := Tryz.underlying30
  a26 := Tryz.isAgg30
  z26 := Tryz.sizeOf30
  v26 := Tryz.zeroValue30
  t27 := Tryz.underlying30
  a27 := Tryz.isAgg30
  z27 := Tryz.sizeOf30
  v27 := Tryz.zeroValue30
  t29 := Tryz.underlying9
  a29 := Tryz.isAgg9
  z29 := Tryz.sizeOf9
  v29 := Tryz.zeroValue9
  t32 := Tryz.underlying179
  a32 := Tryz.isAgg179
  z32 := Tryz.sizeOf179
  v32 := Tryz.zeroValue179
  t35 := Tryz.underlying199
  a35 := Tryz.isAgg199
  z35 := Tryz.sizeOf199
  v35 := Tryz.zeroValue199
  t36 := Tryz.underlying200
  a36 := Tryz.isAgg200
  z36 := Tryz.sizeOf200
  v36 := Tryz.zeroValue200
  t41 := Tryz.underlying204
  a41 := Tryz.isAgg204
  z41 := Tryz.sizeOf204
  v41 := Tryz.zeroValue204
  t44 := Tryz.underlying159
  a44 := Tryz.isAgg159
  z44 := Tryz.sizeOf159
  v44 := Tryz.zeroValue159
  t46 := Tryz.underlying164
  a46 := Tryz.isAgg164
  z46 := Tryz.sizeOf164
  v46 := Tryz.zeroValue164
  t53 := Tryz.underlying222
  a53 := Tryz.isAgg222
  z53 := Tryz.sizeOf222
  v53 := Tryz.zeroValue222
  t57 := Tryz.underlying226
  a57 := Tryz.isAgg226
  z57 := Tryz.sizeOf226
  v57 := Tryz.zeroValue226
  t63 := Tryz.underlying231
  a63 := Tryz.isAgg231
  z63 := Tryz.sizeOf231
  v63 := Tryz.zeroValue231
  t64 := Tryz.underlying232
  a64 := Tryz.isAgg232
  z64 := Tryz.sizeOf232
  v64 := Tryz.zeroValue232 }
theorem Tryz.sorts53 (m : Nat) : AnyZ.SortsIn Tryz.prog Tryz.sorted53_ren Fence.wide m :=
  ⟨fun blk off cap ss W hH hblk hsz => callsIn_wide.2 (AnyM.slices_Sort_string Tryz.sort94 blk off cap ss W hH hblk hsz),
   fun p cap W => callsIn_wide.2 (AnyM.slices_Sort_string_none Tryz.sort94 p cap W)⟩
theorem Tryz.maps_Keys_54 (mb : Option Nat) (W : World) : CallsIn Fence.wide 5 Tryz.prog 54 #[.map mb] W fun e w' => e = .returned (.func (.func 95) #[] #[.pointer (some ⟨W.heap.size, 0, none⟩)]) ∧ w' = W.alloc (.cells #[.map mb] 101) :=
  AnyZ.keys_in Tryz.keys54 Fence.wide 5 trivial rfl mb W
set_option maxHeartbeats 1000000 in
theorem Tryz.slices_Sorted_keys_53_54 {H : Type} (b nn : Nat) (D0 : DataW H) (R : Value → Option (DataW H × List MemPlace)) (w : World) (hown : w.ownsMap Tryz.prog 9 R b nn D0) (hmax : Maps.size D0 ≤ maxLen) (hbytes : Maps.size D0 * 16 ≤ 140737488355328) :
    CallsIn Fence.wide 5 Tryz.prog 53 #[.func (.func 95) #[] #[.pointer (some ⟨w.heap.size, 0, none⟩)]] (w.alloc (.cells #[.map (some b)] 101)) fun e w' => ∃ (v : Value) (ss : List (List UInt8)), e = .returned v ∧ ss.Perm (strKeys D0) ∧
      w'.ownsRow (w.alloc (.cells #[.map (some b)] 101)).heap.size 9 1 v ss.length ((ss.mergeSort (fun x y => decide (x ≤ y))).map encStr) ∧ (v = .slice none 0 0 ↔ ss = []) ∧ Below (w.alloc (.cells #[.map (some b)] 101)).heap.size (w.alloc (.cells #[.map (some b)] 101)) w' := by
  have hbl := hown.lt
  have hseq : SeqGives Fence.wide 2 Tryz.prog 95 #[.pointer (some ⟨w.heap.size, 0, none⟩)] encStr (fun ss => ss.Perm (strKeys D0)) (Maps.size D0) (w.alloc (.cells #[.map (some b)] 101)) :=
    AnyZ.keys_gives (ρ := Tryz.keys54_ren) { Tryz.keys54 with } Fence.wide _ trivial rfl (by omega) w.heap.size b nn D0 _ (by simp) (by simp) (by
      obtain ⟨es, clock, hb, Ft, hs, hD⟩ := hown
      exact ⟨es, clock, (Below.heap_alloc _ _ b hbl).trans hb, Ft, hs, hD⟩)
  exact AnyZ.sorted_in Tryz.sorted53 Fence.wide 5 trivial trivial trivial trivial rfl (by omega) (Tryz.sorts53 _) (enters_of Tryz.func94 (by kernel_rfl) rfl) 95 #[.pointer (some ⟨w.heap.size, 0, none⟩)] trivial (enters_of Tryz.func95 (by kernel_rfl) rfl) _ _ hmax hbytes _ hseq
end Go.Proofs
namespace Go.Dn
set_option maxRecDepth 100000
open Go.RowKit (Below)
open Go.Maps (has Tidy Keyed)
theorem Keeps.of_grownBy {w w' : World} {b : Nat} (h : w.grownBy w' (some b)) : Keeps (· = b) w w' :=
  ⟨h.os, h.tape, h.output, h.size, fun k hk hn => h.block k hk (fun e => hn (Option.some.inj e))⟩
section
variable {P : Program} {k e t : TypeId} {q : IntKind} {w : World} {b n : Nat} {g : List UInt8 → Option Int}
end
end Go.Dn
namespace Go.Proofs.YtfgbfodohmeamaaGreatDoor
set_option maxRecDepth 100000
open Go.Dn Go.Proofs
open Go.RowKit (Below)
set_option linter.unusedVariables false
theorem row_of_owns {w : World} {base : Nat} {e : TypeId} {v : Value} {n : Nat} {xs : List Value} (h : w.ownsRow base e 1 v n xs) : ∃ a c, v = .slice a n c ∧ Row w e 1 a n c xs ∧ ∀ k, rowB a = some k → base ≤ k := by
  obtain ⟨hl, ⟨rfl, rfl⟩ | ⟨g, cap, cur, rfl, hb, hg, h1, h2, h3, h4⟩⟩ := h
  · exact ⟨none, 0, rfl, ⟨hl, .inl ⟨rfl, rfl, rfl⟩⟩, by simp [rowB]⟩
  · refine ⟨_, cap, rfl, ⟨hl, .inr ⟨g, cur, rfl, hg, h1, ?_, h3, h4⟩⟩, fun k hk => ?_⟩
    · exact Nat.le_trans h2 (by decide)
    · cases hk; exact hb
structure IsRise (ls t : List (List UInt8)) : Prop where
  up : t.Pairwise (· < ·)
  mem : ∀ x, x ∈ t ↔ x ∈ ls
theorem lt_nodup {t : List (List UInt8)} (h : t.Pairwise (· < ·)) : t.Nodup := h.imp fun {a b} hab e => by subst e; exact List.lt_irrefl _ hab
theorem IsRise.one {ls t u : List (List UInt8)} (h : IsRise ls t) (h' : IsRise ls u) : t = u := by
  have hp : t.Perm u := (List.perm_ext_iff_of_nodup (lt_nodup h.up) (lt_nodup h'.up)).2 fun x => (h.mem x).trans (h'.mem x).symm
  exact List.Perm.eq_of_pairwise (le := fun a b => a < b) (fun a b _ _ h1 h2 => absurd h2 (List.lt_asymm h1)) h.up h'.up hp
theorem rise_sort {ls ss : List (List UInt8)} (hnd : ss.Nodup) (hm : ∀ x, x ∈ ss ↔ x ∈ ls) : IsRise ls (ss.mergeSort (fun x y => decide (x ≤ y))) := by
  have tr : ∀ a b c : List UInt8, leB a b = true → leB b c = true → leB a c = true := fun a b c h1 h2 => by simp only [leB, decide_eq_true_eq] at *; exact List.le_trans h1 h2
  have to : ∀ a b : List UInt8, (leB a b || leB b a) = true := fun a b => by simp only [leB, Bool.or_eq_true, decide_eq_true_eq]; exact List.le_total a b
  have hs := List.pairwise_mergeSort tr to ss
  have hp := List.mergeSort_perm ss leB
  have hn : (ss.mergeSort leB).Nodup := hp.nodup_iff.2 hnd
  refine ⟨?_, fun x => (hp.mem_iff).trans (hm x)⟩
  refine (hs.and hn).imp fun {a b} ⟨h1, h2⟩ => ?_
  simp only [leB, decide_eq_true_eq] at h1
  rcases Decidable.em (a < b) with h | h
  · exact h
  · exact absurd (List.le_antisymm h1 (List.not_lt.1 h)) h2
theorem und_str : Tryz.prog.underlying ty.string = some .string := by kernel_rfl
end Go.Proofs.YtfgbfodohmeamaaGreatDoor
namespace Go.Dn
set_option maxRecDepth 100000
open Go.RowKit (Below)
open Go.Maps (has Tidy Keyed)
section
variable {P : Program} {k e t : TypeId} {w : World} {b n : Nat} {g : List UInt8 → Bool}
end
end Go.Dn
namespace Go.Dn
set_option maxRecDepth 100000
open Go.RowKit (Below)
structure It where
  blk : Option Nat
  ok : World → Prop
  st : ∀ w w', (∀ k, blk = some k → w'.heap[k]? = w.heap[k]?) → ok w → ok w'
  lt : ∀ w, ok w → ∀ k, blk = some k → k < w.heap.size
def It.obj (b : Nat) (o : Obj) : It where
  blk := some b
  ok := fun w => w.heap[b]? = some o
  st := fun w w' h h0 => (h b rfl).trans h0
  lt := fun w h k hk => by cases hk; exact (Array.getElem?_eq_some_iff.1 h).1
def It.cells (b : Nat) (cs : Array Value) (t : TypeId) : It := It.obj b (.cells cs t (0, 0))
def It.row (e : TypeId) (sz : Nat) (a : Option Addr) (n c : Nat) (xs : List Value) : It where
  blk := rowB a
  ok := fun w => Row w e sz a n c xs
  st := fun w w' h h0 => by
    refine ⟨h0.1, ?_⟩
    rcases h0.2 with h1 | ⟨g, cur, rfl, hg, r⟩
    · exact .inl h1
    · exact .inr ⟨g, cur, rfl, (h g rfl).trans hg, r⟩
  lt := fun w h k hk => h.lt hk
structure ST (w0 w : World) (H : List It) : Prop where
  bel : Below w0.heap.size w0 w
  ok : ∀ x ∈ H, x.ok w
  nd : H.Pairwise (fun x y => ∀ k, x.blk = some k → y.blk ≠ some k)
  own : ∀ x ∈ H, ∀ k, x.blk = some k → w0.heap.size ≤ k
section
variable {w0 w : World} {H : List It}
theorem ST.start (w : World) : ST w w [] := ⟨.refl _ _, by simp, by simp, by simp⟩
theorem ST.get (S : ST w0 w H) (n : Nat) {x : It} (hn : H[n]? = some x) : x.ok w := S.ok x (List.mem_of_getElem? hn)
theorem ST.grown (S : ST w0 w H) {w' : World} (h : Below w.heap.size w w') : ST w0 w' H where
  bel := S.bel.trans (h.mono S.bel.size)
  ok := fun x hx => x.st w w' (fun k hk => h.block k (x.lt w (S.ok x hx) k hk)) (S.ok x hx)
  nd := S.nd
  own := S.own
theorem ST.add (S : ST w0 w H) {w' : World} (h : Below w.heap.size w w') (y : It) (hy : y.ok w') (hb : ∀ k, y.blk = some k → w.heap.size ≤ k) : ST w0 w' (y :: H) where
  bel := (S.grown h).bel
  ok := fun x hx => by
    rcases List.mem_cons.1 hx with rfl | hx
    · exact hy
    · exact (S.grown h).ok x hx
  nd := List.pairwise_cons.2 ⟨fun x hx k hk hk' => by have := x.lt w (S.ok x hx) k hk'; have := hb k hk; omega, S.nd⟩
  own := fun x hx k hk => by
    rcases List.mem_cons.1 hx with rfl | hx
    · exact Nat.le_trans S.bel.size (hb k hk)
    · exact S.own x hx k hk
theorem pair_ne {l : List It} (h : l.Pairwise (fun x y => ∀ k, x.blk = some k → y.blk ≠ some k)) {i j : Nat} {x y : It} (hi : l[i]? = some x) (hj : l[j]? = some y) (hne : i ≠ j) {k : Nat} (hk : x.blk = some k) : y.blk ≠ some k := by
  obtain ⟨h1, rfl⟩ := List.getElem?_eq_some_iff.1 hi
  obtain ⟨h2, rfl⟩ := List.getElem?_eq_some_iff.1 hj
  rcases Nat.lt_or_gt_of_ne hne with hlt | hlt
  · exact (List.pairwise_iff_getElem.1 h) i j h1 h2 hlt k hk
  · intro he
    exact (List.pairwise_iff_getElem.1 h) j i h2 h1 hlt k he hk
theorem ST.chg (S : ST w0 w H) (n : Nat) {x : It} (hn : H[n]? = some x) {w' : World} (K : Keeps (fun k => x.blk = some k) w w') (y : It) (hy : y.ok w') (hb : ∀ k, y.blk = some k → x.blk = some k ∨ w.heap.size ≤ k) : ST w0 w' (H.set n y) where
  bel := S.bel.trans (K.below S.bel.size fun k hk h => by have := S.own x (List.mem_of_getElem? hn) k h; omega)
  ok := by
    intro z hz
    obtain ⟨i, hi⟩ := List.mem_iff_getElem?.1 hz
    by_cases hin : n = i
    · subst hin
      rw [List.getElem?_set_self (List.getElem?_eq_some_iff.1 hn).1] at hi
      cases hi
      exact hy
    · rw [List.getElem?_set_ne hin] at hi
      have hz' := S.ok z (List.mem_of_getElem? hi)
      refine z.st w w' (fun k hk => K.block k (z.lt w hz' k hk) ?_) hz'
      exact fun h => pair_ne S.nd hi hn (Ne.symm hin) hk h
  nd := by
    refine List.pairwise_iff_getElem.2 fun i j hi hj hij k hk hk' => ?_
    rw [List.length_set] at hi hj
    have hni := (List.getElem?_eq_some_iff.1 hn).1
    have old : ∀ {i j : Nat} (hi : i < H.length) (hj : j < H.length), i ≠ j → H[i].blk = some k → H[j].blk ≠ some k := fun hi hj hne h => pair_ne S.nd (List.getElem?_eq_getElem hi) (List.getElem?_eq_getElem hj) hne h
    have hx : H[n] = x := (List.getElem?_eq_some_iff.1 hn).2
    have far : ∀ {j : Nat} (hj : j < H.length), j ≠ n → H[j].blk = some k → y.blk ≠ some k := fun {j} hj hne h h' => by
      rcases hb k h' with h2 | h2
      · rw [← hx] at h2
        exact old hni hj (Ne.symm hne) h2 h
      · have := H[j].lt w (S.ok _ (List.getElem_mem hj)) k h
        omega
    by_cases h1 : n = i
    · subst h1
      rw [List.getElem_set_self] at hk
      rw [List.getElem_set_ne (by omega)] at hk'
      exact far hj (by omega) hk' hk
    · rw [List.getElem_set_ne h1] at hk
      by_cases h2 : n = j
      · subst h2
        rw [List.getElem_set_self] at hk'
        exact far hi (by omega) hk hk'
      · rw [List.getElem_set_ne h2] at hk'
        exact old hi hj (by omega) hk hk'
  own := by
    intro z hz k hk
    obtain ⟨i, hi⟩ := List.mem_iff_getElem?.1 hz
    by_cases hin : n = i
    · subst hin
      rw [List.getElem?_set_self (List.getElem?_eq_some_iff.1 hn).1] at hi
      cases hi
      rcases hb k hk with h | h
      · exact S.own x (List.mem_of_getElem? hn) k h
      · exact Nat.le_trans S.bel.size h
    · rw [List.getElem?_set_ne hin] at hi
      exact S.own z (List.mem_of_getElem? hi) k hk
theorem ST.sub (S : ST w0 w H) {H' : List It} (h : H'.Sublist H) : ST w0 w H' := ⟨S.bel, fun x hx => S.ok x (h.subset hx), S.nd.sublist h, fun x hx => S.own x (h.subset hx)⟩
theorem ST.drop (S : ST w0 w H) (n : Nat) : ST w0 w (H.drop n) := S.sub (List.drop_sublist _ _)
theorem ST.perm (S : ST w0 w H) {H' : List It} (h : H.Perm H') : ST w0 w H' :=
  ⟨S.bel, fun x hx => S.ok x (h.mem_iff.2 hx), (h.pairwise_iff (fun h k hk hk' => h k hk' hk)).1 S.nd, fun x hx => S.own x (h.mem_iff.2 hx)⟩
theorem ST.pull (S : ST w0 w H) (n : Nat) {x : It} (hn : H[n]? = some x) : ST w0 w (x :: H.eraseIdx n) where
  bel := S.bel
  ok := fun y hy => by
    rcases List.mem_cons.1 hy with rfl | hy
    · exact S.get n hn
    · exact S.ok y (List.mem_of_mem_eraseIdx hy)
  nd := by
    refine List.pairwise_cons.2 ⟨fun y hy k hk hk' => ?_, S.nd.sublist (List.eraseIdx_sublist ..)⟩
    obtain ⟨i, hi, hne⟩ := List.mem_eraseIdx_iff_getElem?.1 hy
    exact pair_ne S.nd hn hne (Ne.symm hi) hk hk'
  own := fun y hy => by
    rcases List.mem_cons.1 hy with rfl | hy
    · exact S.own _ (List.mem_of_getElem? hn)
    · exact S.own y (List.mem_of_mem_eraseIdx hy)
theorem ST.newB (S : ST w0 w H) {cs : Array Value} {t : TypeId} {k : Nat → World → Prop} (hk : ∀ b w', w.heap.size ≤ b → Below w.heap.size w w' → ST w0 w' (It.cells b cs t :: H) → k b w') : NEWB cs t k w :=
  hk _ _ (Nat.le_refl _) ((Below.refl _ w).alloc (Nat.le_refl _) _) (S.add ((Below.refl _ w).alloc (Nat.le_refl _) _) _ (heap_alloc_new w _) (fun k hk => by cases hk; exact Nat.le_refl _))
theorem ST.draw (S : ST w0 w H) {k : World → Prop} (hk : ∀ w', Below w.heap.size w w' → ST w0 w' H → k w') : DRAW k w := hk _ ((Below.refl _ w).drew) (S.grown ((Below.refl _ w).drew))
theorem ST.cell (S : ST w0 w H) (n : Nat) {b : Nat} {cs : Array Value} {t : TypeId} (hn : H[n]? = some (It.cells b cs t)) {i : Nat} {v : Value} (hv : cs[i]? = some v) : w.cell? ⟨b, i, none⟩ = some v := by
  have : w.heap[b]? = some (.cells cs t (0, 0)) := S.get n hn
  simp [World.cell?, this, hv]
theorem ST.blk (S : ST w0 w H) (n : Nat) {b : Nat} {cs : Array Value} {t : TypeId} (hn : H[n]? = some (It.cells b cs t)) : w.heap[b]? = some (.cells cs t (0, 0)) := S.get n hn
theorem ST.rdc (S : ST w0 w H) (n : Nat) {b : Nat} {cs : Array Value} {t : TypeId} (hn : H[n]? = some (It.cells b cs t)) : Rd w (some ⟨b, 0, none⟩) cs.toList := Rd.of_block0 (S.blk n hn)
theorem ST.rw (S : ST w0 w H) (n : Nat) {e : TypeId} {sz : Nat} {a : Option Addr} {m c : Nat} {xs : List Value} (hn : H[n]? = some (It.row e sz a m c xs)) : Row w e sz a m c xs := S.get n hn
theorem ST.rd (S : ST w0 w H) (n : Nat) {e : TypeId} {sz : Nat} {a : Option Addr} {m c : Nat} {xs : List Value} (hn : H[n]? = some (It.row e sz a m c xs)) : Rd w a xs := (S.rw n hn).rd
theorem ST.sto (S : ST w0 w H) (n : Nat) {b : Nat} {cs cs' : Array Value} {t : TypeId} (hn : H[n]? = some (It.cells b cs t)) {i : Nat} {v : Value} {k : World → Prop} (hi : i < cs.size) (hc : cs.setIfInBounds i v = cs')
    (hk : ∀ w', ST w0 w' (H.set n (It.cells b cs' t)) → k w') : STO ⟨b, i, none⟩ v k w := by
  subst hc
  have hb := S.blk n hn
  refine ⟨by rw [S.cell n hn (Array.getElem?_eq_getElem hi)]; rfl, by simp [World.frozen?, hb], hk _ (S.chg n hn ((keeps_setCell w b i v).mono fun k _ h => by subst h; rfl) _ (heap_setCell_at hb v) (fun k hk => .inl hk))⟩
theorem ST.nil (S : ST w0 w H) (e : TypeId) (sz : Nat) : ST w0 w (It.row e sz none 0 0 [] :: H) := S.add (.refl _ _) _ (Row.nil w e sz) (fun k hk => by cases hk)
theorem ST.app (S : ST w0 w H) (n : Nat) {P : Program} {t ty e : TypeId} {sz bytes : Nat} {z : Value} {a : Option Addr} {m c : Nat} {xs : List Value} (hn : H[n]? = some (It.row e sz a m c xs)) (hT : slT P t = some (e, sz, bytes, z)) (hz : z.cells.size = sz) (hsz : 0 < sz) (hb0 : 0 < bytes)
    {b : Option Addr} {mm mc : Nat} {news : List Value} (hs : Rd w b news) (hl : news.length = mm * sz) (h1 : ∀ u ∈ news, u.oneCell' = true) (hby : (m + mm) * bytes ≤ 140737488355328) {f : Value → World → Prop}
    (hf : ∀ a' c' w', ST w0 w' (H.set n (It.row e sz a' (m + mm) c' (xs ++ news))) → f (.slice a' (m + mm) c') w') : OPR P (Builtin.append_ #[t, t] ty #[.slice a m c, .slice b mm mc]) f w := by
  obtain ⟨a', c', w', hrun, hrow, hk, hnew⟩ := append_row (ty := ty) (mc := mc) hT hz hsz hb0 (S.rw n hn) hs hl h1 hby
  unfold OPR
  rw [hrun]
  exact hf a' c' w' (S.chg n hn hk _ hrow hnew)
theorem ST.range (S : ST w0 w H) (rr : Loop) : ST w0 ((w.alloc (.deferred (some []))).alloc (.loop rr)) (It.obj (w.heap.size + 1) (.loop rr) :: It.obj w.heap.size (.deferred (some [])) :: H) := by
  have B1 : Below w.heap.size w (w.alloc (.deferred (some []))) := (Below.refl _ w).alloc (Nat.le_refl _) _
  have S1 := S.add B1 (It.obj w.heap.size (.deferred (some []))) (heap_alloc_new w _) (fun k hk => by cases hk; exact Nat.le_refl _)
  have S2 := S1.add ((Below.refl _ _).alloc (Nat.le_refl _) (.loop rr)) (It.obj (w.alloc (.deferred (some []))).heap.size (.loop rr)) (heap_alloc_new _ _) (fun k hk => by cases hk; exact Nat.le_refl _)
  rwa [World.size_alloc] at S2
theorem keeps_put (w : World) (l : Nat) (o : Obj) : Keeps (· = l) w (w.putObj l o) := ⟨rfl, rfl, rfl, by simp, fun k _ hn => World.putObj_heap_other hn⟩
theorem ST.put (S : ST w0 w H) (n : Nat) {b : Nat} {o : Obj} (hn : H[n]? = some (It.obj b o)) (o' : Obj) : ST w0 (w.putObj b o') (H.set n (It.obj b o')) :=
  S.chg n hn ((keeps_put w b o').mono fun k _ h => by subst h; rfl) _ (World.putObj_heap_same (Array.getElem?_eq_some_iff.1 (S.get n hn)).1) (fun k hk => .inl hk)
theorem ST.begr (S : ST w0 w H) (n : Nat) {L : Nat} {rr : Loop} (hn : H[n]? = some (It.obj L (.loop rr))) {k : World → Prop} (hk : ∀ w', ST w0 w' (H.set n (It.obj L (.loop { rr with state := .busy }))) → k w') : BEGR rr L k w :=
  ⟨S.get n hn, hk _ (S.put n hn _)⟩
theorem ST.keep {x : It} (S : ST w0 w (x :: H)) (n : Nat) : ST w0 w (x :: H.drop n) := S.sub ((List.drop_sublist n H).cons_cons x)
theorem rr_same {rr : Loop} (h1 : rr.state = .ready) (h2 : rr.pending = none) : ({ rr with state := if (none : Option Code).isNone then .ready else .done, pending := none } : Loop) = rr := by
  cases rr
  simp_all
theorem ST.endr0 (S : ST w0 w H) (n : Nat) {L : Nat} {rr : Loop} (h1 : rr.state = .ready) (h2 : rr.pending = none) (hn : H[n]? = some (It.obj L (.loop { rr with state := .busy }))) {k : Bool → World → Prop} (hk : ∀ w', ST w0 w' (H.set n (It.obj L (.loop rr))) → k true w') : ENDR rr L k none w := by
  refine ⟨S.get n hn, ?_⟩
  have := S.put n hn (.loop { rr with state := if (none : Option Code).isNone then .ready else .done, pending := none })
  rw [rr_same h1 h2] at this ⊢
  exact hk _ this
theorem ST.endl0 (S : ST w0 w H) (n : Nat) {L : Nat} {rr : Loop} (h1 : rr.state = .ready) (h2 : rr.pending = none) (hn : H[n]? = some (It.obj L (.loop rr))) {k : Option Code → World → Prop} (hk : ∀ w', ST w0 w' (H.set n (It.obj L (.loop { rr with state := .exhausted, pending := none }))) → k none w') : ENDL rr L k w :=
  ⟨none, by rw [rr_same h1 h2]; exact S.get n hn, hk _ (S.put n hn _)⟩
end
end Go.Dn
namespace Go.Dn
set_option maxRecDepth 100000
set_option linter.unusedVariables false
open Go.RowKit (Below)
open Go.Maps (has Tidy Keyed)
def ptrE (v : Value) : Option (DataW Unit × List MemPlace) :=
  match v with
  | .pointer none => some (.lit (.int .i64 0), [])
  | .pointer (some ⟨b, 0, none⟩) => some (.lit (.int .i64 ((b : Int) + 1)), [])
  | _ => none
def ptrN (o : Option Nat) : Int := match o with | none => 0 | some b => (b : Int) + 1
def ptrO (o : Option Nat) : Value := .pointer (o.map fun b => ⟨b, 0, none⟩)
theorem ptrE_mk (o : Option Nat) : ptrE (ptrO o) = some (.lit (.int .i64 (ptrN o)), []) := by cases o <;> rfl
theorem ptrE_inv {v : Value} {z : DataW Unit × List MemPlace} (h : ptrE v = some z) : ∃ o, v = ptrO o ∧ z.1 = .lit (.int .i64 (ptrN o)) := by
  unfold ptrE at h
  split at h
  · cases h; exact ⟨none, rfl, rfl⟩
  · cases h; exact ⟨some _, rfl, rfl⟩
  · cases h
theorem ptrN_inj {a b : Option Nat} (h : ptrN a = ptrN b) : a = b := by
  cases a <;> cases b <;> simp only [ptrN] at h
  · rfl
  · omega
  · omega
  · congr 1; omega
theorem lit_ptr {a b : Option Nat} (h : (DataW.lit (.int .i64 (ptrN a)) : DataW Unit) = .lit (.int .i64 (ptrN b))) : a = b := by
  injection h with h1
  injection h1 with _ h2
  exact ptrN_inj h2
def MapP (P : Program) (k : TypeId) (w : World) (b n : Nat) (g : List UInt8 → Option Nat) : Prop :=
  ∃ D : DataW Unit, w.ownsMap P k ptrE b n D ∧ Tidy D ∧ ∀ x, has D (.string x) = (g x).isSome ∧ D.atKey (.string x) (.lit (.int .i64 0)) = .lit (.int .i64 (ptrN (g x)))
section
variable {P : Program} {k e t : TypeId} {w : World} {b n : Nat} {g : List UInt8 → Option Nat}
theorem MapP.same (h : MapP P k w b n g) {w' : World} (hb' : w'.heap[b]? = w.heap[b]?) : MapP P k w' b n g := by
  obtain ⟨D, ⟨es, clock, hb, r⟩, h2⟩ := h
  exact ⟨D, ⟨es, clock, hb'.trans hb, r⟩, h2⟩
theorem MapP.lt (h : MapP P k w b n g) : b < w.heap.size := by
  obtain ⟨D, h, _⟩ := h
  exact h.lt
theorem MapP.mono (h : MapP P k w b n g) {m : Nat} (hm : n ≤ m) : MapP P k w b m g := by
  obtain ⟨D, h, r⟩ := h
  exact ⟨D, h.mono hm, r⟩
theorem MapP.made (w : World) : MapP P k (w.alloc (.map #[] 0)) w.heap.size 0 (fun _ => none) := ⟨_, World.ownsMap_made _ _ _ _, Maps.tidy_empty, fun x => ⟨rfl, rfl⟩⟩
theorem MapP.put (h : MapP P k w b n g) (hk : P.underlying k = some .string) (ht : P.underlying t = some (.map k e)) (hn : n < maxLen) {s : ByteArray} (hs : s.size ≤ maxLen) {o : Option Nat} (ho : o.isSome = true)
    {f : World → Prop} (hf : ∀ w', Keeps (· = b) w w' → MapP P k w' b (n + 1) (fun y => if y = bl s then o else g y) → f w') : OPU P (Instr.mapUpdate t (.map (some b)) (.string s) (ptrO o)) f w := by
  obtain ⟨D, hD, hT, hg⟩ := h
  have hkey : keyOf P k (.string s) = some (.string (bl s)) := by simp [keyOf, hk, mapKey, hs, bl]
  obtain ⟨w', hrun, hown, hgrow⟩ := hD.update (Maps.string_keyed hk) ht hn hkey (ptrE_mk o)
  unfold OPU
  rw [hrun]
  have hkl : WideAt.IsKeyLit (.string (bl s)) := by simp [WideAt.IsKeyLit]
  refine hf w' (.of_grownBy hgrow) ⟨_, hown, hT.put hkl _, fun x => ?_⟩
  by_cases hx : x = bl s
  · subst hx
    simp only [if_true]
    exact ⟨(Maps.has_put_same hT.isMap hkl _).trans ho.symm, Maps.atKey_put_same hT.isMap hkl _ _⟩
  · have hne : Lit.string x ≠ .string (bl s) := fun e => hx (by injection e)
    simp only [hx, if_false]
    exact ⟨(Maps.has_put_other hne _).trans (hg x).1, (Maps.atKey_put_other hne _ _).trans (hg x).2⟩
theorem MapP.get (h : MapP P k w b n g) (hk : P.underlying k = some .string) (ht : P.underlying t = some (.map k e)) (hz : (zeroValue e).run P w = .ok (.pointer none) w) {s : ByteArray} (hs : s.size ≤ maxLen)
    {f : Value → World → Prop} (hf : f (ptrO (g (bl s))) w) : OPR P (Instr.lookup t (.map (some b)) (.string s) false) f w := by
  obtain ⟨D, hD, hT, hg⟩ := h
  have hkey : keyOf P k (.string s) = some (.string (bl s)) := by simp [keyOf, hk, mapKey, hs, bl]
  obtain ⟨v, ps, hrun, hv⟩ := hD.lookup (Maps.string_keyed hk) ht hz (ptrE_mk none) hkey
  obtain ⟨o, rfl, ho⟩ := ptrE_inv hv
  have hat : D.atKey (.string (bl s)) (.lit (.int .i64 (ptrN none))) = .lit (.int .i64 (ptrN o)) := ho
  have h2 := (hg (bl s)).2
  rw [show (0 : Int) = ptrN none from rfl, hat] at h2
  obtain rfl := lit_ptr h2
  unfold OPR
  rw [hrun]
  exact hf
theorem MapP.del (h : MapP P k w b n g) (hk : P.underlying k = some .string) (ht : P.underlying t = some (.map k e)) {s : ByteArray} (hs : s.size ≤ maxLen) {ty : TypeId}
    {f : Value → World → Prop} (hf : ∀ w', Keeps (· = b) w w' → MapP P k w' b n (fun y => if y = bl s then none else g y) → f (.tuple #[]) w') : OPR P (Builtin.delete_ #[t, k] ty #[.map (some b), .string s]) f w := by
  obtain ⟨D, hD, hT, hg⟩ := h
  have hkey : keyOf P k (.string s) = some (.string (bl s)) := by simp [keyOf, hk, mapKey, hs, bl]
  obtain ⟨w', hrun, hown, hgrow⟩ := hD.drop (Maps.string_keyed hk) ht hkey ty
  unfold OPR
  rw [hrun]
  refine hf w' (.of_grownBy hgrow.grown) ⟨_, hown, hT.del _, fun x => ?_⟩
  by_cases hx : x = bl s
  · subst hx
    simp only [if_true]
    exact ⟨Maps.has_del_same, Maps.atKey_del_same _⟩
  · have hne : Lit.string x ≠ .string (bl s) := fun e => hx (by injection e)
    simp only [hx, if_false]
    exact ⟨(Maps.has_del_other hne).trans (hg x).1, (Maps.atKey_del_other hne _).trans (hg x).2⟩
theorem MapP.keys (h : MapP P k w b n g) (hk : P.underlying k = some .string) : ∃ D : DataW Unit, w.ownsMap P k ptrE b n D ∧ Maps.size D ≤ n ∧ (strKeys D).Nodup ∧ ∀ x, x ∈ strKeys D ↔ (g x).isSome = true := by
  obtain ⟨D, hD, hT, hg⟩ := h
  obtain ⟨es, e1, hpw⟩ := hT
  obtain ⟨es', hD', hko⟩ := hD.keysOf
  obtain rfl : es = es' := by rw [e1] at hD'; simpa using hD'
  have hstr : ∀ p ∈ es, ∃ x, p.1 = .string x := fun p hp => by obtain ⟨v, hv⟩ := hko p hp; obtain ⟨x, _, hx, _⟩ := Maps.keyOf_str hk hv; exact ⟨x, hx⟩
  have hnd : (strKeys D).Nodup := by
    rw [e1]
    show (es.map fun p => strOf p.1).Nodup
    refine List.pairwise_map.2 (hpw.imp_of_mem fun {p r} hp' hq' hne e => hne ?_)
    obtain ⟨a, ha⟩ := hstr p hp'
    obtain ⟨c, hc⟩ := hstr r hq'
    rw [ha, hc] at e ⊢
    exact congrArg _ e
  refine ⟨D, hD, hD.size_le, hnd, fun x => ?_⟩
  rw [← (hg x).1, e1, Maps.has_eq, List.any_eq_true]
  show x ∈ es.map (fun p => strOf p.1) ↔ _
  rw [List.mem_map]
  constructor
  · rintro ⟨p, hp', rfl⟩
    obtain ⟨a, ha⟩ := hstr p hp'
    exact ⟨p, hp', by rw [ha]; simp [Lit.sameKey, strOf]⟩
  · rintro ⟨p, hp', hs⟩
    obtain ⟨a, ha⟩ := hstr p hp'
    rw [ha] at hs
    exact ⟨p, hp', by rw [ha]; simpa [Lit.sameKey, strOf] using hs⟩
def RanP (P : Program) (k : TypeId) (w : World) (b r n : Nat) (g : List UInt8 → Option Nat) (ks : List (List UInt8)) : Prop :=
  ∃ (D : DataW Unit) (left : Lit → Bool) (cnt : Nat), w.ranges P k ptrE b r n D left cnt ∧ Tidy D ∧ (∀ x, has D (.string x) = (g x).isSome ∧ D.atKey (.string x) (.lit (.int .i64 0)) = .lit (.int .i64 (ptrN (g x)))) ∧
    ks.Nodup ∧ (∀ x, x ∈ ks ↔ left (.string x) = true) ∧ ∀ x ∈ ks, (g x).isSome = true ∧ x.length ≤ maxLen
theorem RanP.map {r : Nat} {ks : List (List UInt8)} (h : RanP P k w b r n g ks) : MapP P k w b n g := by
  obtain ⟨D, left, cnt, h1, h2, h3, _⟩ := h
  exact ⟨D, h1.owns, h2, h3⟩
theorem RanP.lt {r : Nat} {ks : List (List UInt8)} (h : RanP P k w b r n g ks) : r < w.heap.size ∧ r ≠ b := by
  obtain ⟨D, left, cnt, h1, _⟩ := h
  exact ⟨h1.lt, h1.ne⟩
theorem RanP.same {r : Nat} {ks : List (List UInt8)} (h : RanP P k w b r n g ks) {w' : World} (h1 : w'.heap[b]? = w.heap[b]?) (h2 : w'.heap[r]? = w.heap[r]?) : RanP P k w' b r n g ks := by
  obtain ⟨D, left, cnt, ⟨es, clock, since, seen, c0, q1, q2, q3, q4, q5, q6⟩, r2⟩ := h
  exact ⟨D, left, cnt, ⟨es, clock, since, seen, c0, h1.trans q1, q2, q3, q4, h2.trans q5, q6⟩, r2⟩
theorem MapP.range (h : MapP P k w b n g) (hk : P.underlying k = some .string) (ht : P.underlying t = some (.map k e)) {f : Value → World → Prop}
    (hf : ∀ r w' ks, w.heap.size ≤ r → Below w.heap.size w w' → RanP P k w' b r n g ks → (∀ x, x ∈ ks ↔ (g x).isSome = true) → ks.length ≤ n → f (.pointer (some ⟨r, 0, none⟩)) w') : OPR P (Instr.range t (.map (some b))) f w := by
  obtain ⟨D0, hD0, hsz, hnd, hmem⟩ := h.keys hk
  have hle := strKeys_le hD0 hk
  obtain ⟨D, hD, hT, hg⟩ := h
  obtain rfl : D0 = D := by
    obtain ⟨es, c, hb, _, _, e1⟩ := hD0
    obtain ⟨es', c', hb', _, _, e2⟩ := hD
    rw [hb] at hb'
    cases hb'
    rw [e1, e2]
  obtain ⟨w', hrun, hR, hgr, hsz'⟩ := hD.range (Maps.string_keyed hk) ht
  unfold OPR
  rw [hrun]
  refine hf _ w' (strKeys D0) (Nat.le_refl _) ⟨hgr.os, hgr.tape, hgr.output, hgr.size, fun i hi => hgr.block i hi (by simp)⟩ ⟨D0, _, _, hR, hT, hg, hnd, fun x => by rw [hmem, (hg x).1], fun x hx => ⟨(hmem x).1 hx, hle x hx⟩⟩ hmem ?_
  have : (strKeys D0).length = Maps.size D0 := by
    obtain ⟨es, rfl, _⟩ := hT
    simp [strKeys, Maps.size]
  omega
theorem MapP.copy (h : MapP P k w b n g) : ∃ es clock, w.heap[b]? = some (.map es clock) ∧ MapP P k (w.alloc (.map es clock)) w.heap.size n g := by
  obtain ⟨D, ⟨es, clock, hb, F, r⟩, h2⟩ := h
  exact ⟨es, clock, hb, D, ⟨es, clock, heap_alloc_new w _, F, r⟩, h2⟩
end
/-! ## Among a function's own things -/
def It.mapP (P : Program) (k : TypeId) (b n : Nat) (g : List UInt8 → Option Nat) : It where
  blk := some b
  ok := fun w => MapP P k w b n g
  st := fun w w' h h0 => h0.same (h b rfl)
  lt := fun w h k hk => by cases hk; exact h.lt
section
variable {P : Program} {k e t : TypeId} {w0 w : World} {H : List It} {b n : Nat} {g : List UInt8 → Option Nat}
theorem ST.newMap (S : ST w0 w H) (t : TypeId) {f : Value → World → Prop} (hf : ∀ b w', ST w0 w' (It.mapP P k b 0 (fun _ => none) :: H) → f (.map (some b)) w') (hrun : (Instr.makeMap t none).run P w = .ok (.map (some w.heap.size)) (w.alloc (.map #[] 0))) : OPR P (Instr.makeMap t none) f w := by
  unfold OPR
  rw [hrun]
  exact hf _ _ (S.add ((Below.refl _ w).alloc (Nat.le_refl _) _) (It.mapP P k w.heap.size 0 _) (MapP.made w) (fun k hk => by cases hk; exact Nat.le_refl _))
theorem ST.mput (S : ST w0 w H) (i : Nat) (hi : H[i]? = some (It.mapP P k b n g)) (hk : P.underlying k = some .string) (ht : P.underlying t = some (.map k e)) (hn : n < maxLen) {s : ByteArray} (hs : s.size ≤ maxLen) {c : Nat}
    {f : World → Prop} (hf : ∀ w', ST w0 w' (H.set i (It.mapP P k b (n + 1) (fun y => if y = bl s then some c else g y))) → f w') : OPU P (Instr.mapUpdate t (.map (some b)) (.string s) (.pointer (some ⟨c, 0, none⟩))) f w :=
  MapP.put (o := some c) (S.get i hi) hk ht hn hs rfl fun w' K h => hf w' (S.chg i hi (K.mono fun k _ h => by subst h; rfl) _ h (fun k hk => .inl hk))
theorem ST.mget (S : ST w0 w H) (i : Nat) (hi : H[i]? = some (It.mapP P k b n g)) (hk : P.underlying k = some .string) (ht : P.underlying t = some (.map k e)) (hz : (zeroValue e).run P w = .ok (.pointer none) w) {s : ByteArray} (hs : s.size ≤ maxLen)
    {f : Value → World → Prop} (hf : f (ptrO (g (bl s))) w) : OPR P (Instr.lookup t (.map (some b)) (.string s) false) f w := MapP.get (S.get i hi) hk ht hz hs hf
theorem ST.mdel (S : ST w0 w H) (i : Nat) (hi : H[i]? = some (It.mapP P k b n g)) (hk : P.underlying k = some .string) (ht : P.underlying t = some (.map k e)) {s : ByteArray} (hs : s.size ≤ maxLen) {ty : TypeId}
    {f : Value → World → Prop} (hf : ∀ w', ST w0 w' (H.set i (It.mapP P k b n (fun y => if y = bl s then none else g y))) → f (.tuple #[]) w') : OPR P (Builtin.delete_ #[t, k] ty #[.map (some b), .string s]) f w :=
  MapP.del (S.get i hi) hk ht hs fun w' K h => hf w' (S.chg i hi (K.mono fun k _ h => by subst h; rfl) _ h (fun k hk => .inl hk))
end
end Go.Dn
namespace Go.Dn
set_option maxRecDepth 100000
open Go.RowKit (Below)
open Go.ChangeMaps Go.MapKept Go.WideShapes
set_option linter.unusedSimpArgs false
abbrev ptrV (a : Nat) : Value := .pointer (some ⟨a, 0, none⟩)
def PtrOk (w : World) (a : Nat) : Prop := ∃ cs t, w.heap[a]? = some (.cells cs t (0, 0))
section
variable {P : Program} {w : World} {tp te : TypeId} {j : TypeInfo}
theorem run_equal_ptr (hp : P.underlying tp = some (.pointer te)) (hte : P.info? te = some j) (hsz : j.size ≠ 0) {a b : Nat} (ha : PtrOk w a) (hb : PtrOk w b) : (Op.equal tp (ptrV a) (ptrV b)).run P w = .ok (decide (a = b)) w := by
  by_cases hab : a = b
  · subst hab
    have h : ∀ d : Nat, (Op.equalIn (d + 1) tp (ptrV a) (ptrV a)).run P w = .ok true w := fun d => by
      simp [Op.equalIn, run_underlying hp, sizeOf, typeInfo, hte, run_sameAddr_same]
    simp [Op.equal, Op.maxDepth, h 9999]
  · obtain ⟨ca, ta, ha⟩ := ha
    obtain ⟨cb, tb, hb⟩ := hb
    have hne : (⟨a, 0, none⟩ : Addr) ≠ ⟨b, 0, none⟩ := fun h => hab (congrArg Addr.block h)
    have h : ∀ d : Nat, (Op.equalIn (d + 1) tp (ptrV a) (ptrV b)).run P w = .ok false w := fun d => by
      simp [Op.equalIn, run_underlying hp, sizeOf, typeInfo, hte, hsz, run_sameAddr_other w hne ha hb]
    simp [Op.equal, Op.maxDepth, h 9999, hab]
theorem run_eql_ptr (hp : P.underlying tp = some (.pointer te)) (hte : P.info? te = some j) (hsz : j.size ≠ 0) {a b : Nat} (ha : PtrOk w a) (hb : PtrOk w b) : (Go.binOp .eql tp (ptrV a) (ptrV b)).run P w = .ok (.bool (decide (a = b))) w := by
  simp only [Go.binOp]
  simp [run_equal_ptr hp hte hsz ha hb]
def PEnts (es : List MapEntry) (l : List (Nat × Nat)) : Prop := es.map (fun e => (e.key, e.val)) = l.map fun p => (ptrV p.1, ptrV p.2)
theorem findAsking_ptr (hp : P.underlying tp = some (.pointer te)) (hte : P.info? te = some j) (hsz : j.size ≠ 0) {a : Nat} (ha : PtrOk w a) : ∀ (es : List MapEntry) (l : List (Nat × Nat)) (i : Nat), PEnts es l → (∀ p ∈ l, PtrOk w p.1) →
    (a ∉ l.map (·.1) → (Instr.findAsking tp (ptrV a) es i).run P w = .ok none w) ∧ (∀ c, (l.find? fun p => p.1 == a) = some (a, c) → ∃ k, (Instr.findAsking tp (ptrV a) es i).run P w = .ok (some (k, ptrV c)) w)
  | [], l, i, he, _ => by
    have : l = [] := by
      cases l with
      | nil => rfl
      | cons p l => simp [PEnts] at he
    subst this
    exact ⟨fun _ => by simp [Instr.findAsking], fun c hc => by simp at hc⟩
  | e :: es, l, i, he, hl => by
    cases l with
    | nil => simp [PEnts] at he
    | cons p l =>
      simp only [PEnts, List.map_cons, List.cons.injEq, Prod.mk.injEq] at he
      obtain ⟨⟨h1, h2⟩, h3⟩ := he
      have hpk := hl p (by simp)
      obtain ⟨ih1, ih2⟩ := findAsking_ptr hp hte hsz ha es l (i + 1) h3 fun q hq => hl q (by simp [hq])
      have hq := run_equal_ptr hp hte hsz ha hpk
      refine ⟨fun hn => ?_, fun c hc => ?_⟩
      · simp only [List.map_cons, List.mem_cons, not_or] at hn
        have : decide (a = p.1) = false := decide_eq_false hn.1
        rw [this] at hq
        simp [Instr.findAsking, h1, hq, ih1 hn.2, Result.andThen]
      · by_cases hap : a = p.1
        · have : decide (a = p.1) = true := decide_eq_true hap
          rw [this] at hq
          rw [List.find?_cons_of_pos (by simp [hap])] at hc
          have hc2 : p = (a, c) := Option.some.inj hc
          subst hc2
          refine ⟨i, ?_⟩
          simp [Instr.findAsking, h1, hq, h2, Result.andThen]
        · have : decide (a = p.1) = false := decide_eq_false hap
          rw [this] at hq
          rw [List.find?_cons_of_neg (by simpa using fun h => hap (Eq.symm h))] at hc
          obtain ⟨k, hk⟩ := ih2 c hc
          exact ⟨k, by simp [Instr.findAsking, h1, hq, hk, Result.andThen]⟩
theorem findKey_ptr (hp : P.underlying tp = some (.pointer te)) (hte : P.info? te = some j) (hsz : j.size ≠ 0) {a : Nat} (ha : PtrOk w a) {es : List MapEntry} {l : List (Nat × Nat)} (he : PEnts es l) (hl : ∀ p ∈ l, PtrOk w p.1) :
    (a ∉ l.map (·.1) → (Instr.findKey tp (ptrV a) es).run P w = .ok none w) ∧ (∀ c, (l.find? fun p => p.1 == a) = some (a, c) → ∃ k, (Instr.findKey tp (ptrV a) es).run P w = .ok (some (k, ptrV c)) w) := by
  obtain ⟨h1, h2⟩ := findAsking_ptr hp hte hsz ha es l 0 he hl
  cases es with
  | nil =>
    refine ⟨fun _ => by simp [Instr.findKey, run_underlying hp, Instr.findNow], fun c hc => ?_⟩
    have : l = [] := by
      cases l with
      | nil => rfl
      | cons p l => simp [PEnts] at he
    subst this
    simp at hc
  | cons e es =>
    have hn : Instr.findNow (.pointer te) (ptrV a) (e :: es) 0 = none := by simp [Instr.findNow, Instr.sameNow]
    refine ⟨fun h => ?_, fun c hc => ?_⟩
    · simp [Instr.findKey, run_underlying hp, hn, h1 h, Result.andThen]
    · obtain ⟨k, hk⟩ := h2 c hc
      exact ⟨k, by simp [Instr.findKey, run_underlying hp, hn, hk, Result.andThen]⟩
theorem checkKey_ptr' (hp : P.underlying tp = some (.pointer te)) (em : Bool) (a n : Nat) : (Instr.checkKey em (n + 1) tp (ptrV a)).run P w = .ok () w := by
  simp [Instr.checkKey, run_underlying hp]
theorem checkKey_ptr (hp : P.underlying tp = some (.pointer te)) (em : Bool) (a : Nat) : (Instr.checkKey em 10000 tp (ptrV a)).run P w = .ok () w := checkKey_ptr' hp em a 9999
end
def It.mapQ (b : Nat) (l : List (Nat × Nat)) : It where
  blk := some b
  ok := fun w => ∃ es clock, w.heap[b]? = some (.map es clock) ∧ PEnts es.toList l
  st := fun w w' h h0 => by obtain ⟨es, clock, h1, h2⟩ := h0; exact ⟨es, clock, (h b rfl).trans h1, h2⟩
  lt := fun w h k hk => by obtain ⟨es, clock, h1, _⟩ := h; cases hk; exact (Array.getElem?_eq_some_iff.1 h1).1
section
variable {P : Program} {w0 w : World} {H : List It} {b : Nat} {l : List (Nat × Nat)} {t tp tv te : TypeId} {j : TypeInfo}
theorem ST.newMapQ (S : ST w0 w H) (t : TypeId) {f : Value → World → Prop} (hf : ∀ b w', ST w0 w' (It.mapQ b [] :: H) → f (.map (some b)) w') (hrun : (Instr.makeMap t none).run P w = .ok (.map (some w.heap.size)) (w.alloc (.map #[] 0))) : OPR P (Instr.makeMap t none) f w := by
  unfold OPR
  rw [hrun]
  exact hf _ _ (S.add ((Below.refl _ w).alloc (Nat.le_refl _) _) (It.mapQ w.heap.size []) ⟨#[], 0, heap_alloc_new w _, rfl⟩ (fun k hk => by cases hk; exact Nat.le_refl _))
theorem ST.qput (S : ST w0 w H) (i : Nat) (hi : H[i]? = some (It.mapQ b l)) (ht : P.underlying t = some (.map tp tv)) (hp : P.underlying tp = some (.pointer te)) (hte : P.info? te = some j) (hsz : j.size ≠ 0) {a c : Nat} (ha : PtrOk w a) (hl : ∀ p ∈ l, PtrOk w p.1) (hn : a ∉ l.map (·.1))
    {f : World → Prop} (hf : ∀ w', ST w0 w' (H.set i (It.mapQ b (l ++ [(a, c)]))) → f w') : OPU P (Instr.mapUpdate t (.map (some b)) (ptrV a) (ptrV c)) f w := by
  obtain ⟨es, clock, hb, he⟩ := S.get i hi
  have hk := (findKey_ptr (P := P) hp hte hsz ha he hl).1 hn
  have hrun : (Instr.mapUpdate t (.map (some b)) (ptrV a) (ptrV c)).run P w = .ok () (setBlock w b (.map (es.push { key := ptrV a, val := ptrV c, born := clock }) (clock + 1))) := by
    simp [Instr.mapUpdate, run_underlying ht, MapKept.run_getObj_map hb, checkKey_ptr hp, hk, MapKept.run_setObj_map _ hb, Result.andThen, setBlock]
  unfold OPU
  rw [hrun]
  have hb' := heap_setBlock_same hb (.map (es.push { key := ptrV a, val := ptrV c, born := clock }) (clock + 1))
  have K : Keeps (fun k => (It.mapQ b l).blk = some k) w (setBlock w b (.map (es.push { key := ptrV a, val := ptrV c, born := clock }) (clock + 1))) :=
    ⟨rfl, rfl, rfl, by simp [setBlock], fun k _ hk => heap_setBlock_other hb _ (fun e => hk (by subst e; rfl))⟩
  refine hf _ (S.chg i hi K (It.mapQ b (l ++ [(a, c)])) ⟨es.push { key := ptrV a, val := ptrV c, born := clock }, clock + 1, hb', ?_⟩ (fun k hk => .inl hk))
  simp only [PEnts, Array.toList_push, List.map_append, List.map_cons, List.map_nil]
  rw [show es.toList.map (fun e => (e.key, e.val)) = l.map fun p => (ptrV p.1, ptrV p.2) from he]
theorem ST.qget (S : ST w0 w H) (i : Nat) (hi : H[i]? = some (It.mapQ b l)) (ht : P.underlying t = some (.map tp tv)) (hp : P.underlying tp = some (.pointer te)) (hte : P.info? te = some j) (hsz : j.size ≠ 0) {a c : Nat} (ha : PtrOk w a) (hl : ∀ p ∈ l, PtrOk w p.1) (hc : (l.find? fun p => p.1 == a) = some (a, c))
    {f : Value → World → Prop} (hf : f (ptrV c) w) : OPR P (Instr.lookup t (.map (some b)) (ptrV a) false) f w := by
  obtain ⟨es, clock, hb, he⟩ := S.get i hi
  obtain ⟨k, hk⟩ := (findKey_ptr (P := P) hp hte hsz ha he hl).2 c hc
  have hrun : (Instr.lookup t (.map (some b)) (ptrV a) false).run P w = .ok (ptrV c) w := by
    simp [Instr.lookup, run_underlying ht, MapKept.run_getObj_map hb, checkKey_ptr hp, hk, Result.andThen]
  unfold OPR
  rw [hrun]
  exact hf
end
end Go.Dn
namespace Go.Dn
set_option maxRecDepth 100000
open Go.RowKit (Below)
section
variable {w0 w : World} {H : List It}
end
end Go.Dn
namespace Go.Proofs.YtfgbfodohmeamaaGreatDoor
set_option maxRecDepth 100000
open Go.Dn
abbrev tyFn : TypeId := 107
end Go.Proofs.YtfgbfodohmeamaaGreatDoor
namespace Go.Proofs.YtfgbfodohmeamaaGreatDoor
set_option maxRecDepth 100000
open Go.Dn Go.Proofs
open Go.RowKit (Below)
set_option linter.unusedVariables false
def bytesI (a : Option Addr) (c : Nat) (l : List UInt8) : It := It.row ty.uint8 1 a l.length c (l.map byteV)
structure FileC where
  b : Nat
  num : Nat
  da : Option Addr
  dc : Nat
  data : List UInt8
  lasts : Nat
def FileC.cells (f : FileC) : Array Value := #[.int .i64 (f.num : Int), .slice f.da f.data.length f.dc, .int .i64 (f.lasts : Int)]
def FileC.its (f : FileC) : List It := [It.cells f.b f.cells ty.disk_file, bytesI f.da f.dc f.data]
abbrev DirA := List UInt8 → Option Nat
inductive ChgC where
  | create (b1 b2 : Nat) (s : ByteArray) (f : Nat)
  | rename (b1 b2 b3 : Nat) (o s : ByteArray) (f : Nat)
  | remove (b1 : Nat) (s : ByteArray)
def ChgC.app (g : DirA) : ChgC → DirA
  | .create _ _ s f => fun y => if y = bl s then some f else g y
  | .rename _ _ _ o s f => fun y => if y = bl s then some f else if y = bl o then none else g y
  | .remove _ s => fun y => if y = bl s then none else g y
def ChgC.fn : ChgC → FuncId
  | .create .. => f.disk_Disk_Create_c1
  | .rename .. => f.disk_Disk_Rename_c1
  | .remove .. => f.disk_Disk_Remove_c1
def ChgC.caps : ChgC → List Value
  | .create b1 b2 _ _ => [ptrV b1, ptrV b2]
  | .rename b1 b2 b3 _ _ _ => [ptrV b1, ptrV b2, ptrV b3]
  | .remove b1 _ => [ptrV b1]
def ChgC.val (c : ChgC) : Value := .func (.func c.fn) #[] ⟨c.caps⟩
def ChgC.its : ChgC → List It
  | .create b1 b2 s f => [It.cells b1 #[ptrV f] ty.P_disk_file, It.cells b2 #[.string s] ty.string]
  | .rename b1 b2 b3 o s f => [It.cells b1 #[.string o] ty.string, It.cells b2 #[ptrV f] ty.P_disk_file, It.cells b3 #[.string s] ty.string]
  | .remove b1 s => [It.cells b1 #[.string s] ty.string]
def ChgC.small : ChgC → Prop
  | .create _ _ s _ => s.size ≤ 80
  | .rename _ _ _ o s _ => o.size ≤ 80 ∧ s.size ≤ 80
  | .remove _ s => s.size ≤ 80
def appAll (g : DirA) (l : List ChgC) : DirA := l.foldl (fun g c => c.app g) g
theorem appAll_snoc (g : DirA) (l : List ChgC) (c : ChgC) : appAll g (l ++ [c]) = c.app (appAll g l) := by simp [appAll]
structure DiskC where
  b : Nat
  room : Nat
  made : Nat
  db : Nat
  dn : Nat
  dir : DirA
  lb : Nat
  ln : Nat
  last : DirA
  wa : Option Addr
  wc : Nat
  waits : List ChgC
  off : Bool
  fused : Bool
  fuse : Int
  files : List FileC
def DiskC.cells (D : DiskC) : Array Value := #[.int .i64 (D.room : Int), .int .i64 (D.made : Int), .map (some D.db), .map (some D.lb), .slice D.wa D.waits.length D.wc, .bool D.off, .bool D.fused, .int .i64 D.fuse]
abbrev dirI (b n : Nat) (g : DirA) : It := It.mapP Tryz.prog ty.string b n g
def dkE (D : DiskC) (E : List It) : List It :=
  It.cells D.b D.cells ty.disk_Disk :: dirI D.db D.dn D.dir :: dirI D.lb D.ln D.last :: It.row tyFn 1 D.wa D.waits.length D.wc (D.waits.map ChgC.val) :: (D.waits.flatMap ChgC.its ++ (D.files.flatMap FileC.its ++ E))
def InjD (g : DirA) : Prop := ∀ x y b, g x = some b → g y = some b → x = y
def signsS : ByteArray := ⟨#[97, 98, 99, 100, 101, 102, 103, 104, 105, 106, 107, 108, 109, 110, 111, 112, 113, 114, 115, 116, 117, 118, 119, 120, 121, 122, 48, 49, 50, 51, 52, 53, 54, 55, 56, 57, 46, 95, 45]⟩
theorem signs_ascii : ∀ (j : Nat) b, signsS.data.toList[j]? = some b → b.toNat < 128 := by
  intro j b hj
  have h : signsS.data.toList.all (fun b => decide (b.toNat < 128)) = true := by decide
  exact of_decide_eq_true (List.all_eq_true.1 h b (List.mem_of_getElem? hj))
def nameB (s : ByteArray) : Bool := !decide (s = ⟨#[]⟩) && (decide (s.size ≤ 80) && (bl s).all (bl signsS).contains)
structure DiskOk (D : DiskC) (m : Nat) : Prop where
  room : D.room ≤ 16777216
  made : D.made = D.files.length
  nums : ∀ i (h : i < D.files.length), D.files[i].num = i + 1
  lasts : ∀ f ∈ D.files, f.lasts ≤ f.data.length
  len : ∀ f ∈ D.files, f.data.length ≤ 16777216
  all : appAll D.last D.waits = D.dir
  inj : ∀ n, n ≤ D.waits.length → InjD (appAll D.last (D.waits.take n))
  has : ∀ n, n ≤ D.waits.length → ∀ x b, appAll D.last (D.waits.take n) x = some b → ∃ f ∈ D.files, f.b = b
  small : ∀ c ∈ D.waits, c.small
  dn : D.dn ≤ m
  ln : D.ln ≤ m
  wn : D.waits.length ≤ m
  fn : D.files.length ≤ m
  fuseLo : -(m : Int) ≤ D.fuse
  fuseHi : D.fuse ≤ 9223372036854775807
  nm : ∀ n, n ≤ D.waits.length → ∀ x b, appAll D.last (D.waits.take n) x = some b → nameB (sof x) = true
theorem DiskOk.hasD {D : DiskC} {m : Nat} (h : DiskOk D m) {x : List UInt8} {b : Nat} (hx : D.dir x = some b) : ∃ f ∈ D.files, f.b = b := by
  refine h.has D.waits.length (Nat.le_refl _) x b ?_
  rw [List.take_length, h.all]
  exact hx
theorem DiskOk.nmD {D : DiskC} {m : Nat} (h : DiskOk D m) {x : List UInt8} {b : Nat} (hx : D.dir x = some b) : nameB (sof x) = true := by
  refine h.nm D.waits.length (Nat.le_refl _) x b ?_
  rw [List.take_length, h.all]
  exact hx
theorem DiskOk.injD {D : DiskC} {m : Nat} (h : DiskOk D m) : InjD D.dir := by
  have := h.inj D.waits.length (Nat.le_refl _)
  rwa [List.take_length, h.all] at this
theorem DiskOk.mono {D : DiskC} {m n : Nat} (h : DiskOk D m) (hn : m ≤ n) : DiskOk D n :=
  ⟨h.room, h.made, h.nums, h.lasts, h.len, h.all, h.inj, h.has, h.small, Nat.le_trans h.dn hn, Nat.le_trans h.ln hn, Nat.le_trans h.wn hn, Nat.le_trans h.fn hn, by have := h.fuseLo; omega, h.fuseHi, h.nm⟩
theorem nameB_size {s : ByteArray} (h : nameB s = true) : s.size ≤ 80 := by
  simp only [nameB, Bool.and_eq_true, decide_eq_true_eq] at h
  exact h.2.1
def liveE (off : Bool) (ss : List ByteArray) : Int := if off then 183 else if ss.all nameB then 0 else 182
def strV (s : ByteArray) : Value := .string s
theorem strV_at {w : World} {a : Option Addr} {ss : List ByteArray} (h : Rd w a (ss.map strV)) {i : Nat} (hi : i < ss.length) : ∃ p, a = some p ∧ w.cell? (p.add (i * 1)) = some (.string ss[i]) := by
  obtain ⟨p, hp, hc⟩ := h i (strV ss[i]) (by simp [hi])
  exact ⟨p, hp, by rw [Nat.mul_one]; exact hc⟩
theorem live_ok {w : World} {d : Nat} {off : Bool} (hd : w.cell? ⟨d, 5, none⟩ = some (.bool off)) {a : Option Addr} {c : Nat} (ss : List ByteArray) (hl : Rd w a (ss.map strV)) (hn : ss.length ≤ 1000) (hz : ∀ s ∈ ss, s.size ≤ 9223372036854775807) :
    Calls Tryz.prog f.disk_Disk_live #[ptrV d, .slice a ss.length c] w (Ret fun v w' => v = .int .i64 (liveE off ss) ∧ Below w.heap.size w w') := by
  apply R.disk_Disk_live_calls
  unfold R.disk_Disk_live
  refine IFB_false ⟨_, hd, ?_⟩
  cases off with
  | true => exact IFB_true ⟨rfl, .refl _ _⟩
  | false =>
    refine IFB_false ?_
    have eE : ∀ b : Bool, ss.all nameB = b → liveE false ss = if b then 0 else 182 := fun b h => by unfold liveE; rw [h]; rfl
    refine ⟨fun st w1 => ∃ i : Nat, st = [.int .i64 (i : Int)] ∧ i ≤ ss.length ∧ Below w.heap.size w w1 ∧ (ss.take i).all nameB = true, fun st _ => match st with
      | [.int _ i] => ss.length - i.toNat
      | _ => 0, ⟨0, rfl, by omega, .refl _ _, by simp⟩, ?_⟩
    rintro _ w1 ⟨i, hst, hi, B1, hall⟩
    cases hst
    refine IFB_dec (fun hlt => ⟨⟨by omega, hlt⟩, ?_⟩) (fun hge => ⟨?_, B1⟩)
    · have hil : i < ss.length := by omega
      obtain ⟨p, rfl, hp⟩ := strV_at (hl.grown B1) hil
      have hsz := hz _ (List.getElem_mem hil)
      have no : nameB ss[i] = false → ∀ {wx : World}, Below w.heap.size w wx → Value.int .i64 182 = .int .i64 (liveE false ss) ∧ Below w.heap.size w wx := fun h wx B => by
        rw [eE false (List.all_eq_false.2 ⟨_, List.getElem_mem hil, by simp [h]⟩)]
        exact ⟨rfl, B⟩
      refine ⟨_, by rw [Int.toNat_natCast]; exact hp, ?_⟩
      rw [bytesEq_iff]
      refine IFB_dec (fun h => no (by simp [nameB, h]) B1) (fun h0 => IFB_dec (fun h => no ?_ B1) (fun h1 => (strings_Trim_ok ss[i] signsS hsz (by decide) (by decide) signs_ascii w1).mono ?_))
      · have : ¬ ss[i].size ≤ 80 := by omega
        simp [nameB, this]
      rintro _ w2 ⟨_, rfl, q, rfl, hq, B2⟩
      have B2 := below_trans B1 B2
      refine ⟨_, rfl, ?_⟩
      rw [bytesEq_iff]
      refine IFB_not (IFB_dec (fun h => ?_) (fun h => no ?_ B2))
      · have hq' := hq.1 h
        rw [wrap_succ (by omega)]
        refine ⟨⟨i + 1, rfl, by omega, B2, ?_⟩, by simp only [Int.toNat_natCast]; omega⟩
        rw [List.take_succ_eq_append_getElem hil, List.all_append, hall, Bool.true_and]
        have h1' : ss[i].size ≤ 80 := by omega
        simp [nameB, h0, h1', hq']
      · have : (bl ss[i]).all (bl signsS).contains = false := by
          cases hh : (bl ss[i]).all (bl signsS).contains with
          | false => rfl
          | true => exact absurd (hq.2 hh) h
        simp [nameB, this]
    · rw [List.take_of_length_le (by omega)] at hall
      rw [eE true hall]
      rfl
theorem und_names : Tryz.prog.underlying ty.disk_names = some (.map ty.string ty.P_disk_file) := by kernel_rfl
theorem zeroPtr (w : World) : (zeroValue ty.P_disk_file).run Tryz.prog w = .ok (.pointer none) w := by
  have h : (Tryz.prog.info? ty.P_disk_file).bind (·.zero) = some (.pointer none) := by kernel_rfl
  cases hi : Tryz.prog.info? ty.P_disk_file with
  | none => rw [hi] at h; cases h
  | some i =>
    rw [hi] at h
    have hz : i.zero = some (.pointer none) := h
    simp [zeroValue, typeInfo, hi, hz]
theorem tWaits : slT Tryz.prog ty.L_func_disk_names = some (tyFn, 1, 8, .nilFunc) := by kernel_rfl
theorem max80 {n : Nat} (h : n ≤ 80) : n ≤ maxLen := Nat.le_trans h (by decide)
theorem dkE_perm (D : DiskC) (X E : List It) : (dkE D (X ++ E)).Perm (X ++ dkE D E) := by
  have h : ∀ A : List It, (A ++ (X ++ E)).Perm (X ++ (A ++ E)) := fun A => List.perm_append_comm_assoc A X E
  have e : ∀ E, dkE D E = ([It.cells D.b D.cells ty.disk_Disk, dirI D.db D.dn D.dir, dirI D.lb D.ln D.last, It.row tyFn 1 D.wa D.waits.length D.wc (D.waits.map ChgC.val)] ++ (D.waits.flatMap ChgC.its ++ D.files.flatMap FileC.its)) ++ E := fun E => by simp [dkE]
  rw [e, e]
  exact h _
theorem dkE_sub (D : DiskC) (X E : List It) : (dkE D E).Sublist (dkE D (X ++ E)) := by
  unfold dkE
  refine (((List.Sublist.append_left (List.Sublist.append_left (List.sublist_append_right X E) _) _).cons_cons _).cons_cons _).cons_cons _ |>.cons_cons _
theorem dkE_file (D : DiskC) (f : FileC) (E : List It) : dkE D (f.its ++ E) = dkE { D with files := D.files ++ [f] } E := by
  unfold dkE DiskC.cells
  simp
theorem dkE_wait (D : DiskC) (c : ChgC) (E : List It) {wa : Option Addr} {wc : Nat} : (It.cells D.b { D with waits := D.waits ++ [c], wa := wa, wc := wc }.cells ty.disk_Disk :: dirI D.db D.dn D.dir :: dirI D.lb D.ln D.last :: It.row tyFn 1 wa (D.waits ++ [c]).length wc ((D.waits ++ [c]).map ChgC.val) :: (D.waits.flatMap ChgC.its ++ (D.files.flatMap FileC.its ++ (c.its ++ E)))).Perm (dkE { D with waits := D.waits ++ [c], wa := wa, wc := wc } E) := by
  unfold dkE
  refine (((List.Perm.cons _ (List.Perm.cons _ (List.Perm.cons _ (List.Perm.cons _ ?_)))))) 
  simp only [List.flatMap_append, List.flatMap_cons, List.flatMap_nil, List.append_nil, List.append_assoc]
  exact List.Perm.append_left _ (List.perm_append_comm_assoc _ _ _)
def namedE (D : DiskC) (s : ByteArray) : Option Nat × Int := if liveE D.off [s] ≠ 0 then (none, liveE D.off [s]) else match D.dir (bl s) with
  | none => (none, 180)
  | some b => (some b, 0)
theorem live1 {off : Bool} {s : ByteArray} (h : liveE off [s] = 0) : off = false ∧ nameB s = true := by
  unfold liveE at h
  cases off with
  | true => simp at h
  | false =>
    refine ⟨rfl, ?_⟩
    cases hb : nameB s with
    | true => rfl
    | false => simp [hb] at h
theorem c8 {D : DiskC} {n : Nat} (h : n < 8) : 0 + n < D.cells.size := by rw [Nat.zero_add]; exact h
section
variable {w0 w : World} {D : DiskC} {E H : List It}
theorem named_ok (S : ST w0 w (dkE D E)) (s : ByteArray) (hs : s.size ≤ 9223372036854775807) :
    Calls Tryz.prog f.disk_Disk_named #[ptrV D.b, .string s] w (Ret fun v w' => v = .tuple #[ptrO (namedE D s).1, .int .i64 (namedE D s).2] ∧ ST w0 w' (dkE D E)) := by
  apply R.disk_Disk_named_calls
  unfold R.disk_Disk_named
  refine S.newB fun b3 w1 _ _ S1 => ?_
  have hc5 : w1.cell? ⟨D.b, 5, none⟩ = some (.bool D.off) := S1.cell 1 rfl rfl
  have hr : Rd w1 (some ⟨b3, 0, none⟩) ([s].map strV) := S1.rdc 0 rfl
  refine (live_ok hc5 [s] hr (by simp) (by simpa using hs)).mono ?_
  rintro _ w2 ⟨_, rfl, rfl, B2⟩
  have S2 := S1.grown B2
  have SD : ST w0 w2 (dkE D E) := S2.drop 1
  refine ⟨_, rfl, IFB_ne (fun h => ⟨by simp only [namedE, if_pos h]; rfl, SD⟩) (fun h => ?_)⟩
  have hn := (live1 h).2
  have hE : namedE D s = match D.dir (bl s) with
      | none => (none, 180)
      | some b => (some b, 0) := by simp only [namedE, h, ne_eq, not_true, if_false]
  refine ⟨_, SD.cell 0 rfl rfl, SD.mget 1 rfl und_str und_names (zeroPtr _) (max80 (nameB_size hn)) ⟨_, rfl, ?_⟩⟩
  rw [hE]
  cases hd : D.dir (bl s) with
  | none => exact IFB_true ⟨rfl, SD⟩
  | some b => exact IFB_false ⟨rfl, SD⟩
theorem change_ok (S : ST w0 w (dkE D E)) (h1 : -9223372036854775808 < D.fuse) (h2 : D.fuse ≤ 9223372036854775807) :
    Calls Tryz.prog f.disk_Disk_change #[ptrV D.b] w (Ret fun v w' => (D.fused = true ∧ D.fuse = 0 ∧ v = .int .i64 183 ∧ ST w0 w' (dkE { D with off := true } E)) ∨ (¬ (D.fused = true ∧ D.fuse = 0) ∧ v = .int .i64 0 ∧ ST w0 w' (dkE { D with fuse := D.fuse - 1 } E))) := by
  apply R.disk_Disk_change_calls
  unfold R.disk_Disk_change
  refine ⟨fun st w1 => st = [] ∧ w1 = w ∧ ¬ (D.fused = true ∧ D.fuse = 0), ⟨_, S.cell 0 rfl rfl, IFB_of (fun hf => ⟨_, S.cell 0 rfl rfl, IFB_eq (fun h0 => ?_) (fun h0 => ⟨rfl, rfl, fun h => h0 h.2⟩)⟩) (fun hf => ⟨rfl, rfl, fun h => by rw [h.1] at hf; cases hf⟩)⟩, ?_⟩
  · exact S.sto 0 rfl (cs' := DiskC.cells { D with off := true }) (c8 (by decide)) rfl fun w1 S1 => .inl ⟨hf, h0, rfl, S1⟩
  · rintro w1 ⟨_, rfl, hno⟩
    refine ⟨_, S.cell 0 rfl rfl, ?_⟩
    rw [wrap_i64 (by omega) (by omega)]
    exact S.sto 0 rfl (cs' := DiskC.cells { D with fuse := D.fuse - 1 }) (c8 (by decide)) rfl fun w2 S2 => .inr ⟨hno, rfl, S2⟩
theorem chg_ok (c : ChgC) (S : ST w0 w H) {i m n : Nat} {g : DirA} (hi : H[i]? = some (dirI m n g)) (hb : ∀ x ∈ c.its, ∃ k, k ≠ i ∧ H[k]? = some x) (hn : n + 1 < 1000000) (hz : c.small) :
    Calls Tryz.prog c.fn ⟨[.map (some m)] ++ c.caps⟩ w (Ret fun v w' => v = .tuple #[] ∧ ST w0 w' (H.set i (dirI m (n + 1) (c.app g)))) := by
  have hml : n < maxLen := Nat.lt_of_lt_of_le (by omega : n < 1000000) (by decide)
  have hil := (List.getElem?_eq_some_iff.1 hi).1
  cases c with
  | create b1 b2 s fb =>
    obtain ⟨k1, hk1, h1⟩ := hb (It.cells b1 #[ptrV fb] ty.P_disk_file) (by simp [ChgC.its])
    obtain ⟨k2, hk2, h2⟩ := hb (It.cells b2 #[.string s] ty.string) (by simp [ChgC.its])
    show Calls Tryz.prog f.disk_Disk_Create_c1 #[.map (some m), ptrV b1, ptrV b2] w _
    apply R.disk_Disk_Create_c1_calls
    unfold R.disk_Disk_Create_c1
    exact ⟨_, S.cell k2 h2 rfl, _, S.cell k1 h1 rfl, S.mput i hi und_str und_names hml (max80 hz) fun w' S' => ⟨rfl, S'⟩⟩
  | rename b1 b2 b3 o s fb =>
    obtain ⟨k1, hk1, h1⟩ := hb (It.cells b1 #[.string o] ty.string) (by simp [ChgC.its])
    obtain ⟨k2, hk2, h2⟩ := hb (It.cells b2 #[ptrV fb] ty.P_disk_file) (by simp [ChgC.its])
    obtain ⟨k3, hk3, h3⟩ := hb (It.cells b3 #[.string s] ty.string) (by simp [ChgC.its])
    show Calls Tryz.prog f.disk_Disk_Rename_c1 #[.map (some m), ptrV b1, ptrV b2, ptrV b3] w _
    apply R.disk_Disk_Rename_c1_calls
    unfold R.disk_Disk_Rename_c1
    refine ⟨_, S.cell k1 h1 rfl, S.mdel i hi und_str und_names (max80 hz.1) fun w1 S1 => ⟨rfl, ?_⟩⟩
    have g2 := h2; have g3 := h3
    rw [← List.getElem?_set_ne (Ne.symm hk2) (a := dirI m n (fun y => if y = bl o then none else g y))] at g2
    rw [← List.getElem?_set_ne (Ne.symm hk3) (a := dirI m n (fun y => if y = bl o then none else g y))] at g3
    refine ⟨_, S1.cell k3 g3 rfl, _, S1.cell k2 g2 rfl, S1.mput i (List.getElem?_set_self hil) und_str und_names hml (max80 hz.2) fun w2 S2 => ⟨rfl, ?_⟩⟩
    rw [List.set_set] at S2
    exact S2
  | remove b1 s =>
    obtain ⟨k1, hk1, h1⟩ := hb (It.cells b1 #[.string s] ty.string) (by simp [ChgC.its])
    show Calls Tryz.prog f.disk_Disk_Remove_c1 #[.map (some m), ptrV b1] w _
    apply R.disk_Disk_Remove_c1_calls
    unfold R.disk_Disk_Remove_c1
    refine ⟨_, S.cell k1 h1 rfl, S.mdel i hi und_str und_names (max80 hz) fun w1 S1 => ⟨rfl, rfl, ?_⟩⟩
    have hm : MapP Tryz.prog ty.string w1 m n _ := S1.get i (List.getElem?_set_self hil)
    have S2 := S1.chg i (List.getElem?_set_self hil) (.refl _ _) (dirI m (n + 1) _) (hm.mono (Nat.le_succ n)) (fun k hk => .inl hk)
    rw [List.set_set] at S2
    exact S2
theorem chg_enters (c : ChgC) : enters Tryz.prog c.fn = true := by cases c <;> kernel_rfl
theorem turn_ok (c : ChgC) (S : ST w0 w (dkE D (c.its ++ E))) (h1 : -9223372036854775808 < D.fuse) (h2 : D.fuse ≤ 9223372036854775807) (hn : D.dn + 1 < 1000000) (hw : D.waits.length + 1 < 1000000) (hz : c.small) :
    Calls Tryz.prog f.disk_Disk_turn #[ptrV D.b, c.val] w (Ret fun v w' => (D.fused = true ∧ D.fuse = 0 ∧ v = .int .i64 183 ∧ ST w0 w' (dkE { D with off := true } (c.its ++ E))) ∨
      (¬ (D.fused = true ∧ D.fuse = 0) ∧ v = .int .i64 0 ∧ ∃ wa wc, ST w0 w' (dkE { D with fuse := D.fuse - 1, dir := c.app D.dir, dn := D.dn + 1, waits := D.waits ++ [c], wa := wa, wc := wc } E))) := by
  apply R.disk_Disk_turn_calls
  unfold R.disk_Disk_turn
  refine (change_ok S h1 h2).mono ?_
  rintro _ w1 ⟨_, rfl, ⟨hf, h0, rfl, S1⟩ | ⟨hno, rfl, S1⟩⟩
  · exact ⟨_, rfl, IFB_ne (fun _ => .inl ⟨hf, h0, rfl, S1⟩) (fun h => absurd h (by decide))⟩
  refine ⟨_, rfl, IFB_ne (fun h => absurd rfl h) (fun _ => ⟨_, S1.cell 0 rfl rfl, ?_⟩)⟩
  rw [chg_enters c]
  have hbx : ∀ x ∈ c.its, ∃ k, k ≠ 1 ∧ (dkE { D with fuse := D.fuse - 1 } (c.its ++ E))[k]? = some x := fun x hx => by
    have hm : x ∈ D.waits.flatMap ChgC.its ++ (D.files.flatMap FileC.its ++ (c.its ++ E)) := List.mem_append_right _ (List.mem_append_right _ (List.mem_append_left _ hx))
    obtain ⟨k, hk⟩ := List.mem_iff_getElem?.1 hm
    exact ⟨k + 4, by omega, hk⟩
  refine (chg_ok c S1 (i := 1) rfl hbx hn hz).mono ?_
  rintro _ w2 ⟨_, rfl, rfl, S2⟩
  have S2 : ST w0 w2 (dkE { D with fuse := D.fuse - 1, dir := c.app D.dir, dn := D.dn + 1 } (c.its ++ E)) := S2
  refine ⟨rfl, _, _, _, S2.cell 0 rfl rfl, S2.newB fun b10 w3 _ _ S3 => ?_⟩
  have hs : Rd w3 (some ⟨b10, 0, none⟩) [c.val] := S3.rdc 0 rfl
  refine S3.app 4 rfl tWaits rfl (by omega) (by omega) hs (mm := 1) rfl (by simp [ChgC.val]; rfl) (by show (D.waits.length + 1) * 8 ≤ 140737488355328; omega) fun wa wc w4 S4 => ⟨_, _, _, rfl, ?_⟩
  have S4 : ST w0 w4 (It.cells D.b { D with fuse := D.fuse - 1, dir := c.app D.dir, dn := D.dn + 1 }.cells ty.disk_Disk :: dirI D.db (D.dn + 1) (c.app D.dir) :: dirI D.lb D.ln D.last :: It.row tyFn 1 wa (D.waits.length + 1) wc (D.waits.map ChgC.val ++ [c.val]) :: (D.waits.flatMap ChgC.its ++ (D.files.flatMap FileC.its ++ (c.its ++ E)))) := S4.drop 1
  have el : (D.waits ++ [c]).length = D.waits.length + 1 := by simp
  have em : D.waits.map ChgC.val ++ [c.val] = (D.waits ++ [c]).map ChgC.val := by simp
  rw [em, ← el] at S4
  refine S4.sto 0 rfl (cs' := DiskC.cells { D with fuse := D.fuse - 1, dir := c.app D.dir, dn := D.dn + 1, waits := D.waits ++ [c], wa := wa, wc := wc }) (c8 (by decide)) ?_ fun w5 S5 => .inr ⟨hno, rfl, wa, wc, ?_⟩
  · simp [DiskC.cells]
  · exact S5.perm (dkE_wait { D with fuse := D.fuse - 1, dir := c.app D.dir, dn := D.dn + 1 } c E)
end
end Go.Proofs.YtfgbfodohmeamaaGreatDoor
namespace Go.Dn
set_option maxRecDepth 100000
set_option linter.unusedVariables false
open Go.RowKit (Below)
open Go.Maps (has Tidy Keyed)
open Go.ChangeMaps Go.MapKept Go.WideShapes
section
variable {P : Program} {k e t : TypeId} {w : World} {b n : Nat} {g : List UInt8 → Option Nat}
theorem rangeLeft_same {w w' : World} {b r : Nat} (h1 : w'.heap[b]? = w.heap[b]?) (h2 : w'.heap[r]? = w.heap[r]?) : w'.rangeLeft b r = w.rangeLeft b r := by
  simp only [World.rangeLeft, h1, h2]
theorem RanP.round {r : Nat} {ks : List (List UInt8)} (h : RanP P k w b r n g ks) (hk : P.underlying k = some .string) (ty : TypeId) {f0 : World → Prop} {f1 : Value → Value → World → Prop}
    (h0 : ks = [] → f0 w) (h1 : ∀ x c w', x ∈ ks → g x = some c → x.length ≤ maxLen → Keeps (· = r) w w' → RanP P k w' b r n g (ks.erase x) → w'.rangeLeft b r < w.rangeLeft b r →
      (Instr.entry (.pointer (some ⟨r, 0, none⟩))).run P w' = .ok (.tuple #[.string (sof x), ptrV c]) w' → f1 (.string (sof x)) (ptrV c) w') :
    OPN P (Instr.next (.pointer (some ⟨r, 0, none⟩)) false ty) f0 f1 w := by
  obtain ⟨D, left, cnt, hR, hT, hg, hnd, hmem, hok⟩ := h
  unfold OPN
  rcases hR.next (Maps.string_keyed hk) ty with ⟨_, hl, hrun⟩ | ⟨key, v, kl, y, w', cnt', hkey, hlk, hRv, hat, hrun, hR', hcnt, hgr, hsz, hent⟩
  · rw [hrun]
    refine .inl ⟨rfl, h0 (List.eq_nil_iff_forall_not_mem.2 fun x hx => ?_)⟩
    rw [hmem, hl] at hx
    cases hx
  · obtain ⟨x, hx1, rfl, hx3⟩ := Maps.keyOf_str hk hkey
    obtain ⟨o, rfl, ho⟩ := ptrE_inv hRv
    have hxk : x ∈ ks := (hmem x).2 hlk
    have h2 := (hg x).2
    rw [hat, ho] at h2
    obtain rfl := lit_ptr h2
    have e1 : key = .string (sof x) := hx1
    obtain ⟨hs, hlen⟩ := hok x hxk
    obtain ⟨c, hc⟩ := Option.isSome_iff_exists.1 hs
    have ep : ptrO (g x) = ptrV c := by rw [hc]; rfl
    rw [e1, ep] at hent
    rw [hrun, e1, ep]
    refine .inr ⟨_, _, rfl, h1 x c w' hxk hc hlen (.of_grownBy hgr) ⟨D, _, cnt', hR', hT, hg, hnd.erase x, fun z => ?_, fun z hz => hok z (List.mem_of_mem_erase hz)⟩ (by rw [hR.left_eq, hR'.left_eq]; exact hcnt) hent⟩
    rw [hnd.mem_erase_iff, hmem]
    simp only [Bool.and_eq_true, Bool.not_eq_true', Lit.sameKey, beq_eq_false_iff_ne, ne_eq]
    exact and_comm
end
def It.own (b : Nat) : It where
  blk := some b
  ok := fun w => b < w.heap.size
  st := fun w w' h h0 => by
    obtain ⟨o, ho⟩ : ∃ o, w.heap[b]? = some o := ⟨_, Array.getElem?_eq_getElem h0⟩
    exact (Array.getElem?_eq_some_iff.1 ((h b rfl).trans ho)).1
  lt := fun w h k hk => by cases hk; exact h
section
variable {P : Program} {k e t : TypeId} {w0 w : World} {H : List It} {b n : Nat} {g : List UInt8 → Option Nat}
theorem ST.freeze (S : ST w0 w H) (i : Nat) {x : It} (hi : H[i]? = some x) (hx : x.blk = some b) {o : Obj} (ho : w.heap[b]? = some o) : ST w0 w (H.set i (It.obj b o)) :=
  S.chg i hi (.refl _ _) (It.obj b o) ho (fun k hk => .inl (by cases hk; exact hx))
theorem ST.mrange (S : ST w0 w H) (i : Nat) (hi : H[i]? = some (It.mapP P k b n g)) (hk : P.underlying k = some .string) (ht : P.underlying t = some (.map k e)) {f : Value → World → Prop}
    (hf : ∀ r w' ks, RanP P k w' b r n g ks → (∀ x, x ∈ ks ↔ (g x).isSome = true) → ks.Nodup → ks.length ≤ n → ST w0 w' (It.own r :: H) → f (.pointer (some ⟨r, 0, none⟩)) w') : OPR P (Instr.range t (.map (some b))) f w := by
  refine MapP.range (S.get i hi) hk ht fun r w' ks hr B hR hm hl => hf r w' ks hR hm ?_ hl (S.add B (It.own r) hR.lt.1 (fun k hk => by cases hk; exact hr))
  obtain ⟨_, _, _, _, _, _, h, _⟩ := hR
  exact h
theorem ST.ranged {r : Nat} (S : ST w0 w (It.own r :: H)) {w' : World} (K : Keeps (· = r) w w') (hr : r < w'.heap.size) : ST w0 w' (It.own r :: H) :=
  S.chg 0 rfl (K.mono fun k _ h => by subst h; rfl) (It.own r) hr (fun k hk => .inl hk)
theorem ST.eput (S : ST w0 w H) (i : Nat) (hi : H[i]? = some (It.mapP P k b n g)) (hk : P.underlying k = some .string) (ht : P.underlying t = some (.map k e)) (hz : ∀ u : World, (zeroValue e).run P u = .ok (.pointer none) u) (hn : n < maxLen) {s : ByteArray} (hs : s.size ≤ maxLen) (c : Nat)
    {f : Value → World → Prop}
    (hf : ∀ v0 (st : Nat) w1 o1, ST w0 w1 (H.set i (It.obj b o1)) → (∀ w2 H2 j (f2 : World → Prop), ST w0 w2 H2 → H2[j]? = some (It.obj b o1) → (∀ w3, ST w0 w3 (H2.set j (It.mapP P k b (n + 1) (fun y => if y = bl s then some c else g y))) → f2 w3) →
      OPU P (Instr.entryStore t (.map (some b)) (.int .i64 (st : Int)) (ptrV c)) f2 w2) → f (.tuple #[v0, .int .i64 (st : Int)]) w1) : OPR P (Instr.mapEntry t (.map (some b)) (.string s)) f w := by
  have hM : MapP P k w b n g := S.get i hi
  obtain ⟨D, ⟨es, clock, hb, F, hsz, hD⟩, hT, hg⟩ := hM
  have hkey : keyOf P k (.string s) = some (.string (bl s)) := by simp [keyOf, hk, mapKey, hs, bl]
  obtain ⟨v0, st, es1, clock1, hrun, _, h2⟩ := WideElems.entry_then_store (WideMaps.string_law hk) ht hz hb F hkey
  unfold OPR
  rw [hrun]
  have K : ∀ {u : World} {q : Array MapEntry} {cl : Nat} {o' : Obj}, u.heap[b]? = some (.map q cl) → Keeps (fun k => (some b : Option Nat) = some k) u (setBlock u b o') := fun {u q cl o'} hu =>
    ⟨rfl, rfl, rfl, by simp [setBlock], fun k _ hk => heap_setBlock_other hu _ (fun e => hk (by rw [e]))⟩
  refine hf v0 st _ (.map es1 clock1) (S.chg i hi (K hb) (It.obj b (.map es1 clock1)) (heap_setBlock_same hb _) (fun k hk => .inl hk)) fun w2 H2 j f2 S2 hj hf2 => ?_
  have hb2 : w2.heap[b]? = some (.map es1 clock1) := S2.get j hj
  obtain ⟨es', clock', hst, hup⟩ := h2 w2 (ptrV c) hb2
  have hput : MapP P k (setBlock w b (.map es' clock')) b (n + 1) (fun y => if y = bl s then some c else g y) := by
    have hq := MapP.put (P := P) (o := some c) (f := fun w' => MapP P k w' b (n + 1) (fun y => if y = bl s then some c else g y)) ⟨D, ⟨es, clock, hb, F, hsz, hD⟩, hT, hg⟩ hk ht hn hs rfl (fun w' _ h => h)
    unfold OPU at hq
    rw [show (ptrO (some c)) = ptrV c from rfl, hup] at hq
    exact hq
  have hst : (Instr.entryStore t (.map (some b)) (.int .i64 (st : Int)) (ptrV c)).run P w2 = .ok () (setBlock w2 b (.map es' clock')) := hst
  unfold OPU
  rw [hst]
  refine hf2 _ (S2.chg j hj (K hb2) (It.mapP P k b (n + 1) _) ?_ (fun k hk => .inl hk))
  exact hput.same ((heap_setBlock_same hb2 _).trans (heap_setBlock_same hb _).symm)
end
end Go.Dn
namespace Go.Proofs.YtfgbfodohmeamaaGreatDoor
set_option maxRecDepth 100000
open Go.Dn Go.Proofs
open Go.RowKit (Below)
set_option linter.unusedVariables false
def dkH (D : DiskC) : List It := [It.cells D.b D.cells ty.disk_Disk, dirI D.db D.dn D.dir, dirI D.lb D.ln D.last, It.row tyFn 1 D.wa D.waits.length D.wc (D.waits.map ChgC.val)] ++ D.waits.flatMap ChgC.its
theorem dkE_eq (D : DiskC) (E : List It) : dkE D E = dkH D ++ (D.files.flatMap FileC.its ++ E) := by simp [dkE, dkH]
theorem dkE_pick {D : DiskC} {pre post : List FileC} {f : FileC} (h : D.files = pre ++ f :: post) (E : List It) : (dkE D E).Perm (f.its ++ dkE { D with files := pre ++ post } E) := by
  rw [dkE_eq, dkE_eq, h]
  have e1 : dkH D ++ ((pre ++ f :: post).flatMap FileC.its ++ E) = (dkH D ++ pre.flatMap FileC.its) ++ (f.its ++ (post.flatMap FileC.its ++ E)) := by simp
  have e2 : dkH { D with files := pre ++ post } ++ ((pre ++ post).flatMap FileC.its ++ E) = (dkH D ++ pre.flatMap FileC.its) ++ (post.flatMap FileC.its ++ E) := by
    have : dkH { D with files := pre ++ post } = dkH D := rfl
    rw [this]
    simp
  show (dkH D ++ ((pre ++ f :: post).flatMap FileC.its ++ E)).Perm (f.its ++ (dkH { D with files := pre ++ post } ++ ((pre ++ post).flatMap FileC.its ++ E)))
  rw [e1, e2]
  exact List.perm_append_comm_assoc _ _ _
def disk0 (b room db lb : Nat) : DiskC := ⟨b, room, 0, db, 0, fun _ => none, lb, 0, fun _ => none, none, 0, [], false, false, 0, []⟩
theorem disk0_ok {b room db lb m : Nat} (h : room ≤ 16777216) : DiskOk (disk0 b room db lb) m where
  room := h
  made := rfl
  nums := fun i h => absurd h (by simp [disk0])
  lasts := fun f h => by simp [disk0] at h
  len := fun f h => by simp [disk0] at h
  all := rfl
  inj := fun n _ x y b h => by simp [disk0, appAll] at h
  has := fun n _ x b h => by simp [disk0, appAll] at h
  small := fun c h => by simp [disk0] at h
  dn := Nat.zero_le _
  ln := Nat.zero_le _
  wn := Nat.zero_le _
  fn := Nat.zero_le _
  fuseLo := by simp [disk0]
  fuseHi := by simp [disk0]
  nm := fun n _ x b h => by simp [disk0, appAll] at h
theorem made_run (w : World) : (Instr.makeMap ty.disk_names none).run Tryz.prog w = .ok (.map (some w.heap.size)) (w.alloc (.map #[] 0)) := by
  simp [Instr.makeMap, go_sem, Result.andThen]
section
variable {w0 w : World} {D : DiskC} {E H : List It} {m : Nat}
theorem new_ok (S : ST w0 w H) (room : Int) : Calls Tryz.prog f.disk_New #[.int .i64 room] w (Ret fun v w' => ((room < 0 ∨ room > 16777216) ∧ v = .tuple #[.pointer none, .int .i64 2] ∧ w' = w) ∨
    ((0 ≤ room ∧ room ≤ 16777216) ∧ ∃ b db lb, v = .tuple #[ptrV b, .int .i64 0] ∧ ST w0 w' (dkE (disk0 b room.toNat db lb) H))) := by
  apply R.disk_New_calls
  unfold R.disk_New
  refine IFB_dec (fun h => .inl ⟨.inl h, rfl, rfl⟩) (fun h1 => IFB_dec (fun h => .inl ⟨.inr h, rfl, rfl⟩) (fun h2 => ?_))
  refine S.newMap (k := ty.string) _ (fun db w1 S1 => ⟨_, rfl, ?_⟩) (made_run w)
  refine S1.newMap (k := ty.string) _ (fun lb w2 S2 => ⟨_, rfl, ?_⟩) (made_run w1)
  refine S2.newB fun b w3 _ _ S3 => .inr ⟨⟨by omega, by omega⟩, b, db, lb, rfl, ?_⟩
  have S4 : ST w0 w3 (It.row tyFn 1 none 0 0 [] :: It.cells b #[.int .i64 room, .int .i64 0, .map (some db), .map (some lb), .slice none 0 0, .bool false, .bool false, .int .i64 0] ty.disk_Disk :: dirI lb 0 (fun _ => none) :: dirI db 0 (fun _ => none) :: H) := S3.nil tyFn 1
  have S5 := S4.pull 2 rfl
  have S6 := S5.pull 3 rfl
  have S7 := S6.pull 3 rfl
  have e : ((room.toNat : Nat) : Int) = room := Int.toNat_of_nonneg (by omega)
  have : dkE (disk0 b room.toNat db lb) H = (It.cells b #[.int .i64 room, .int .i64 0, .map (some db), .map (some lb), .slice none 0 0, .bool false, .bool false, .int .i64 0] ty.disk_Disk :: dirI db 0 (fun _ => none) :: dirI lb 0 (fun _ => none) :: It.row tyFn 1 none 0 0 [] :: H) := by
    simp [dkE, disk0, DiskC.cells, e]
  rw [this]
  exact S7
theorem files_nd (S : ST w0 w (dkE D E)) : D.files.Pairwise (fun f g => f.b ≠ g.b) := by
  have h := S.nd
  rw [dkE_eq] at h
  have h := (List.pairwise_append.1 (List.pairwise_append.1 h).2.1).1
  have h := (List.pairwise_flatMap.1 h).2
  refine h.imp fun {f g} hfg e => ?_
  exact hfg (It.cells f.b f.cells ty.disk_file) (by simp [FileC.its]) (It.cells g.b g.cells ty.disk_file) (by simp [FileC.its]) f.b rfl (by rw [e]; rfl)
def blown (D : DiskC) : Prop := D.fused = true ∧ D.fuse = 0
def StepE (D : DiskC) (e : Int) (D' : DiskC) (pre : Int) (ok : DiskC → Prop) : Prop := (pre ≠ 0 ∧ e = pre ∧ D' = D) ∨ (pre = 0 ∧ blown D ∧ e = 183 ∧ D' = { D with off := true }) ∨ (pre = 0 ∧ ¬ blown D ∧ e = 0 ∧ ok D')
def CreateR (D : DiskC) (s : ByteArray) (e : Int) (D' : DiskC) : Prop := StepE D e D' (liveE D.off [s]) fun D' => ∃ b1 b2 b wa wc,
  D' = { D with made := D.made + 1, fuse := D.fuse - 1, dir := (ChgC.create b1 b2 s b).app D.dir, dn := D.dn + 1, waits := D.waits ++ [.create b1 b2 s b], wa := wa, wc := wc, files := D.files ++ [⟨b, D.made + 1, none, 0, [], 0⟩] }
theorem create_ok (S : ST w0 w (dkE D E)) (hD : DiskOk D m) (hm : m + 1 < 1000000) (s : ByteArray) (hs : s.size ≤ 9223372036854775807) :
    Calls Tryz.prog f.disk_Disk_Create #[ptrV D.b, .string s] w (Ret fun v w' => ∃ e D', v = .int .i64 e ∧ ST w0 w' (dkE D' E) ∧ CreateR D s e D') := by
  apply R.disk_Disk_Create_calls
  unfold R.disk_Disk_Create
  refine S.newB fun b3 w1 _ _ S1 => ⟨_, S1.cell 0 rfl rfl, S1.newB fun b5 w2 _ _ S2 => ?_⟩
  have hc5 : w2.cell? ⟨D.b, 5, none⟩ = some (.bool D.off) := S2.cell 2 rfl rfl
  have hr : Rd w2 (some ⟨b5, 0, none⟩) ([s].map strV) := S2.rdc 0 rfl
  refine (live_ok hc5 [s] hr (by simp) (by simpa using hs)).mono ?_
  rintro _ w3 ⟨_, rfl, rfl, B3⟩
  have S3 := (S2.grown B3).drop 1
  refine ⟨_, rfl, IFB_ne (fun h => ⟨_, D, rfl, S3.drop 1, .inl ⟨h, rfl, rfl⟩⟩) (fun h => ?_)⟩
  have hn := (live1 h).2
  have hmade : D.made + 1 < 2000000 := by have := hD.made; have := hD.fn; omega
  have ew : IntKind.i64.wrap ((D.made : Int) + 1) = ((D.made + 1 : Nat) : Int) := wrap_succ (by omega)
  refine ⟨_, S3.cell 1 rfl rfl, ?_⟩
  rw [ew]
  refine S3.newB fun b10 w4 _ _ S4 => S4.newB fun b11 w5 _ _ S5 => S5.sto 0 rfl (cs' := #[ptrV b10]) (by simp) rfl fun w6 S6 => ?_
  have S6 : ST w0 w6 (It.cells b11 #[ptrV b10] ty.P_disk_file :: It.cells b10 (FileC.cells ⟨b10, D.made + 1, none, 0, [], 0⟩) ty.disk_file :: It.cells b3 #[.string s] ty.string :: dkE D E) := S6
  have S7 := S6.nil ty.uint8 1
  have S8 := S7.pull 2 rfl
  have S9 := S8.pull 3 rfl
  have S10 := S9.pull 3 rfl
  have S11 : ST w0 w6 ((ChgC.create b11 b3 s b10).its ++ (FileC.its ⟨b10, D.made + 1, none, 0, [], 0⟩ ++ dkE D E)) := S10
  have S12 : ST w0 w6 (dkE D ((ChgC.create b11 b3 s b10).its ++ (FileC.its ⟨b10, D.made + 1, none, 0, [], 0⟩ ++ E))) := by
    refine S11.perm ?_
    refine (List.Perm.append_left _ (dkE_perm D _ E).symm).trans (dkE_perm D _ _).symm
  refine (turn_ok (.create b11 b3 s b10) S12 (by have := hD.fuseLo; omega) hD.fuseHi (by have := hD.dn; omega) (by have := hD.wn; omega) (nameB_size hn)).mono ?_
  rintro _ w7 ⟨_, rfl, ⟨hf, h0, rfl, S13⟩ | ⟨hno, rfl, wa, wc, S13⟩⟩
  · refine ⟨_, rfl, IFB_eq (fun h => absurd h (by decide)) (fun _ => ⟨_, _, rfl, ?_, .inr (.inl ⟨h, ⟨hf, h0⟩, rfl, rfl⟩)⟩)⟩
    have := S13.sub (dkE_sub _ _ _)
    exact this.sub (dkE_sub _ _ _)
  · refine ⟨_, rfl, IFB_eq (fun _ => ?_) (fun h => absurd rfl h)⟩
    refine ⟨_, S13.cell 0 rfl rfl, ?_⟩
    rw [ew, dkE_file] at *
    refine S13.sto 0 rfl (cs' := DiskC.cells { D with made := D.made + 1, fuse := D.fuse - 1, dir := (ChgC.create b11 b3 s b10).app D.dir, dn := D.dn + 1, waits := D.waits ++ [.create b11 b3 s b10], wa := wa, wc := wc, files := D.files ++ [⟨b10, D.made + 1, none, 0, [], 0⟩] }) (c8 (by decide)) rfl fun w8 S14 => ?_
    have S15 : ST w0 w8 (dkE { D with made := D.made + 1, fuse := D.fuse - 1, dir := (ChgC.create b11 b3 s b10).app D.dir, dn := D.dn + 1, waits := D.waits ++ [.create b11 b3 s b10], wa := wa, wc := wc, files := D.files ++ [⟨b10, D.made + 1, none, 0, [], 0⟩] } E) := S14
    exact ⟨_, _, rfl, S15, .inr (.inr ⟨h, fun hb => hno hb, rfl, b11, b3, b10, wa, wc, rfl⟩)⟩
end
structure Dom (g : DirA) (ks : List (List UInt8)) : Prop where
  nd : ks.Nodup
  mem : ∀ x, x ∈ ks ↔ (g x).isSome = true
theorem Dom.perm {g : DirA} {ks ls : List (List UInt8)} (h : Dom g ks) (h' : Dom g ls) : ks.Perm ls := (List.perm_ext_iff_of_nodup h.nd h'.nd).2 fun x => (h.mem x).trans (h'.mem x).symm
def fileD (D : DiskC) (b : Nat) : Option FileC := D.files.find? fun f => f.b == b
def dataD (D : DiskC) (x : List UInt8) : List UInt8 := match D.dir x with
  | none => []
  | some b => match fileD D b with
    | none => []
    | some f => f.data
def sumD (D : DiskC) (ks : List (List UInt8)) : Nat := (ks.map fun x => (dataD D x).length).sum
theorem sumD_perm (D : DiskC) {ks ls : List (List UInt8)} (h : ks.Perm ls) : sumD D ks = sumD D ls := (h.map _).sum_nat
theorem fileD_of {D : DiskC} {pre post : List FileC} {f : FileC} (nd : D.files.Pairwise (fun f g => f.b ≠ g.b)) (h : D.files = pre ++ f :: post) : fileD D f.b = some f := by
  unfold fileD
  rw [h] at nd ⊢
  have hp := (List.pairwise_append.1 nd).2.2
  rw [List.find?_append]
  have : pre.find? (fun g => g.b == f.b) = none := List.find?_eq_none.2 fun g hg => by
    have := hp g hg f (by simp)
    simpa using this
  simp [this]
theorem fileD_mem {D : DiskC} {b : Nat} {f : FileC} (h : fileD D b = some f) : f ∈ D.files ∧ f.b = b := by
  unfold fileD at h
  exact ⟨List.mem_of_find?_eq_some h, by simpa using List.find?_some h⟩
theorem fileD_some {D : DiskC} {b : Nat} (h : ∃ f ∈ D.files, f.b = b) : ∃ f, fileD D b = some f := by
  obtain ⟨f, hf, rfl⟩ := h
  cases hh : fileD D f.b with
  | some g => exact ⟨g, rfl⟩
  | none =>
    have := List.find?_eq_none.1 hh f hf
    simp at this
theorem dataD_of {D : DiskC} {x : List UInt8} {b : Nat} {f : FileC} (h1 : D.dir x = some b) (h2 : fileD D b = some f) : dataD D x = f.data := by simp only [dataD, h1, h2]
theorem dataD_le {D : DiskC} {m : Nat} (h : DiskOk D m) (x : List UInt8) : (dataD D x).length ≤ 16777216 := by
  unfold dataD
  split
  · simp
  · split
    · simp
    · next f hf => exact h.len f (fileD_mem hf).1
theorem sumD_le {D : DiskC} {m : Nat} (h : DiskOk D m) (ks : List (List UInt8)) : sumD D ks ≤ ks.length * 16777216 := by
  induction ks with
  | nil => simp [sumD]
  | cons x ks ih =>
    have := dataD_le h x
    simp only [sumD, List.map_cons, List.sum_cons, List.length_cons] at *
    omega
theorem sumD_cons (D : DiskC) (x : List UInt8) (ks : List (List UInt8)) : sumD D (x :: ks) = (dataD D x).length + sumD D ks := by simp [sumD]
theorem sumD_mem (D : DiskC) {x : List UInt8} {ks : List (List UInt8)} (h : x ∈ ks) : sumD D ks = (dataD D x).length + sumD D (ks.erase x) := by
  rw [sumD_perm D (List.perm_cons_erase h), sumD_cons]
open Classical in
noncomputable def leftD (D : DiskC) : Int := if h : ∃ ks, Dom D.dir ks then (D.room : Int) - (sumD D h.choose : Int) else 0
theorem leftD_eq {D : DiskC} {ks : List (List UInt8)} (h : Dom D.dir ks) : leftD D = (D.room : Int) - (sumD D ks : Int) := by
  have hx : ∃ ks, Dom D.dir ks := ⟨ks, h⟩
  rw [leftD, dif_pos hx, sumD_perm D (hx.choose_spec.perm h)]
section
variable {w0 w : World} {D : DiskC} {E H : List It} {m : Nat}
theorem pick_ok (S : ST w0 w (dkE D E)) {b : Nat} (hb : ∃ f ∈ D.files, f.b = b) : ∃ pre f post, D.files = pre ++ f :: post ∧ f.b = b ∧ fileD D b = some f ∧ ST w0 w (f.its ++ dkE { D with files := pre ++ post } E) := by
  obtain ⟨f, hf, rfl⟩ := hb
  obtain ⟨pre, post, hfs⟩ := List.append_of_mem hf
  exact ⟨pre, f, post, hfs, rfl, fileD_of (files_nd S) hfs, S.perm (dkE_pick hfs E)⟩
theorem unpick (pre post : List FileC) (f : FileC) (S : ST w0 w (f.its ++ dkE { D with files := pre ++ post } E)) : ST w0 w (dkE { D with files := pre ++ f :: post } E) :=
  S.perm (dkE_pick (D := { D with files := pre ++ f :: post }) rfl E).symm
theorem dkE_cells {i : Nat} {f : FileC} (S : ST w0 w (dkE D E)) (hf : f ∈ D.files) : w.heap[f.b]? = some (.cells f.cells ty.disk_file (0, 0)) := by
  refine S.ok (It.cells f.b f.cells ty.disk_file) ?_
  rw [dkE_eq]
  exact List.mem_append_right _ (List.mem_append_left _ (List.mem_flatMap.2 ⟨f, hf, by simp [FileC.its]⟩))
theorem left_ok (S : ST w0 w (dkE D E)) (hD : DiskOk D m) (hm : m ≤ 1000000) :
    Calls Tryz.prog f.disk_Disk_Left #[ptrV D.b] w (Ret fun v w' => v = .int .i64 (leftD D) ∧ (∃ ks, Dom D.dir ks ∧ ks.length ≤ m) ∧ ST w0 w' (dkE D E)) := by
  apply R.disk_Disk_Left_calls
  unfold R.disk_Disk_Left
  refine IFB_false ⟨_, S.cell 0 rfl rfl, _, S.cell 0 rfl rfl, ?_⟩
  refine S.mrange 1 rfl und_str und_names fun r w1 ks hR hmem hnd hlen S1 => ⟨_, rfl, ?_⟩
  have hlen : ks.length ≤ m := Nat.le_trans hlen hD.dn
  have hdom : Dom D.dir ks := ⟨hnd, hmem⟩
  have hroom := hD.room
  have hsum := sumD_le hD ks
  refine ⟨fun st w2 => ∃ ls, RanP Tryz.prog ty.string w2 D.db r D.dn D.dir ls ∧ sumD D ls ≤ sumD D ks ∧ st = [.int .i64 ((D.room : Int) - (sumD D ks : Int) + (sumD D ls : Int))] ∧ ST w0 w2 (It.own r :: dkE D E), fun _ w2 => w2.rangeLeft D.db r,
    ⟨ks, hR, Nat.le_refl _, by congr 2; omega, S1⟩, ?_⟩
  rintro _ w2 ⟨ls, hR2, hle, hst, S2⟩
  cases hst
  refine hR2.round und_str _ (fun h0 => ?_) fun x c w3 hx hc hxl K hR3 hlt hent => ?_
  · subst h0
    refine ⟨?_, ⟨ks, hdom, hlen⟩, S2.drop 1⟩
    rw [leftD_eq hdom]
    simp [sumD]
  · have S3 := S2.ranged K hR3.lt.1
    unfold OPR
    rw [hent]
    refine ⟨_, _, rfl, ?_⟩
    obtain ⟨f, hf⟩ := fileD_some (hD.hasD hc)
    obtain ⟨hf1, hf2⟩ := fileD_mem hf
    have hcell := dkE_cells (i := 0) (S3.drop 1) hf1
    rw [hf2] at hcell
    have e1 : w3.cell? ⟨c, 1, none⟩ = some (.slice f.da f.data.length f.dc) := by simp [World.cell?, hcell, FileC.cells]
    have hdl := dataD_of hc hf
    have hs := sumD_mem D hx
    rw [hdl] at hs
    have e2 : IntKind.i64.wrap ((D.room : Int) - (sumD D ks : Int) + (sumD D ls : Int) - (f.data.length : Int)) = (D.room : Int) - (sumD D ks : Int) + (sumD D (ls.erase x) : Int) := by
      rw [wrap_i64 (by omega) (by omega)]
      omega
    refine ⟨_, _, _, e1, ⟨ls.erase x, hR3, by omega, ?_, S3⟩, hlt⟩
    rw [e2]
structure Up (g : DirA) (t : List (List UInt8)) : Prop where
  up : t.Pairwise (· < ·)
  mem : ∀ x, x ∈ t ↔ (g x).isSome = true
theorem Up.one {g h : DirA} {t u : List (List UInt8)} (ht : Up g t) (hu : Up h u) (he : ∀ x, (g x).isSome = (h x).isSome) : t = u :=
  IsRise.one (ls := t) ⟨ht.up, fun _ => Iff.rfl⟩ ⟨hu.up, fun x => by rw [hu.mem, ht.mem, he]⟩
theorem names_ok (S : ST w0 w (dkE D E)) (hD : DiskOk D m) (hm : m ≤ 1000000) :
    Calls Tryz.prog f.disk_Disk_Names #[ptrV D.b] w (Ret fun v w' => ∃ a c t, v = .slice a t.length c ∧ ST w0 w' (It.row ty.string 1 a t.length c (t.map encStr) :: dkE D E) ∧ (if D.off then t = [] else Up D.dir t) ∧ t.length ≤ m ∧ Below w.heap.size w w') := by
  apply R.disk_Disk_Names_calls
  unfold R.disk_Disk_Names
  have hc5 : w.cell? ⟨D.b, 5, none⟩ = some (.bool D.off) := S.cell 0 rfl rfl
  refine (live_ok (a := none) (c := 0) hc5 [] (Rd.nil w none) (by simp) (by simp)).mono ?_
  rintro _ w1 ⟨_, rfl, rfl, B1⟩
  have S1 := S.grown B1
  have hl : liveE D.off [] = if D.off then 183 else 0 := by unfold liveE; simp
  refine ⟨_, rfl, IFB_ne (fun h => ?_) (fun h => ?_)⟩
  · rw [hl] at h
    have ho : D.off = true := by cases hh : D.off with | true => rfl | false => simp [hh] at h
    exact ⟨none, 0, [], rfl, S1.nil _ _, by rw [ho]; rfl, Nat.zero_le _, B1⟩
  rw [hl] at h
  have ho : D.off = false := by cases hh : D.off with | false => rfl | true => simp [hh] at h
  refine ⟨_, S1.cell 0 rfl rfl, ?_⟩
  have hM : MapP Tryz.prog ty.string w1 D.db D.dn D.dir := S1.get 1 rfl
  obtain ⟨Dm, hDm, hsz, hnd, hmem⟩ := hM.keys und_str
  have hsz' : Maps.size Dm ≤ 1000000 := Nat.le_trans hsz (Nat.le_trans hD.dn hm)
  refine (callsIn_wide.1 (Tryz.maps_Keys_54 (some D.db) w1)).mono ?_
  rintro _ w2 ⟨rfl, rfl⟩
  refine ⟨_, _, _, rfl, (callsIn_wide.1 (Tryz.slices_Sorted_keys_53_54 D.db D.dn Dm ptrE w1 hDm (Nat.le_trans hsz' (by decide)) (by omega))).mono ?_⟩
  rintro _ w3 ⟨v, ss, rfl, hperm, hrow, _, hb⟩
  obtain ⟨a, c, rfl, hR, hnew⟩ := row_of_owns hrow
  have hr := rise_sort (ls := strKeys Dm) (hperm.nodup_iff.2 hnd) (fun x => hperm.mem_iff)
  have hlen : (ss.mergeSort (fun x y => decide (x ≤ y))).length = ss.length := List.length_mergeSort _
  have sz : w1.heap.size ≤ (w1.alloc (.cells #[.map (some D.db)] ty.disk_names)).heap.size := by simp
  have hl2 : (strKeys Dm).length = Maps.size Dm := by
    obtain ⟨D', hO', hT, _⟩ := hM
    obtain rfl : Dm = D' := by
      obtain ⟨es, c, hb, _, _, e1⟩ := hDm
      obtain ⟨es', c', hb', _, _, e2⟩ := hO'
      rw [hb] at hb'
      cases hb'
      rw [e1, e2]
    obtain ⟨es, rfl, _⟩ := hT
    simp [strKeys, Maps.size]
  refine ⟨_, _, _, rfl, a, c, ss.mergeSort (fun x y => decide (x ≤ y)), by rw [hlen], ?_, ?_, ?_, ?_⟩
  · refine S1.add (((Below.refl _ w1).alloc (Nat.le_refl _) _).trans (hb.mono sz)) (It.row ty.string 1 a (ss.mergeSort (fun x y => decide (x ≤ y))).length c ((ss.mergeSort (fun x y => decide (x ≤ y))).map encStr)) ?_ (fun k hk => Nat.le_trans sz (hnew k hk))
    rw [hlen]
    exact hR
  · rw [ho]
    exact ⟨hr.up, fun x => (hr.mem x).trans (hmem x)⟩
  · rw [hlen, hperm.length_eq, hl2]
    exact Nat.le_trans hsz hD.dn
  · exact below_trans B1 (((Below.refl _ w1).alloc (Nat.le_refl _) _).trans (hb.mono sz))
theorem namedE_zero {s : ByteArray} (h : (namedE D s).2 = 0) : nameB s = true ∧ D.off = false ∧ ∃ b, D.dir (bl s) = some b ∧ namedE D s = (some b, 0) := by
  unfold namedE at h ⊢
  split at h
  · next h1 => exact absurd h h1
  · next h1 =>
    have h2 : liveE D.off [s] = 0 := by simpa using h1
    rw [if_neg h1]
    cases hd : D.dir (bl s) with
    | none => simp [hd] at h
    | some b => exact ⟨(live1 h2).2, (live1 h2).1, b, rfl, rfl⟩
def readE (D : DiskC) (s : ByteArray) : ByteArray × Int := if (namedE D s).2 ≠ 0 then (⟨#[]⟩, (namedE D s).2) else (sof (dataD D (bl s)), 0)
theorem read_ok (S : ST w0 w (dkE D E)) (hD : DiskOk D m) (s : ByteArray) (hs : s.size ≤ 9223372036854775807) :
    Calls Tryz.prog f.disk_Disk_Read #[ptrV D.b, .string s] w (Ret fun v w' => v = .tuple #[.string (readE D s).1, .int .i64 (readE D s).2] ∧ ST w0 w' (dkE D E)) := by
  apply R.disk_Disk_Read_calls
  unfold R.disk_Disk_Read
  refine (named_ok S s hs).mono ?_
  rintro _ w1 ⟨_, rfl, rfl, S1⟩
  refine ⟨_, _, rfl, IFB_ne (fun h => ?_) (fun h => ?_)⟩
  · rw [readE, if_pos h]
    exact ⟨rfl, S1⟩
  obtain ⟨_, _, b, hb, hn⟩ := namedE_zero h
  rw [hn]
  obtain ⟨pre, f, post, hfs, rfl, hfd, S2⟩ := pick_ok S1 (hD.hasD hb)
  refine ⟨_, _, _, S2.cell 0 rfl rfl, ?_⟩
  refine string_of_bytes tbytes rfl (S2.rd 1 rfl) ⟨_, rfl, ?_, S1⟩
  rw [readE, if_neg (by simpa using h), dataD_of hb hfd]
end
end Go.Proofs.YtfgbfodohmeamaaGreatDoor
