/-
  Texts of this claim, laid one behind the other by a program of mine (install.py): Dn.Mem, Dn.Laws, Dn.Str, Dn.Laws2, Dn.Laws3, Dn.Laws4, K.Wire, K.Wire2, Dn.Crc, K.Sum, K.Wire3a, K.Wire3, K.Wp1, Dn.Maps, Dn.MapsB, Dn.Arr, Dn.Arr2, Dn.St, K.Wl1, K.Shelf, K.Sch2, K.Sch3, K.Sch4, K.Iter, K.Rise.
-/
import Derived.Test.YtfgbfodohmeamaaGreatDoorM2
import Derived.Below
import Derived.Laws.MakeOwn
import Derived.Laws.BytesString
import Derived.Laws.NewBlocks
import Derived.Laws.OwnMore
import Derived.Laws.StructEq
import Derived.Laws.Strings2
import Derived.Laws.BytesArg
import Derived.Test.YtfgbfodohmeamaaGreatDoorRead
import Derived.Test.YtfgbfodohmeamaaGreatDoorM1
import Derived.Maps.Own
import Derived.Maps.Views
import Derived.Sort.KeysCollected
import Derived.Laws.CopyRow
import Derived.Laws.IdiomCopy
import Derived.Shelf.Small.Strs
import Derived.Shelf.Strings.Search1
import Derived.Shelf.Strings.AsciiSet
import Derived.Test.YtfgbfodohmeamaaGreatDoorProg
import Derived.Shelf.SlIter.Nil
import Derived.Shelf.SortM.Plain
import Derived.Shelf.SortM.SortNone
import Derived.Ground.GgzProg
import Derived.Ground.SlgmProg
namespace Go.Dn
set_option maxRecDepth 100000
open Go.RowKit (Below)
/-! ## What stays -/
structure Keeps (F : Nat → Prop) (w w' : World) : Prop where
  os : w'.os = w.os
  tape : w'.tape = w.tape
  output : w'.output = w.output
  size : w.heap.size ≤ w'.heap.size
  block : ∀ k, k < w.heap.size → ¬ F k → w'.heap[k]? = w.heap[k]?
theorem Keeps.refl (F : Nat → Prop) (w : World) : Keeps F w w := ⟨rfl, rfl, rfl, Nat.le_refl _, fun _ _ _ => rfl⟩
theorem Keeps.trans {F G : Nat → Prop} {a b c : World} (h : Keeps F a b) (h' : Keeps G b c) (hs : ∀ k, k < a.heap.size → G k → F k) : Keeps F a c :=
  ⟨h'.os.trans h.os, h'.tape.trans h.tape, h'.output.trans h.output, Nat.le_trans h.size h'.size,
    fun k hk hn => (h'.block k (Nat.lt_of_lt_of_le hk h.size) fun hg => hn (hs k hk hg)).trans (h.block k hk hn)⟩
theorem Keeps.mono {F G : Nat → Prop} {a b : World} (h : Keeps F a b) (hs : ∀ k, k < a.heap.size → F k → G k) : Keeps G a b :=
  ⟨h.os, h.tape, h.output, h.size, fun k hk hn => h.block k hk fun hf => hn (hs k hk hf)⟩
theorem Keeps.of_below {F : Nat → Prop} {a b : World} (h : Below a.heap.size a b) : Keeps F a b := ⟨h.os, h.tape, h.output, h.size, fun k hk _ => h.block k hk⟩
theorem Keeps.below {F : Nat → Prop} {a b : World} {B : Nat} (h : Keeps F a b) (hB : B ≤ a.heap.size) (hs : ∀ k, k < B → ¬ F k) : Below B a b :=
  ⟨h.os, h.tape, h.output, h.size, fun k hk => h.block k (Nat.lt_of_lt_of_le hk hB) (hs k hk)⟩
theorem Keeps.alloc {F : Nat → Prop} {a w : World} (h : Keeps F a w) (o : Obj) : Keeps F a (w.alloc o) :=
  ⟨h.os, h.tape, h.output, Nat.le_trans h.size (by simp), fun k hk hn => (Below.heap_alloc w o k (Nat.lt_of_lt_of_le hk h.size)).trans (h.block k hk hn)⟩
theorem Keeps.drew {F : Nat → Prop} {a w : World} (h : Keeps F a w) : Keeps F a w.drew := ⟨h.os, h.tape, h.output, h.size, h.block⟩
theorem Keeps.setCell {F : Nat → Prop} {a w : World} (h : Keeps F a w) {p : Addr} (hp : F p.block ∨ a.heap.size ≤ p.block) (v : Value) : Keeps F a (w.setCell p v) :=
  ⟨h.os, h.tape, h.output, by simpa using h.size, fun k hk hn => by
    rw [Below.heap_setCell w p v k (by rintro rfl; rcases hp with hp | hp; exact hn hp; omega)]
    exact h.block k hk hn⟩
theorem Keeps.cell {F : Nat → Prop} {a b : World} (h : Keeps F a b) {p : Addr} {v : Value} (hc : a.cell? p = some v) (hn : ¬ F p.block) : b.cell? p = some v :=
  (World.cell?_of_block (w := a) (h.block p.block (World.block_lt_of_cell? a p hc) hn)).trans hc
theorem Keeps.at {F : Nat → Prop} {a b : World} (h : Keeps F a b) {k : Nat} {o : Obj} (hc : a.heap[k]? = some o) (hn : ¬ F k) : b.heap[k]? = some o :=
  (h.block k (Array.getElem?_eq_some_iff.1 hc).1 hn).trans hc
/-! ## Known blocks -/
abbrev Ent := Nat × Array Value × TypeId
structure SH (F : Nat → Prop) (w0 w : World) (H : List Ent) : Prop where
  keeps : Keeps F w0 w
  mem : ∀ x ∈ H, w.heap[x.1]? = some (.cells x.2.1 x.2.2 (0, 0))
  nodup : (H.map (·.1)).Nodup
  own : ∀ x ∈ H, F x.1 ∨ w0.heap.size ≤ x.1
section
variable {F : Nat → Prop} {w0 w : World} {H : List Ent}
theorem SH.lt (S : SH F w0 w H) {x : Ent} (hx : x ∈ H) : x.1 < w.heap.size := (Array.getElem?_eq_some_iff.1 (S.mem x hx)).1
theorem SH.start (F : Nat → Prop) (w : World) : SH F w w [] := ⟨.refl F w, by simp, by simp, by simp⟩
theorem SH.alloc (S : SH F w0 w H) (cs : Array Value) (t : TypeId) : SH F w0 (w.alloc (.cells cs t)) ((w.heap.size, cs, t) :: H) where
  keeps := S.keeps.alloc _
  mem := by
    intro x hx
    rcases List.mem_cons.1 hx with rfl | hx
    · exact heap_alloc_new w _
    · rw [Below.heap_alloc w _ x.1 (S.lt hx)]; exact S.mem x hx
  nodup := by
    simp only [List.map_cons, List.nodup_cons]
    refine ⟨fun hm => ?_, S.nodup⟩
    obtain ⟨x, hx, he⟩ := List.mem_map.1 hm
    have := S.lt hx
    omega
  own := by
    intro x hx
    rcases List.mem_cons.1 hx with rfl | hx
    · exact .inr S.keeps.size
    · exact S.own x hx
theorem SH.get (S : SH F w0 w H) (n : Nat) {b : Nat} {cs : Array Value} {t : TypeId} (hn : H[n]? = some (b, cs, t)) : w.heap[b]? = some (.cells cs t (0, 0)) :=
  S.mem _ (List.mem_of_getElem? hn)
theorem SH.cell (S : SH F w0 w H) (n : Nat) {b : Nat} {cs : Array Value} {t : TypeId} (hn : H[n]? = some (b, cs, t)) {i : Nat} {v : Value} (hv : cs[i]? = some v) : w.cell? ⟨b, i, none⟩ = some v := by
  have := S.get n hn
  simp [World.cell?, this, hv]
theorem nodup_ne {α : Type} {l : List α} (h : l.Nodup) {i j : Nat} {x y : α} (hi : l[i]? = some x) (hj : l[j]? = some y) (hne : i ≠ j) : x ≠ y := by
  obtain ⟨h1, rfl⟩ := List.getElem?_eq_some_iff.1 hi
  obtain ⟨h2, rfl⟩ := List.getElem?_eq_some_iff.1 hj
  intro he
  rcases Nat.lt_or_gt_of_ne hne with hlt | hlt
  · exact (List.pairwise_iff_getElem.1 h) i j h1 h2 hlt he
  · exact (List.pairwise_iff_getElem.1 h) j i h2 h1 hlt he.symm
theorem SH.setAt (S : SH F w0 w H) (n : Nat) {b : Nat} {cs : Array Value} {t : TypeId} (hn : H[n]? = some (b, cs, t)) {w' : World} {cs' : Array Value} (hk : Keeps (· = b) w w')
    (hb : w'.heap[b]? = some (.cells cs' t (0, 0))) : SH F w0 w' (H.set n (b, cs', t)) where
  keeps := S.keeps.trans hk fun k hlt he => by
    subst he
    rcases S.own _ (List.mem_of_getElem? hn) with h | h
    · exact h
    · exact absurd hlt (Nat.not_lt.2 h)
  mem := by
    intro x hx
    obtain ⟨i, hi⟩ := List.mem_iff_getElem?.1 hx
    by_cases hin : n = i
    · subst hin
      have hlt := (List.getElem?_eq_some_iff.1 hn).1
      rw [List.getElem?_set_self hlt] at hi
      cases hi
      exact hb
    · rw [List.getElem?_set_ne hin] at hi
      have hne : x.1 ≠ b := by
        refine nodup_ne S.nodup (i := i) (j := n) ?_ ?_ (Ne.symm hin)
        · simp [hi]
        · simp [hn]
      exact hk.at (S.mem x (List.mem_of_getElem? hi)) hne
  nodup := by
    have : (H.set n (b, cs', t)).map (·.1) = H.map (·.1) := by
      apply List.ext_getElem?
      intro i
      simp only [List.getElem?_map]
      by_cases hin : n = i
      · subst hin
        have hlt := (List.getElem?_eq_some_iff.1 hn).1
        rw [List.getElem?_set_self hlt, hn]
        rfl
      · rw [List.getElem?_set_ne hin]
    rw [this]
    exact S.nodup
  own := by
    intro x hx
    obtain ⟨i, hi⟩ := List.mem_iff_getElem?.1 hx
    by_cases hin : n = i
    · subst hin
      have hlt := (List.getElem?_eq_some_iff.1 hn).1
      rw [List.getElem?_set_self hlt] at hi
      cases hi
      exact S.own (b, cs, t) (List.mem_of_getElem? hn)
    · rw [List.getElem?_set_ne hin] at hi
      exact S.own x (List.mem_of_getElem? hi)
theorem keeps_setCell (w : World) (b i : Nat) (v : Value) : Keeps (· = b) w (w.setCell ⟨b, i, none⟩ v) := Keeps.setCell (F := (· = b)) (Keeps.refl _ w) (p := ⟨b, i, none⟩) (.inl rfl) v
theorem heap_setCell_at {w : World} {b i : Nat} {cs : Array Value} {t : TypeId} {f : Nat × Nat} (h : w.heap[b]? = some (.cells cs t f)) (v : Value) :
    (w.setCell ⟨b, i, none⟩ v).heap[b]? = some (.cells (cs.setIfInBounds i v) t f) := by
  simp [World.setCell, Array.getElem?_modify, h]
theorem SH.grown (S : SH F w0 w H) {w' : World} (h : Below w.heap.size w w') : SH F w0 w' H where
  keeps := S.keeps.trans (Keeps.of_below (F := fun _ => False) h) (by simp)
  mem := fun x hx => (h.block x.1 (S.lt hx)).trans (S.mem x hx)
  nodup := S.nodup
  own := S.own
end
end Go.Dn
namespace Go.Dn
set_option maxRecDepth 100000
open Go.RowKit (Below)
theorem addr_add_add (p : Addr) (x y : Nat) : (p.add x).add y = p.add (x + y) := by
  unfold Addr.add
  by_cases hx : x = 0
  · subst hx; simp
  · by_cases hy : y = 0
    · subst hy; simp
    · simp [hx, hy, Nat.add_assoc]
theorem addr_add_zero (p : Addr) : p.add 0 = p := by simp [Addr.add]
theorem addr_add_blk (b i j : Nat) : (⟨b, i, none⟩ : Addr).add j = ⟨b, i + j, none⟩ := by
  unfold Addr.add
  by_cases hj : j = 0
  · subst hj; simp
  · simp [hj]
theorem addr_add_block (p : Addr) (x : Nat) : (p.add x).block = p.block := by
  unfold Addr.add
  split <;> rfl
def Rd (w : World) (a : Option Addr) (vs : List Value) : Prop := ∀ j v, vs[j]? = some v → ∃ p, a = some p ∧ w.cell? (p.add j) = some v
theorem Rd.nil (w : World) (a : Option Addr) : Rd w a [] := by intro j v h; simp at h
theorem Rd.keeps {F : Nat → Prop} {w w' : World} {a : Option Addr} {vs : List Value} (h : Rd w a vs) (hk : Keeps F w w') (hn : ∀ p, a = some p → ¬ F p.block) : Rd w' a vs := by
  intro j v hv
  obtain ⟨p, hp, hc⟩ := h j v hv
  exact ⟨p, hp, hk.cell hc (by rw [addr_add_block]; exact hn p hp)⟩
theorem Rd.grown {w w' : World} {a : Option Addr} {vs : List Value} (h : Rd w a vs) (hk : Below w.heap.size w w') : Rd w' a vs :=
  h.keeps (F := fun _ => False) (Keeps.of_below hk) (by simp)
theorem Rd.take {w : World} {a : Option Addr} {vs : List Value} (h : Rd w a vs) (n : Nat) : Rd w a (vs.take n) := by
  intro j v hv
  rw [List.getElem?_take] at hv
  split at hv
  · exact h j v hv
  · cases hv
theorem Rd.drop {w : World} {p : Addr} {vs : List Value} (h : Rd w (some p) vs) (n : Nat) : Rd w (some (p.add n)) (vs.drop n) := by
  intro j v hv
  rw [List.getElem?_drop] at hv
  obtain ⟨q, hq, hc⟩ := h _ v hv
  cases hq
  exact ⟨_, rfl, by rw [addr_add_add]; exact hc⟩
theorem Rd.sla {w : World} {a : Option Addr} {vs : List Value} (h : Rd w a vs) (l hh m sz : Nat) (h2 : hh ≤ m) : Rd w (SLA a l m sz) ((vs.drop (l * sz)).take ((hh - l) * sz)) := by
  unfold SLA
  split
  · have : hh - l = 0 := by omega
    rw [this]
    simp [Rd]
  · cases a with
    | none =>
      intro j v hv
      rw [List.getElem?_take] at hv
      split at hv
      · rw [List.getElem?_drop] at hv
        obtain ⟨p, hp, _⟩ := h _ v hv
        cases hp
      · cases hv
    | some p => exact (h.drop (l * sz)).take _
theorem Rd.of_block {w : World} {b : Nat} {cs : Array Value} {t : TypeId} {f : Nat × Nat} (h : w.heap[b]? = some (.cells cs t f)) (i : Nat) : Rd w (some ⟨b, i, none⟩) (cs.toList.drop i) := by
  intro j v hv
  refine ⟨_, rfl, ?_⟩
  rw [addr_add_blk]
  rw [List.getElem?_drop] at hv
  simp [World.cell?, h]
  simpa using hv
theorem Rd.of_block0 {w : World} {b : Nat} {cs : Array Value} {t : TypeId} {f : Nat × Nat} (h : w.heap[b]? = some (.cells cs t f)) : Rd w (some ⟨b, 0, none⟩) cs.toList := by
  have := Rd.of_block h 0
  simpa using this
def rowB (a : Option Addr) : Option Nat := a.map (·.block)
def Row (w : World) (e : TypeId) (sz : Nat) (a : Option Addr) (n c : Nat) (xs : List Value) : Prop :=
  xs.length = n * sz ∧ ((a = none ∧ n = 0 ∧ c = 0) ∨
    ∃ g cur, a = some ⟨g, 0, none⟩ ∧ w.heap[g]? = some (.cells cur e (0, 0)) ∧ n ≤ c ∧ c ≤ 9223372036854775807 ∧ cur.size = c * sz ∧ cur.toList.take (n * sz) = xs)
theorem Row.nil (w : World) (e : TypeId) (sz : Nat) : Row w e sz none 0 0 [] := ⟨by simp, .inl ⟨rfl, rfl, rfl⟩⟩
theorem Row.rd {w : World} {e : TypeId} {sz : Nat} {a : Option Addr} {n c : Nat} {xs : List Value} (h : Row w e sz a n c xs) : Rd w a xs := by
  rcases h with ⟨hl, ⟨rfl, rfl, rfl⟩ | ⟨g, cur, rfl, hg, _, _, _, rfl⟩⟩
  · have : xs = [] := List.eq_nil_of_length_eq_zero (by simpa using hl)
    subst this
    exact Rd.nil _ _
  · exact (Rd.of_block0 hg).take _
theorem Row.le {w : World} {e : TypeId} {sz : Nat} {a : Option Addr} {n c : Nat} {xs : List Value} (h : Row w e sz a n c xs) : n ≤ c := by
  rcases h with ⟨_, ⟨_, rfl, rfl⟩ | ⟨_, _, _, _, h, _⟩⟩
  · exact Nat.le_refl _
  · exact h
theorem Row.lt {w : World} {e : TypeId} {sz : Nat} {a : Option Addr} {n c : Nat} {xs : List Value} (h : Row w e sz a n c xs) {k : Nat} (hk : rowB a = some k) : k < w.heap.size := by
  rcases h with ⟨_, ⟨rfl, _⟩ | ⟨g, cur, rfl, hg, _⟩⟩
  · cases hk
  · cases hk; exact (Array.getElem?_eq_some_iff.1 hg).1
theorem Row.keeps {F : Nat → Prop} {w w' : World} {e : TypeId} {sz : Nat} {a : Option Addr} {n c : Nat} {xs : List Value} (h : Row w e sz a n c xs) (hk : Keeps F w w') (hn : ∀ k, rowB a = some k → ¬ F k) : Row w' e sz a n c xs := by
  refine ⟨h.1, ?_⟩
  rcases h.2 with h | ⟨g, cur, rfl, hg, r⟩
  · exact .inl h
  · exact .inr ⟨g, cur, rfl, hk.at hg (hn g rfl), r⟩
theorem Row.grown {w w' : World} {e : TypeId} {sz : Nat} {a : Option Addr} {n c : Nat} {xs : List Value} (h : Row w e sz a n c xs) (hk : Below w.heap.size w w') : Row w' e sz a n c xs :=
  h.keeps (F := fun _ => False) (Keeps.of_below hk) (by simp)
def slT (P : Program) (t : TypeId) : Option (TypeId × Nat × Nat × Value) :=
  match P.underlying t with
  | some (.slice e) =>
    (match P.info? e with
    | some i => (match i.zero with
      | some z => some (e, i.size, i.bytes, z)
      | none => none)
    | none => none)
  | _ => none
theorem slT_out {P : Program} {t e : TypeId} {sz by_ : Nat} {z : Value} (h : slT P t = some (e, sz, by_, z)) : P.underlying t = some (.slice e) ∧ ∃ i, P.info? e = some i ∧ i.zero = some z ∧ i.size = sz ∧ i.bytes = by_ := by
  unfold slT at h
  split at h
  · rename_i e' hu
    split at h
    · rename_i i hi
      split at h
      · rename_i z' hz
        simp only [Option.some.injEq, Prod.mk.injEq] at h
        obtain ⟨rfl, rfl, rfl, rfl⟩ := h
        exact ⟨hu, i, hi, hz, rfl, rfl⟩
      · cases h
    · cases h
  · cases h
theorem keeps_setRow (w : World) (g : Nat) (cs : Array Value) : Keeps (· = g) w (w.setRow g cs) :=
  ⟨rfl, rfl, rfl, by simp [World.setRow], fun k _ hn => by simp only [World.setRow, Array.getElem?_modify]; rw [if_neg (fun h => hn h.symm)]⟩
theorem heap_setRow {w : World} {g : Nat} {cur cs : Array Value} {t : TypeId} {f : Nat × Nat} (h : w.heap[g]? = some (.cells cur t f)) : (w.setRow g cs).heap[g]? = some (.cells cs t f) := by
  simp [World.setRow, Array.getElem?_modify, h]
theorem append_row {P : Program} {t ty e : TypeId} {sz bytes : Nat} {z : Value} (hT : slT P t = some (e, sz, bytes, z)) (hz : z.cells.size = sz) (hsz : 0 < sz) (hb0 : 0 < bytes)
    {w : World} {a : Option Addr} {n c : Nat} {xs : List Value} (hr : Row w e sz a n c xs) {b : Option Addr} {m mc : Nat} {news : List Value} (hs : Rd w b news) (hl : news.length = m * sz)
    (h1 : ∀ u ∈ news, u.oneCell' = true) (hby : (n + m) * bytes ≤ 140737488355328) :
    ∃ a' c' w', (Builtin.append_ #[t, t] ty #[.slice a n c, .slice b m mc]).run P w = .ok (.slice a' (n + m) c') w' ∧ Row w' e sz a' (n + m) c' (xs ++ news) ∧
      Keeps (fun k => rowB a = some k) w w' ∧ (∀ k, rowB a' = some k → rowB a = some k ∨ w.heap.size ≤ k) := by
  obtain ⟨hu, i, hi, hiz, rfl, rfl⟩ := slT_out hT
  have hnm : n + m ≤ 140737488355328 := Nat.le_trans (Nat.le_mul_of_pos_right _ hb0) hby
  have hlen : (xs ++ news).length = (n + m) * i.size := by rw [List.length_append, hr.1, hl, Nat.add_mul]
  -- a grown row
  have grown : ∀ (old : Nat), old < n + m → Row (w.drew.alloc (.cells (xs.toArray ++ news.toArray ++ Builtin.zeroCells z.cells (grownCap w (n + m) old e - (n + m))) e)) e i.size
      (some ⟨w.heap.size, 0, none⟩) (n + m) (grownCap w (n + m) old e) (xs ++ news) := by
    intro old ho
    have hge := grownCap_ge w (n + m) old e
    have hcm : grownCap w (n + m) old e ≤ maxLen := grownCap_le_maxLen w (n + m) old e (by unfold maxLen; omega)
    refine ⟨hlen, .inr ⟨w.heap.size, _, rfl, heap_alloc_new w.drew _, hge, by unfold maxLen at hcm; omega, ?_, ?_⟩⟩
    · simp only [Array.size_append, List.size_toArray, size_zeroCells, hz, hr.1, hl, ← Nat.add_mul]
      congr 1
      omega
    · simp only [Array.toList_append, List.append_assoc]
      rw [← List.append_assoc, ← hlen]
      exact List.take_left
  have gkeeps : ∀ (cs : Array Value) (row : Nat → Prop), Keeps row w (w.drew.alloc (.cells cs e)) := fun cs row => (Keeps.refl row w).drew.alloc _
  have src : 0 < m → ∃ p, b = some p ∧ ∀ j u, news[j]? = some u → w.cell? (p.add j) = some u := by
    intro hm
    have h0 : 0 < news.length := by rw [hl]; exact Nat.mul_pos hm hsz
    obtain ⟨p, hp, _⟩ := hs 0 news[0] (List.getElem?_eq_getElem h0)
    refine ⟨p, hp, fun j u hu => ?_⟩
    obtain ⟨q, hq, hc⟩ := hs j u hu
    rw [hp] at hq
    cases hq
    exact hc
  have none0 : m = 0 → news = [] := fun hm => List.eq_nil_of_length_eq_zero (by rw [hl, hm]; simp)
  rcases hr.2 with ⟨rfl, rfl, rfl⟩ | ⟨g, cur, rfl, hg, hnc, hcm, hcs, htake⟩
  · have hx : xs = [] := List.eq_nil_of_length_eq_zero (by simpa using hr.1)
    subst hx
    by_cases hm : m = 0
    · have hn := none0 hm
      subst hm hn
      refine ⟨none, 0, w, ?_, by simpa using Row.nil w e i.size, .refl _ _, by simp [rowB]⟩
      cases b <;> simp [Builtin.append_, run_underlying hu, sizeOf, typeInfo, hi, Builtin.lenOf, Builtin.firstCells, loadCells, loadCellsFrom]
    · obtain ⟨p, rfl, hp⟩ := src (by omega)
      have hrun := run_append_nil (P := P) w t ty e i z hu hi hiz p m mc news hl hp (by omega) (by omega) (by simp only [Nat.zero_add] at hby; omega)
      have hrow := grown 0 (by omega)
      simp only [Nat.zero_add] at hrow hrun ⊢
      refine ⟨_, _, _, hrun, ?_, gkeeps _ _, fun k hk => .inr ?_⟩
      · simpa using hrow
      · simp [rowB] at hk; omega
  · by_cases hroom : n + m ≤ c
    · by_cases hm : m = 0
      · have hn := none0 hm
        subst hm hn
        refine ⟨some ⟨g, 0, none⟩, c, w, ?_, by simpa using hr, .refl _ _, fun k hk => .inl hk⟩
        cases b <;> simp [Builtin.append_, run_underlying hu, sizeOf, typeInfo, hi, Builtin.lenOf, Builtin.firstCells, loadCells, loadCellsFrom, hnc, storeCells]
      · obtain ⟨p, rfl, hp⟩ := src (by omega)
        have hfit : n * i.size + news.length ≤ cur.size := by rw [hl, hcs, ← Nat.add_mul]; exact Nat.mul_le_mul_right _ hroom
        have hrun := run_append_room (P := P) w t ty e i hu hi g n c cur hg p m mc news hl hp h1 hroom hfit
        have hxl : (List.take (n * i.size) cur.toList) = xs := htake
        refine ⟨_, _, _, hrun, ⟨hlen, .inr ⟨g, _, rfl, heap_setRow hg, hroom, hcm, ?_, ?_⟩⟩, (keeps_setRow w g _).mono (fun k _ h => by subst h; rfl), fun k hk => .inl hk⟩
        · simp only [List.size_toArray, List.length_append, List.length_take, List.length_drop, Array.length_toList]
          omega
        · rw [hxl]
          rw [← hlen]
          exact List.take_left
    · obtain ⟨p, rfl, hp⟩ := src (by omega)
      have hold : ∀ j v, xs[j]? = some v → w.cell? ((⟨g, 0, none⟩ : Addr).add j) = some v := by
        intro j v hv
        obtain ⟨q, hq, hc⟩ := hr.rd j v hv
        cases hq
        exact hc
      have hrun := run_append_grow (P := P) w t ty e i z hu hi hiz ⟨g, 0, none⟩ n c xs hr.1 hold p m mc news hl hp (by omega) (by omega) (growslice_fits (by omega) hby)
      refine ⟨_, _, _, hrun, grown c (by omega), gkeeps _ _, fun k hk => .inr ?_⟩
      simp [rowB] at hk
      omega
def bl (s : ByteArray) : List UInt8 := s.data.toList
def sof (l : List UInt8) : ByteArray := ⟨l.toArray⟩
def byteV (c : UInt8) : Value := .int .u8 (c.toNat : Int)
theorem bl_sof (l : List UInt8) : bl (sof l) = l := by simp [bl, sof]
theorem sof_bl (s : ByteArray) : sof (bl s) = s := by cases s; simp [bl, sof]
theorem bl_length (s : ByteArray) : (bl s).length = s.size := Array.length_toList
theorem size_sof (l : List UInt8) : (sof l).size = l.length := by simp [sof, ByteArray.size]
theorem bl_inj {s t : ByteArray} (h : bl s = bl t) : s = t := by rw [← sof_bl s, ← sof_bl t, h]
theorem extract_eq (s : ByteArray) (a b : Nat) : s.extract a b = sof (((bl s).drop a).take (b - a)) := by
  have h := ByteArray.extract_mk (bl s) a b
  have e : (ByteArray.mk (bl s).toArray) = s := sof_bl s
  rw [e] at h
  exact h
theorem bytesEq_iff (a b : ByteArray) : bytesEq a b = decide (a = b) := by
  unfold bytesEq
  rw [ByteArray.toList_eq, ByteArray.toList_eq]
  have : (a = b) ↔ a.data.toList = b.data.toList := ⟨fun h => by rw [h], fun h => bl_inj h⟩
  rw [Bool.eq_iff_iff]
  simp [this]
theorem sget_eq (s : ByteArray) (i : Nat) : sget s i = (bl s).getD i 0 := rfl
theorem byteV_one (c : UInt8) : (byteV c).oneCell' = true := rfl
def bytesT (P : Program) (st bt : TypeId) : Bool :=
  match P.underlying st, P.underlying bt with
  | some .string, some (.slice e) => (match P.underlying e with
    | some (.int .u8) => true
    | _ => false)
  | _, _ => false
theorem bytesT_out {P : Program} {st bt : TypeId} (h : bytesT P st bt = true) : P.underlying st = some .string ∧ ∃ e, P.underlying bt = some (.slice e) ∧ P.underlying e = some (.int .u8) := by
  unfold bytesT at h
  split at h
  · rename_i e hs hb
    split at h
    · rename_i he; exact ⟨hs, e, hb, he⟩
    · cases h
  · cases h
theorem freeze_keeps (F : Nat → Prop) (w : World) (p : Addr) (n : Nat) (hp : F p.block) : Keeps F w (w.freeze p n) := by
  unfold World.freeze
  split
  · exact .refl _ _
  · refine ⟨rfl, rfl, rfl, by simp, fun k _ hn => ?_⟩
    simp only [Array.getElem?_modify]
    rw [if_neg (fun h => hn (by rw [← h]; exact hp))]
theorem bytes_of_string {P : Program} {st bt : TypeId} (hT : bytesT P st bt = true) (s : ByteArray) (w : World) {f : Value → World → Prop}
    (hf : ∀ (b c : Nat) (cs : Array Value) (e : TypeId) (w' : World), b = w.heap.size → Below w.heap.size w w' → w'.heap[b]? = some (.cells cs e (cs.size, cs.size + 1)) → cs.size = c → s.size ≤ c →
      cs.toList.take s.size = (bl s).map byteV → f (.slice (some ⟨b, 0, none⟩) s.size c) w') : OPR P (convert st bt (.string s)) f w := by
  obtain ⟨hs, e, hb, he⟩ := bytesT_out hT
  let cap := grownCap w s.size 0 e
  let cs : Array Value := (s.data.map fun b => Value.int .u8 b.toNat) ++ Array.replicate (cap - s.size) (.int .u8 0)
  have hge : s.size ≤ cap := grownCap_ge w s.size 0 e
  have hsz : cs.size = cap := by
    have : s.data.size = s.size := rfl
    simp [cs, this]
    omega
  let w1 : World := w.drew.alloc (.cells cs e)
  have hw1 : w1.heap[w.heap.size]? = some (.cells cs e (0, 0)) := heap_alloc_new w.drew _
  have hshape : w1.shape? w.heap.size = some (e, cs.size) := by simp [World.shape?, hw1]
  have hrun : (convert st bt (.string s)).run P w = .ok (.slice (some ⟨w.heap.size, 0, none⟩) s.size cap) (w1.freeze ⟨w.heap.size, cs.size, none⟩ 1) := by
    have hq : (Question.appendCap s.size 0 e).forced = false := rfl
    have hnew : (newRow e cs).run P w.drew = .ok ⟨w.heap.size, 0, none⟩ w1 := rfl
    have hch : (choose (.appendCap s.size 0 e)).run P w = .ok cap w.drew := by
      rw [run_choose]
      simp [hq, cap, grownCap]
    have hmark : (markStringish ⟨w.heap.size, 0, none⟩).run P w1 = .ok () (w1.freeze ⟨w.heap.size, cs.size, none⟩ 1) := by
      simp [markStringish, hshape]
    simp only [convert, Sem.run_bind, run_underlying hs, run_underlying hb, run_underlying he, Result.andThen_ok, Conv.stringToBytes, hch, Sem.run_pure]
    simp only [cs] at hnew
    rw [hnew]
    simp only [Result.andThen_ok, hmark]
  unfold OPR
  rw [hrun]
  have hheap : (w1.freeze ⟨w.heap.size, cs.size, none⟩ 1).heap[w.heap.size]? = some (.cells cs e (cs.size, cs.size + 1)) := by
    unfold World.freeze
    simp [Array.getElem?_modify, hw1]
  refine hf _ _ cs e _ rfl ?_ hheap hsz hge ?_
  · have h1 : Keeps (fun k => k = w.heap.size) w w1 := (Keeps.refl _ w).drew.alloc _
    have h2 := freeze_keeps (fun k => k = w.heap.size) w1 ⟨w.heap.size, cs.size, none⟩ 1 rfl
    exact (h1.trans h2 (fun _ _ h => h)).below (Nat.le_refl _) (fun k hk he => by omega)
  · have hl : s.size = ((s.data.map fun b => Value.int .u8 b.toNat)).toList.length := by rw [Array.length_toList, Array.size_map]; rfl
    simp only [cs, Array.toList_append]
    rw [hl, List.take_left]
    simp [bl, byteV]
theorem push_bytes (l : List UInt8) : (l.map fun c => ((c.toNat : Nat) : Int)).foldl (fun r n => r.push (UInt8.ofNat n.toNat)) ByteArray.empty = sof l := by
  rw [foldl_push_bytes]
  apply bl_inj
  rw [bl_sof]
  show (ByteArray.empty.data ++ _).toList = l
  have h0 : ByteArray.empty.data.toList = [] := rfl
  rw [Array.toList_append, h0, List.nil_append, List.map_map, List.toList_toArray]
  have : ((fun n : Int => UInt8.ofNat n.toNat) ∘ fun c : UInt8 => ((c.toNat : Nat) : Int)) = id := by
    funext c
    simp
  rw [this, List.map_id]
theorem string_of_bytes {P : Program} {st bt : TypeId} (hT : bytesT P st bt = true) {w : World} {a : Option Addr} {l : List UInt8} {n c : Nat} (hn : n = l.length) (hr : Rd w a (l.map byteV)) {f : Value → World → Prop}
    (hf : f (.string (sof l)) w) : OPR P (convert bt st (.slice a n c)) f w := by
  obtain ⟨hs, e, hb, he⟩ := bytesT_out hT
  unfold OPR
  rw [run_convert_bytes_string w bt st e a n c hb he hs]
  cases a with
  | none =>
    have hl : l = [] := by
      cases l with
      | nil => rfl
      | cons x r =>
        obtain ⟨p, hp, _⟩ := hr 0 (byteV x) (by simp)
        cases hp
    subst hl
    have : sof [] = ByteArray.empty := rfl
    rw [this] at hf
    simpa [Conv.bytesToString] using hf
  | some p =>
    have hld : (loadCells p n).run P w = .ok ((l.map fun c => ((c.toNat : Nat) : Int)).map (Value.int .u8)).toArray w := by
      have := run_loadCells_list (P := P) w p (l.map byteV) (fun j v hv => by
        obtain ⟨q, hq, hc⟩ := hr j v hv
        cases hq
        exact hc)
      rw [List.length_map, ← hn] at this
      rw [this]
      congr 1
      simp [byteV, Function.comp_def]
    rw [run_bytesToString w p n c _ hld, push_bytes]
    exact hf
theorem Row.front {w : World} {e : TypeId} {sz : Nat} {a : Option Addr} {n c : Nat} {xs : List Value} (h : Row w e sz a n c xs) {i : Nat} (hi : i ≤ n) : Row w e sz a i c (xs.take (i * sz)) := by
  have hle : i * sz ≤ n * sz := Nat.mul_le_mul_right _ hi
  refine ⟨by rw [List.length_take, h.1]; omega, ?_⟩
  rcases h.2 with ⟨rfl, rfl, rfl⟩ | ⟨g, cur, rfl, hg, hnc, hcm, hcs, rfl⟩
  · exact .inl ⟨rfl, by omega, rfl⟩
  · refine .inr ⟨g, cur, rfl, hg, by omega, hcm, hcs, ?_⟩
    rw [List.take_take, Nat.min_eq_left hle]
end Go.Dn
namespace Go.Dn
open Go.RowKit (Below)
theorem SH.below {w0 w : World} {H : List Ent} (S : SH (fun _ => False) w0 w H) : Below w0.heap.size w0 w := S.keeps.below (Nat.le_refl _) (by simp)
end Go.Dn
namespace Go.Dn
open Go.RowKit (Below)
section
variable {F : Nat → Prop} {w0 w : World} {H : List Ent}
theorem SH.newB (S : SH F w0 w H) {cs : Array Value} {t : TypeId} {k : Nat → World → Prop} (hk : ∀ b w', w.heap.size ≤ b → Below w.heap.size w w' → SH F w0 w' ((b, cs, t) :: H) → k b w') : NEWB cs t k w :=
  hk _ _ (Nat.le_refl _) ((Below.refl _ w).alloc (Nat.le_refl _) _) (S.alloc cs t)
end
theorem madeCells_size (z : Array Value) (n : Nat) : (madeCells z n).size = n := by simp [madeCells]
theorem make_new {P : Program} {t e : TypeId} {sz bytes : Nat} {z : Value} (hT : slT P t = some (e, sz, bytes, z)) {w : World} {l c : Int} (h0 : 0 ≤ l) (hlc : l ≤ c) (hb : (bytes : Int) * c ≤ 281474976710656) (hc : c ≤ 9223372036854775807)
    {f : Value → World → Prop} {kl kc : IntKind} (hf : ∀ b w', w.heap.size ≤ b → Below w.heap.size w w' → w'.heap[b]? = some (.cells (madeCells z.cells (c.toNat * sz)) e (0, 0)) → f (.slice (some ⟨b, 0, none⟩) l.toNat c.toNat) w') :
    OPR P (Instr.makeSlice t (.int kl l) (.int kc c)) f w := by
  obtain ⟨hu, i, hi, hiz, rfl, rfl⟩ := slT_out hT
  unfold OPR
  rw [run_make w t e i z hu hi hiz kl kc l c h0 hlc hb hc]
  exact hf _ _ (Nat.le_refl _) ((Below.refl _ w).alloc (Nat.le_refl _) _) (heap_alloc_new w _)
theorem make_row0 {P : Program} {t e : TypeId} {sz bytes : Nat} {z : Value} (hT : slT P t = some (e, sz, bytes, z)) {w : World} {c : Nat} (hb : bytes * c ≤ 281474976710656) (hc : c ≤ 9223372036854775807)
    {f : Value → World → Prop} {kl kc : IntKind} (hf : ∀ b w', w.heap.size ≤ b → Below w.heap.size w w' → Row w' e sz (some ⟨b, 0, none⟩) 0 c [] → f (.slice (some ⟨b, 0, none⟩) 0 c) w') :
    OPR P (Instr.makeSlice t (.int kl 0) (.int kc (c : Int))) f w := by
  refine make_new hT (l := 0) (c := (c : Int)) (by omega) (by omega) ?_ (by omega) fun b w' h1 h2 h3 => ?_
  · rw [← Int.natCast_mul]
    omega
  · rw [Int.toNat_natCast] at h3 ⊢
    exact hf b w' h1 h2 ⟨by simp, .inr ⟨b, _, rfl, h3, by omega, hc, by rw [madeCells_size], by simp⟩⟩
theorem sto_blk {w : World} {b : Nat} {cs : Array Value} {t : TypeId} (hb : w.heap[b]? = some (.cells cs t (0, 0))) {i : Nat} {v : Value} {k : World → Prop} (hi : i < cs.size)
    (hk : ∀ w', Keeps (· = b) w w' → w'.heap[b]? = some (.cells (cs.setIfInBounds i v) t (0, 0)) → k w') : STO ⟨b, i, none⟩ v k w := by
  refine ⟨?_, ?_, hk _ (keeps_setCell w b i v) (heap_setCell_at hb v)⟩
  · simp [World.cell?, hb, hi]
  · simp [World.frozen?, hb]
section
variable {F : Nat → Prop} {w0 w : World} {H : List Ent}
end
theorem first_string {P : Program} {w : World} (s : ByteArray) : (Builtin.firstCells 1 s.size (.string s)).run P w = .ok ((bl s).map byteV).toArray w := by
  simp only [Builtin.firstCells, Sem.run_pure]
  congr 1
  apply Array.ext'
  have : s.extract 0 s.size = s := by rw [extract_eq]; apply bl_inj; rw [bl_sof, List.drop_zero, Nat.sub_zero, List.take_of_length_le (by rw [bl_length]; omega)]
  rw [this]
  simp [bl, byteV]
theorem append_string {P : Program} {t u ty e : TypeId} {bytes : Nat} {z : Value} (hT : slT P t = some (e, 1, bytes, z)) (hu' : P.underlying u = some .string) (hz : z.cells.size = 1) (hb0 : 0 < bytes)
    {w : World} {a : Option Addr} {n c : Nat} {xs : List Value} (hr : Row w e 1 a n c xs) (s : ByteArray) (hby : (n + s.size) * bytes ≤ 140737488355328) :
    ∃ a' c' w', (Builtin.append_ #[t, u] ty #[.slice a n c, .string s]).run P w = .ok (.slice a' (n + s.size) c') w' ∧ Row w' e 1 a' (n + s.size) c' (xs ++ (bl s).map byteV) ∧
      Keeps (fun k => rowB a = some k) w w' ∧ (∀ k, rowB a' = some k → rowB a = some k ∨ w.heap.size ≤ k) := by
  obtain ⟨hu, i, hi, hiz, hi1, rfl⟩ := slT_out hT
  have hnm : n + s.size ≤ 140737488355328 := Nat.le_trans (Nat.le_mul_of_pos_right _ hb0) hby
  have hl : ((bl s).map byteV).length = s.size := by rw [List.length_map, bl_length]
  have hlen : (xs ++ (bl s).map byteV).length = (n + s.size) * 1 := by rw [List.length_append, hr.1, hl]; omega
  have h1 : ∀ u ∈ (bl s).map byteV, u.oneCell' = true := by
    intro u hu
    obtain ⟨c, _, rfl⟩ := List.mem_map.1 hu
    exact byteV_one c
  have grown : ∀ (old : Nat), old < n + s.size → Row (w.drew.alloc (.cells (xs.toArray ++ ((bl s).map byteV).toArray ++ Builtin.zeroCells z.cells (grownCap w (n + s.size) old e - (n + s.size))) e)) e 1
      (some ⟨w.heap.size, 0, none⟩) (n + s.size) (grownCap w (n + s.size) old e) (xs ++ (bl s).map byteV) := by
    intro old ho
    have hge := grownCap_ge w (n + s.size) old e
    have hcm : grownCap w (n + s.size) old e ≤ maxLen := grownCap_le_maxLen w (n + s.size) old e (by unfold maxLen; omega)
    refine ⟨hlen, .inr ⟨w.heap.size, _, rfl, heap_alloc_new w.drew _, hge, by unfold maxLen at hcm; omega, ?_, ?_⟩⟩
    · simp only [Array.size_append, List.size_toArray, size_zeroCells, hz, hr.1, hl]
      omega
    · simp only [Array.toList_append, List.append_assoc]
      rw [← List.append_assoc, ← hlen]
      exact List.take_left
  have gkeeps : ∀ (cs : Array Value) (row : Nat → Prop), Keeps row w (w.drew.alloc (.cells cs e)) := fun cs row => (Keeps.refl row w).drew.alloc _
  have grow : ∀ (old : Nat) (olds : Value), (∀ w', w'.heap = w.heap → (Builtin.firstCells 1 n olds).run P w' = .ok xs.toArray w') → old < n + s.size → (∃ b0, olds = .slice b0 n old) →
      (Builtin.append_ #[t, u] ty #[olds, .string s]).run P w = .ok (.slice (some ⟨w.heap.size, 0, none⟩) (n + s.size) (grownCap w (n + s.size) old e))
        (w.drew.alloc (.cells (xs.toArray ++ ((bl s).map byteV).toArray ++ Builtin.zeroCells z.cells (grownCap w (n + s.size) old e - (n + s.size))) e)) := by
    rintro old _ hf ho ⟨b0, rfl⟩
    have hn : ¬ (n + s.size ≤ old) := by omega
    have h63' : ¬ (9223372036854775807 < ((n : Int) + (s.size : Int))) := by omega
    have h48' : ¬ (281474976710656 < Builtin.nextslicecap (n + s.size) old * i.bytes) := by have := growslice_fits (old := old) (need := n + s.size) ho hby; omega
    have hf' := hf w.drew rfl
    simp [Builtin.append_, run_underlying hu, run_underlying hu', sizeOf, typeInfo, zeroValue, hi, hiz, hi1, Builtin.lenOf, hn, h63', h48', Question.forced, hf', first_string, newRow, grownCap]
    congr 2
    apply Array.ext'
    simp [List.append_assoc]
  rcases hr.2 with ⟨rfl, rfl, rfl⟩ | ⟨g, cur, rfl, hg, hnc, hcm, hcs, htake⟩
  · have hx : xs = [] := List.eq_nil_of_length_eq_zero (by simpa using hr.1)
    subst hx
    by_cases hm : s.size = 0
    · have hn : (bl s).map byteV = [] := List.eq_nil_of_length_eq_zero (by rw [hl, hm])
      refine ⟨none, 0, w, ?_, by rw [hm, hn]; exact Row.nil w e 1, .refl _ _, by simp [rowB]⟩
      have := first_string (P := P) (w := w) s
      rw [hm] at this
      simp [Builtin.append_, run_underlying hu, run_underlying hu', sizeOf, typeInfo, hi, hi1, Builtin.lenOf, hm, this]
    · exact ⟨_, _, _, grow 0 (.slice none 0 0) (fun w' _ => by simp [Builtin.firstCells]) (by omega) ⟨_, rfl⟩, grown 0 (by omega), gkeeps _ _, fun k hk => .inr (by simp [rowB] at hk; omega)⟩
  · by_cases hroom : n + s.size ≤ c
    · have hfit : n + ((bl s).map byteV).length ≤ cur.size := by rw [hl, hcs]; omega
      have hst := run_storeCells_at P g n e ((bl s).map byteV) 0 cur w hg (by simpa using hfit) h1
      simp only [Nat.add_zero] at hst
      refine ⟨some ⟨g, 0, none⟩, c, _, ?_, ⟨hlen, .inr ⟨g, _, rfl, heap_setRow hg, hroom, hcm, ?_, ?_⟩⟩, (keeps_setRow w g (cur.toList.take n ++ (bl s).map byteV ++ cur.toList.drop (n + ((bl s).map byteV).length)).toArray).mono (fun k _ h => by subst h; rfl), fun k hk => .inl hk⟩
      · simp [Builtin.append_, run_underlying hu, run_underlying hu', sizeOf, typeInfo, hi, hi1, Builtin.lenOf, hroom, first_string, Addr.add_lit]
        rw [hst]
        simp
      · simp only [List.size_toArray, List.length_append, List.length_take, List.length_drop, Array.length_toList]
        omega
      · have hxl : cur.toList.take n = xs := by rw [← htake]; simp
        rw [hxl, ← hlen]
        exact List.take_left
    · have hold : ∀ w', w'.heap = w.heap → (Builtin.firstCells 1 n (.slice (some ⟨g, 0, none⟩) n c)).run P w' = .ok xs.toArray w' := by
        intro w' hw'
        refine run_firstCells_some (P := P) w' 1 n ⟨g, 0, none⟩ n c xs hr.1 fun j v hv => ?_
        obtain ⟨q, hq, hc⟩ := hr.rd j v hv
        cases hq
        have : w'.cell? ((⟨g, 0, none⟩ : Addr).add j) = w.cell? ((⟨g, 0, none⟩ : Addr).add j) := by unfold World.cell?; rw [hw']
        rw [this]
        exact hc
      exact ⟨_, _, _, grow c _ hold (by omega) ⟨_, rfl⟩, grown c (by omega), gkeeps _ _, fun k hk => .inr (by simp [rowB] at hk; omega)⟩
theorem append_zeros {P : Program} {t u ty e : TypeId} {sz bytes : Nat} {z : Value} (hT : slT P t = some (e, sz, bytes, z)) (hu' : P.underlying u = some (.int .i64)) (hz : z.cells.size = sz) (hsz : 0 < sz) (hb0 : 0 < bytes)
    {w : World} {m : Nat} (hm : 0 < m) (hby : m * bytes ≤ 140737488355328) :
    ∃ c' w', (Builtin.append_ #[t, u] ty #[.slice none 0 0, .int .i64 (m : Int)]).run P w = .ok (.slice (some ⟨w.heap.size, 0, none⟩) m c') w' ∧ Row w' e sz (some ⟨w.heap.size, 0, none⟩) 0 c' [] ∧ m ≤ c' ∧ Below w.heap.size w w' := by
  obtain ⟨hu, i, hi, hiz, rfl, rfl⟩ := slT_out hT
  have hnm : m ≤ 140737488355328 := Nat.le_trans (Nat.le_mul_of_pos_right _ hb0) hby
  have hge := grownCap_ge w m 0 e
  have hcm : grownCap w m 0 e ≤ maxLen := grownCap_le_maxLen w m 0 e (by unfold maxLen; omega)
  have hw : IntKind.i64.wrap (m : Int) = m := by rw [IntKind.wrap_i64]; omega
  have h1 : ¬ ((m : Int) < 0) := by omega
  have h2 : ¬ (281474976710656 < (m : Int) * (i.bytes : Int)) := by rw [← Int.natCast_mul]; omega
  have h3 : ¬ (m * i.size = 0) := by have := Nat.mul_pos hm hsz; omega
  have h4 : ¬ (m ≤ 0) := by omega
  have h5 : ¬ (9223372036854775807 < (m : Int)) := by omega
  have h6 : ¬ (281474976710656 < Builtin.nextslicecap m 0 * i.bytes) := by rw [nextslicecap_zero hm]; omega
  have h7 : ¬ (m = 0) := by omega
  have h8 : ¬ (i.size = 0) := by omega
  refine ⟨grownCap w m 0 e, w.drew.alloc (.cells (Builtin.zeroCells z.cells m ++ Builtin.zeroCells z.cells (grownCap w m 0 e - m)) e), ?_, ?_, hge, ((Below.refl _ w).drew).alloc (Nat.le_refl _) _⟩
  · simp [Builtin.append_, run_underlying hu, run_underlying hu', sizeOf, typeInfo, zeroValue, hi, hiz, asInt, asIntOf, hw, h1, h2, h5, h6, h7, Question.forced, Builtin.firstCells, newRow, grownCap]
    intro h
    exact absurd h h3
  · refine ⟨by simp, .inr ⟨w.heap.size, _, rfl, heap_alloc_new w.drew _, by omega, by unfold maxLen at hcm; omega, ?_, by simp⟩⟩
    rw [Array.size_append, size_zeroCells, size_zeroCells, hz, ← Nat.add_mul]
    congr 1
    omega
end Go.Dn
namespace Go.Proofs.YtfgbfodohmeamaaGreatDoor
set_option maxRecDepth 100000
open Go.Dn Go.Proofs
open Go.RowKit (Below)
set_option linter.unusedVariables false
theorem tbytes : bytesT Tryz.prog ty.string ty.L_uint8 = true := by kernel_rfl
theorem tB : slT Tryz.prog ty.L_uint8 = some (ty.uint8, 1, 1, .int .u8 0) := by kernel_rfl
theorem zB : (Value.int .u8 0).cells.size = 1 := rfl
theorem bytes_one (l : List UInt8) : ∀ u ∈ l.map byteV, u.oneCell' = true := by
  intro u hu
  obtain ⟨c, _, rfl⟩ := List.mem_map.1 hu
  exact byteV_one c
structure NewB (w w' : World) (l : List UInt8) (a : Option Addr) (c : Nat) : Prop where
  row : Row w' ty.uint8 1 a l.length c (l.map byteV)
  new : ∀ k, rowB a = some k → w.heap.size ≤ k
  bel : Below w.heap.size w w'
theorem below_trans {a b c : World} (h : Below a.heap.size a b) (h' : Below b.heap.size b c) : Below a.heap.size a c := h.trans (h'.mono h.size)
theorem NewB.rd {w w' : World} {l : List UInt8} {a : Option Addr} {c : Nat} (h : NewB w w' l a c) : Rd w' a (l.map byteV) := h.row.rd
theorem NewB.grown {w w' w2 : World} {l : List UInt8} {a : Option Addr} {c : Nat} (h : NewB w w' l a c) (hb : Below w'.heap.size w' w2) : NewB w w2 l a c := ⟨h.row.grown hb, h.new, below_trans h.bel hb⟩
theorem NewB.before {w0 w w' : World} {l : List UInt8} {a : Option Addr} {c : Nat} (hb : Below w0.heap.size w0 w) (h : NewB w w' l a c) : NewB w0 w' l a c := ⟨h.row, fun k hk => Nat.le_trans hb.size (h.new k hk), below_trans hb h.bel⟩
theorem append_byte {w : World} {a : Option Addr} {c : Nat} {l : List UInt8} (hr : Row w ty.uint8 1 a l.length c (l.map byteV)) (hl : l.length + 1 ≤ 140737488355328) {x : UInt8} {v : Value} (hv : v = byteV x) {b : Nat} {t : TypeId}
    (hb : w.heap[b]? = some (.cells #[v] t (0, 0))) {f : Value → World → Prop}
    (hf : ∀ a' c' w', Row w' ty.uint8 1 a' (l ++ [x]).length c' ((l ++ [x]).map byteV) → Keeps (fun k => rowB a = some k) w w' → (∀ k, rowB a' = some k → rowB a = some k ∨ w.heap.size ≤ k) → f (.slice a' (l ++ [x]).length c') w') :
    OPR Tryz.prog (Builtin.append_ #[ty.L_uint8, ty.L_uint8] ty.L_uint8 #[.slice a l.length c, .slice (some ⟨b, 0, none⟩) 1 1]) f w := by
  subst hv
  have hsrc : Rd w (some ⟨b, 0, none⟩) ([x].map byteV) := by
    have := Rd.of_block0 hb
    simpa using this
  obtain ⟨a', c', w', hrun, hrow, hk, hnew⟩ := append_row (ty := ty.L_uint8) (mc := 1) tB zB (by omega) (by omega) hr hsrc (m := 1) rfl (bytes_one _) (by omega)
  unfold OPR
  rw [hrun]
  have hlen : (l ++ [x]).length = l.length + 1 := by simp
  rw [← List.map_append, ← hlen] at hrow
  rw [← hlen]
  exact hf a' c' w' hrow hk hnew
theorem append_bytes {w : World} {a : Option Addr} {c : Nat} {l : List UInt8} (hr : Row w ty.uint8 1 a l.length c (l.map byteV)) {m : List UInt8} {b : Option Addr} {mc : Nat} (hb : Rd w b (m.map byteV)) (hl : l.length + m.length ≤ 140737488355328) {f : Value → World → Prop}
    (hf : ∀ a' c' w', Row w' ty.uint8 1 a' (l ++ m).length c' ((l ++ m).map byteV) → Keeps (fun k => rowB a = some k) w w' → (∀ k, rowB a' = some k → rowB a = some k ∨ w.heap.size ≤ k) → f (.slice a' (l ++ m).length c') w') :
    OPR Tryz.prog (Builtin.append_ #[ty.L_uint8, ty.L_uint8] ty.L_uint8 #[.slice a l.length c, .slice b m.length mc]) f w := by
  obtain ⟨a', c', w', hrun, hrow, hk, hnew⟩ := append_row (ty := ty.L_uint8) (mc := mc) tB zB (by omega) (by omega) hr hb (m := m.length) (by simp) (bytes_one _) (by omega)
  unfold OPR
  rw [hrun]
  have hlen : (l ++ m).length = l.length + m.length := by simp
  rw [← List.map_append, ← hlen] at hrow
  rw [← hlen]
  exact hf a' c' w' hrow hk hnew
theorem append_text {w : World} {a : Option Addr} {c : Nat} {l : List UInt8} (hr : Row w ty.uint8 1 a l.length c (l.map byteV)) (s : ByteArray) (hl : l.length + s.size ≤ 140737488355328) {f : Value → World → Prop}
    (hf : ∀ a' c' w', Row w' ty.uint8 1 a' (l ++ bl s).length c' ((l ++ bl s).map byteV) → Keeps (fun k => rowB a = some k) w w' → (∀ k, rowB a' = some k → rowB a = some k ∨ w.heap.size ≤ k) → f (.slice a' (l ++ bl s).length c') w') :
    OPR Tryz.prog (Builtin.append_ #[ty.L_uint8, ty.string] ty.L_uint8 #[.slice a l.length c, .string s]) f w := by
  obtain ⟨a', c', w', hrun, hrow, hk, hnew⟩ := append_string (ty := ty.L_uint8) tB (show Tryz.prog.underlying ty.string = some .string by kernel_rfl) zB (by omega) hr s (by omega)
  unfold OPR
  rw [hrun]
  have hlen : (l ++ bl s).length = l.length + s.size := by rw [List.length_append, bl_length]
  rw [← List.map_append, ← hlen] at hrow
  rw [← hlen]
  exact hf a' c' w' hrow hk hnew
/-! ### digits -/
def digitsL (n : Nat) : List UInt8 := if h : n < 128 then [UInt8.ofNat n] else UInt8.ofNat (n % 128 + 128) :: digitsL (n / 128)
termination_by n
decreasing_by omega
theorem digitsL_pos (n : Nat) : digitsL n ≠ [] := by unfold digitsL; split <;> simp
theorem digitsL_len : ∀ (k n : Nat), n < 128 ^ (k + 1) → (digitsL n).length ≤ k + 1
  | 0, n, h => by unfold digitsL; rw [dif_pos (by simpa using h)]; simp
  | k + 1, n, h => by
    unfold digitsL
    split
    · simp
    · have := digitsL_len k (n / 128) (by rw [Nat.pow_succ] at h; exact Nat.div_lt_of_lt_mul (by rw [Nat.mul_comm]; exact h))
      simp only [List.length_cons]
      omega
theorem digitsL_len10 {n : Nat} (h : n < 18446744073709551616) : (digitsL n).length ≤ 10 := digitsL_len 9 n (Nat.lt_trans h (by decide))
theorem and127 {n : Nat} (h : n < 18446744073709551616) : (BitVec.ofInt 64 (n : Int) &&& BitVec.ofInt 64 127).toNat = n % 128 := by
  rw [BitVec.toNat_and, BitVec.ofInt_natCast, BitVec.toNat_ofNat, Nat.mod_eq_of_lt (by omega)]
  have := Nat.and_two_pow_sub_one_eq_mod n 7
  exact this
theorem low7 {n : Nat} (h : n < 18446744073709551616) : IntKind.u8.wrap (IntKind.u64.wrap (((BitVec.ofInt 64 (n : Int) &&& BitVec.ofInt 64 127).toNat : Int))) = ((n % 128 : Nat) : Int) := by
  rw [and127 h, wrap_u64_id (by omega) (by omega), wrap_u8_id (by omega) (by omega)]
theorem or128 {x : Nat} (h : x < 128) : IntKind.u8.wrap (((BitVec.ofInt 8 (x : Int) ||| BitVec.ofInt 8 128).toNat : Int)) = ((x + 128 : Nat) : Int) := by
  have e : (BitVec.ofInt 8 (x : Int) ||| BitVec.ofInt 8 128).toNat = x + 128 := by
    rw [BitVec.toNat_or, BitVec.ofInt_natCast, BitVec.toNat_ofNat, Nat.mod_eq_of_lt (by omega)]
    have := Nat.two_pow_add_eq_or_of_lt (i := 7) (b := x) (by omega) 1
    rw [Nat.or_comm]
    have h2 : (BitVec.ofInt 8 128).toNat = 128 := by decide
    rw [h2]
    have h3 : 2 ^ 7 * 1 ||| x = 2 ^ 7 * 1 + x := this.symm
    have h4 : (128 : Nat) ||| x = 128 + x := h3
    rw [h4]
    omega
  rw [e, wrap_u8_id (by omega) (by omega)]
theorem shr7 (n : Nat) : Int.fdiv (n : Int) (2 ^ (min 7 64)) = ((n / 128 : Nat) : Int) := by
  rw [Int.fdiv_eq_ediv_of_nonneg _ (by decide)]
  norm_cast
theorem byteV_of {x : Nat} (h : x < 256) : Value.int .u8 (x : Int) = byteV (UInt8.ofNat x) := by
  unfold byteV
  congr 1
  simp
  omega
theorem wire_digits_ok (w : World) (n : Nat) (hn : n < 18446744073709551616) : Calls Tryz.prog f.wire_digits #[.int .u64 (n : Int)] w (Ret fun v w' => ∃ a c, v = .slice a (digitsL n).length c ∧ NewB w w' (digitsL n) a c) := by
  apply R.wire_digits_calls
  unfold R.wire_digits
  refine ⟨fun s w1 => ∃ (m : Nat) (a : Option Addr) (c : Nat) (l : List UInt8), s = [.int .u64 (m : Int), .slice a l.length c] ∧ m < 18446744073709551616 ∧ l ++ digitsL m = digitsL n ∧ NewB w w1 l a c,
    fun s _ => match s with
      | [.int _ i, _] => i.toNat
      | _ => 0, ⟨n, none, 0, [], rfl, hn, rfl, Row.nil _ _ _, by simp [rowB], .refl _ _⟩, ?_⟩
  rintro _ a _ c w1 ⟨m, _, _, l, hs, hm, hl, h1⟩
  cases hs
  have hlen : l.length + 1 ≤ 140737488355328 := by
    have := digitsL_len10 hn
    rw [← hl] at this
    simp at this
    omega
  rw [shr7, low7 hm]
  refine IFB_eq (fun h0 => ?_) (fun h0 => ?_)
  · have hm0 : m < 128 := by omega
    refine (SH.start (fun _ => False) w1).newB fun b5 w2 hb5 B2 S2 => ?_
    refine append_byte (h1.grown B2).row hlen (x := UInt8.ofNat m) (by rw [Nat.mod_eq_of_lt hm0]; exact byteV_of (by omega)) (S2.get 0 rfl) fun a' c' w3 R3 K3 N3 => ⟨_, _, _, rfl, ?_⟩
    have e : l ++ [UInt8.ofNat m] = digitsL n := by rw [← hl]; conv => rhs; unfold digitsL; rw [dif_pos hm0]
    rw [e] at R3
    rw [e]
    refine ⟨a', c', rfl, R3, fun k hk => ?_, (h1.grown B2).bel.trans (K3.below (h1.grown B2).bel.size fun k hk he => by have := h1.new k he; omega)⟩
    rcases N3 k hk with h | h
    · exact h1.new k h
    · exact Nat.le_trans (h1.grown B2).bel.size h
  · have hm0 : ¬ m < 128 := by omega
    rw [or128 (Nat.mod_lt _ (by omega))]
    refine (SH.start (fun _ => False) w1).newB fun b5 w2 hb5 B2 S2 => ?_
    refine append_byte (h1.grown B2).row hlen (x := UInt8.ofNat (m % 128 + 128)) (byteV_of (by omega)) (S2.get 0 rfl) fun a' c' w3 R3 K3 N3 => ⟨_, _, _, rfl, ?_⟩
    refine ⟨⟨m / 128, a', c', _, rfl, by omega, ?_, R3, fun k hk => ?_, (h1.grown B2).bel.trans (K3.below (h1.grown B2).bel.size fun k hk he => by have := h1.new k he; omega)⟩, ?_⟩
    · rw [← hl]
      conv => rhs; rhs; unfold digitsL; rw [dif_neg hm0]
      simp
    · rcases N3 k hk with h | h
      · exact h1.new k h
      · exact Nat.le_trans (h1.grown B2).bel.size h
    · simp only [Int.toNat_natCast]
      omega
/-! ### Concat -/
abbrev PartB := Option Addr × Nat × List UInt8
def partV1 (p : PartB) : Value := .slice p.1 p.2.2.length p.2.1
def flatB (ps : List PartB) : List UInt8 := ps.flatMap (·.2.2)
theorem flatB_take (ps : List PartB) (k : Nat) (hk : k < ps.length) : flatB (ps.take (k + 1)) = flatB (ps.take k) ++ ps[k].2.2 := by
  unfold flatB
  rw [List.take_succ_eq_append_getElem hk, List.flatMap_append]
  simp
theorem flatB_le (ps : List PartB) (k : Nat) : (flatB (ps.take k)).length ≤ (flatB ps).length := by
  have : flatB ps = flatB (ps.take k) ++ flatB (ps.drop k) := by
    unfold flatB
    rw [← List.flatMap_append, List.take_append_drop]
  rw [this, List.length_append]
  omega
theorem slices_Grow_nil (w : World) (n : Nat) (hn : n ≤ 140737488355328) : Calls Tryz.prog f.slices_Grow_byte_byte #[.slice none 0 0, .int .i64 (n : Int)] w
    (Ret fun v w' => ∃ a c, v = .slice a 0 c ∧ n ≤ c ∧ Row w' ty.uint8 1 a 0 c [] ∧ (∀ k, rowB a = some k → w.heap.size ≤ k) ∧ Below w.heap.size w w') := by
  apply R.slices_Grow_byte_byte_calls
  unfold R.slices_Grow_byte_byte
  have e0 : IntKind.i64.wrap (((0 : Nat) : Int) - ((0 : Nat) : Int)) = 0 := by rw [wrap_i64 (by omega) (by omega)]; omega
  have e1 : IntKind.i64.wrap ((n : Int) - 0) = (n : Int) := by rw [wrap_i64 (by omega) (by omega)]; omega
  refine IFB_dec (fun h => by omega) (fun _ => ?_)
  rw [e0, e1]
  refine IFB_dec (fun hp => ⟨⟨by omega, by omega, by omega⟩, ?_⟩) (fun hp => ?_)
  · obtain ⟨c', w', hrun, hrow, hc, hb⟩ := append_zeros (u := ty.int) (ty := ty.L_uint8) tB (show Tryz.prog.underlying ty.int = some (.int .i64) by kernel_rfl) zB (by omega) (by omega) (w := w) (m := n) (by omega) (by omega)
    have hs : SLA none 0 0 1 = none := rfl
    unfold OPR
    rw [hs]
    simp only [Nat.sub_zero, hrun]
    refine ⟨_, _, _, rfl, ⟨by omega, by omega, by omega⟩, some ⟨w.heap.size, 0, none⟩, c', ?_, hc, hrow, fun k hk => by simp [rowB] at hk; omega, hb⟩
    have : SLA (some (⟨w.heap.size, 0, none⟩ : Addr)) 0 c' 1 = some ⟨w.heap.size, 0, none⟩ := by
      unfold SLA
      split
      · rfl
      · simp [addr_add_zero]
    rw [this]
  · have : n = 0 := by omega
    subst this
    exact ⟨none, 0, rfl, Nat.le_refl _, Row.nil _ _ _, by simp [rowB], .refl _ _⟩
theorem slices_Concat_ok {w : World} {a : Option Addr} {c : Nat} (ps : List PartB) (hp : Rd w a (ps.map partV1)) (hb : ∀ p ∈ ps, Rd w p.1 (p.2.2.map byteV)) (hn : ps.length < 9223372036854775807) (hl : (flatB ps).length ≤ 140737488355328) :
    Calls Tryz.prog f.slices_Concat_byte_byte #[.slice a ps.length c] w (Ret fun v w' => ∃ a c, v = .slice a (flatB ps).length c ∧ NewB w w' (flatB ps) a c) := by
  apply R.slices_Concat_byte_byte_calls
  unfold R.slices_Concat_byte_byte
  refine ⟨fun s w1 => ∃ k : Nat, s = [.int .i64 ((flatB (ps.take k)).length : Int), .int .i64 k] ∧ k ≤ ps.length ∧ w1 = w,
    fun s _ => match s with
      | [_, .int _ i] => ps.length - i.toNat
      | _ => 0, ⟨0, rfl, Nat.zero_le _, rfl⟩, ?_⟩
  rintro _ _ w1 ⟨k, hs, hk, rfl⟩
  cases hs
  refine IFB_dec (fun hlt => ⟨⟨by omega, hlt⟩, ?_⟩) (fun hge => ?_)
  · have hkl : k < ps.length := by omega
    obtain ⟨p, rfl, hc⟩ := hp k (partV1 ps[k]) (by simp [hkl])
    have h1 := flatB_le ps (k + 1)
    rw [flatB_take ps k hkl, List.length_append] at h1
    refine ⟨_, _, _, by rw [Int.toNat_natCast, Nat.mul_one]; exact hc, ?_⟩
    have e : IntKind.i64.wrap (((flatB (ps.take k)).length : Int) + (ps[k].2.2.length : Int)) = ((flatB (ps.take (k + 1))).length : Int) := by
      rw [flatB_take ps k hkl, List.length_append, wrap_i64 (by omega) (by omega)]; omega
    rw [e]
    refine IFB_dec (fun h => by omega) (fun _ => ?_)
    rw [wrap_succ (by omega)]
    refine ⟨⟨k + 1, rfl, by omega, rfl⟩, ?_⟩
    simp only [Int.toNat_natCast]
    omega
  · have hke : k = ps.length := by omega
    subst hke
    rw [List.take_length]
    refine (slices_Grow_nil w1 _ hl).mono ?_
    rintro _ w2 ⟨_, rfl, a2, c2, rfl, hc2, R2, N2, B2⟩
    refine ⟨_, _, _, rfl, ?_⟩
    refine ⟨fun s w3 => ∃ (k : Nat) (a3 : Option Addr) (c3 : Nat), s = [.slice a3 (flatB (ps.take k)).length c3, .int .i64 k] ∧ k ≤ ps.length ∧ NewB w1 w3 (flatB (ps.take k)) a3 c3,
      fun s _ => match s with
        | [_, .int _ i] => ps.length - i.toNat
        | _ => 0, ⟨0, a2, c2, rfl, Nat.zero_le _, R2, N2, B2⟩, ?_⟩
    rintro a3 _ c3 _ w3 ⟨k, _, _, hs, hk, h3⟩
    cases hs
    refine IFB_dec (fun hlt => ⟨⟨by omega, hlt⟩, ?_⟩) (fun hge => ?_)
    · have hkl : k < ps.length := by omega
      obtain ⟨p, rfl, hc⟩ := (hp.grown h3.bel) k (partV1 ps[k]) (by simp [hkl])
      have h1 := flatB_le ps (k + 1)
      rw [flatB_take ps k hkl, List.length_append] at h1
      refine ⟨_, _, _, by rw [Int.toNat_natCast, Nat.mul_one]; exact hc, ?_⟩
      refine append_bytes h3.row ((hb _ (List.getElem_mem hkl)).grown h3.bel) (by omega) fun a' c' w4 R4 K4 N4 => ⟨_, _, _, rfl, ?_⟩
      rw [← flatB_take ps k hkl] at R4 ⊢
      rw [wrap_succ (by omega)]
      refine ⟨⟨k + 1, a', c', rfl, by omega, R4, fun j hj => ?_, h3.bel.trans (K4.below h3.bel.size fun j hj he => by have := h3.new j he; omega)⟩, ?_⟩
      · rcases N4 j hj with h | h
        · exact h3.new j h
        · exact Nat.le_trans h3.bel.size h
      · simp only [Int.toNat_natCast]
        omega
    · have hke : k = ps.length := by omega
      subst hke
      rw [List.take_length] at h3 ⊢
      exact ⟨a3, c3, rfl, h3⟩
theorem flat2 (a b : PartB) : flatB [a, b] = a.2.2 ++ b.2.2 := by simp [flatB]
theorem flat3 (a b c : PartB) : flatB [a, b, c] = a.2.2 ++ (b.2.2 ++ c.2.2) := by simp [flatB]
theorem wire_Number_ok {w : World} {a : Option Addr} {c : Nat} (l : List UInt8) (hl : Rd w a (l.map byteV)) (n : Nat) (hn : n < 18446744073709551616) (hs : l.length + 10 ≤ 140737488355328) :
    Calls Tryz.prog f.wire_Number #[.slice a l.length c, .int .u64 (n : Int)] w (Ret fun v w' => ∃ a c, v = .slice a (l ++ digitsL n).length c ∧ NewB w w' (l ++ digitsL n) a c) := by
  apply R.wire_Number_calls
  unfold R.wire_Number
  refine (wire_digits_ok w n hn).mono ?_
  rintro _ w1 ⟨_, rfl, a1, c1, rfl, h1⟩
  refine ⟨_, _, _, rfl, (SH.start (fun _ => False) w1).newB fun b5 w2 hb5 B2 S2 => ?_⟩
  have hd := digitsL_len10 hn
  have h2 := h1.grown B2
  refine (slices_Concat_ok [(a, c, l), (a1, c1, digitsL n)] (by have := Rd.of_block0 (S2.get 0 rfl); simpa [partV1] using this) (by
    intro p hp
    simp only [List.mem_cons, List.not_mem_nil, or_false] at hp
    rcases hp with rfl | rfl
    · exact hl.grown h2.bel
    · exact h2.rd) (by simp) (by rw [flat2]; simp; omega)).mono ?_
  rintro _ w3 ⟨_, rfl, a3, c3, rfl, h3⟩
  rw [flat2] at h3 ⊢
  exact ⟨_, _, _, rfl, a3, c3, rfl, h3.before h2.bel⟩
def textL (s : ByteArray) : List UInt8 := digitsL s.size ++ bl s
theorem wire_Text_ok {w : World} {a : Option Addr} {c : Nat} (l : List UInt8) (hl : Rd w a (l.map byteV)) (s : ByteArray) (hz : s.size ≤ 1048576) (hs : l.length + 10 + s.size ≤ 140737488355328) :
    Calls Tryz.prog f.wire_Text #[.slice a l.length c, .string s] w (Ret fun v w' => ∃ a c, v = .tuple #[.slice a (l ++ textL s).length c, .int .i64 0] ∧ NewB w w' (l ++ textL s) a c) := by
  apply R.wire_Text_calls
  unfold R.wire_Text
  refine IFB_dec (fun h => by omega) (fun _ => ?_)
  rw [wrap_u64_id (by omega) (by omega)]
  refine (wire_digits_ok w s.size (by omega)).mono ?_
  rintro _ w1 ⟨_, rfl, a1, c1, rfl, h1⟩
  have hd := digitsL_len10 (n := s.size) (by omega)
  refine ⟨_, _, _, rfl, bytes_of_string tbytes s w1 fun b c2 cs e w2 hb B2 hh hcs hsc htk => ⟨_, _, _, rfl, (SH.start (fun _ => False) w2).newB fun b7 w3 hb7 B3 S3 => ?_⟩⟩
  have hrd : Rd w2 (some ⟨b, 0, none⟩) ((bl s).map byteV) := by rw [← htk]; exact (Rd.of_block0 hh).take _
  have h3 := (h1.grown B2).grown B3
  have hbl := bl_length s
  refine (slices_Concat_ok [(a, c, l), (a1, c1, digitsL s.size), (some ⟨b, 0, none⟩, c2, bl s)] (by have := Rd.of_block0 (S3.get 0 rfl); simpa [partV1, hbl] using this) (by
    intro p hp
    simp only [List.mem_cons, List.not_mem_nil, or_false] at hp
    rcases hp with rfl | rfl | rfl
    · exact hl.grown h3.bel
    · exact h3.rd
    · exact hrd.grown B3) (by simp) (by rw [flat3]; simp; omega)).mono ?_
  rintro _ w4 ⟨_, rfl, a3, c3, rfl, h4⟩
  rw [flat3] at h4 ⊢
  exact ⟨_, _, _, rfl, a3, c3, rfl, h4.before h3.bel⟩
def readN (i acc : Nat) : List UInt8 → Option (Nat × Nat)
  | [] => none
  | c :: r => if 9 < i ∨ (i = 9 ∧ c.toNat ≠ 1) then none else if c.toNat < 128 then (if c.toNat = 0 ∧ 0 < i then none else some (acc + c.toNat * 128 ^ i, i + 1)) else readN (i + 1) (acc + (c.toNat % 128) * 128 ^ i) r
def takeN (l : List UInt8) (at_ : Int) : Option (Nat × Nat) := if at_ < 0 then none else (readN 0 0 (l.drop at_.toNat)).map fun x => (x.1, at_.toNat + x.2)
def numV (o : Option (Nat × Nat)) : Value :=
  match o with
  | some x => .tuple #[.int .u64 (x.1 : Int), .int .i64 (x.2 : Int), .int .i64 0]
  | none => .tuple #[.int .u64 0, .int .i64 0, .int .i64 20]
theorem readN_bounds : ∀ (l : List UInt8) (i acc n k : Nat), acc < 128 ^ i → readN i acc l = some (n, k) → n < 18446744073709551616 ∧ i < k ∧ k ≤ i + l.length ∧ k ≤ 10 ∧ (0 < i → 128 ^ i ≤ n)
  | [], _, _, _, _, _, h => by simp [readN] at h
  | c :: r, i, acc, n, k, ha, h => by
    unfold readN at h
    split at h
    · cases h
    · rename_i hi
      split at h
      · rename_i hc
        split at h
        · cases h
        · rename_i hz
          simp only [Option.some.injEq, Prod.mk.injEq] at h
          obtain ⟨rfl, rfl⟩ := h
          refine ⟨?_, by omega, by simp, by omega, fun h0 => ?_⟩
          · by_cases h9 : i = 9
            · subst h9
              have : c.toNat = 1 := by omega
              rw [this]
              have : (128 : Nat) ^ 9 = 9223372036854775808 := by decide
              omega
            · have hp : (128 : Nat) ^ i ≤ 128 ^ 8 := Nat.pow_le_pow_right (by omega) (by omega)
              have : (128 : Nat) ^ 8 = 72057594037927936 := by decide
              have h3 : c.toNat * 128 ^ i ≤ 127 * 128 ^ i := Nat.mul_le_mul_right _ (by omega)
              omega
          · have h1 : 1 ≤ c.toNat := by omega
            have : 1 * 128 ^ i ≤ c.toNat * 128 ^ i := Nat.mul_le_mul_right _ h1
            omega
      · rename_i hc
        have hi8 : i ≤ 8 := by omega
        have hpow : (128 : Nat) ^ (i + 1) = 128 ^ i * 128 := Nat.pow_succ ..
        have h3 : (c.toNat % 128) * 128 ^ i ≤ 127 * 128 ^ i := Nat.mul_le_mul_right _ (by omega)
        obtain ⟨h1, h2, h4, h5, h6⟩ := readN_bounds r (i + 1) _ n k (by omega) h
        refine ⟨h1, by omega, by simp; omega, h5, fun _ => ?_⟩
        have := h6 (by omega)
        omega
theorem pow128 (i : Nat) : (128 : Nat) ^ i = 2 ^ (7 * i) := by rw [Nat.pow_mul]
theorem or_step {acc c i : Nat} (ha : acc < 128 ^ i) (hc : c < 128) (hi : i ≤ 9) (h9 : i = 9 → c ≤ 1) :
    acc + c * 128 ^ i < 18446744073709551616 ∧ (BitVec.ofInt 64 (acc : Int) ||| BitVec.ofInt 64 ((c * 128 ^ i : Nat) : Int)).toNat = acc + c * 128 ^ i := by
  have hb : acc + c * 128 ^ i < 18446744073709551616 := by
    by_cases h : i = 9
    · subst h
      have := h9 rfl
      have e : (128 : Nat) ^ 9 = 9223372036854775808 := by decide
      have : c * 128 ^ 9 ≤ 1 * 128 ^ 9 := Nat.mul_le_mul_right _ this
      omega
    · have hp : (128 : Nat) ^ i ≤ 128 ^ 8 := Nat.pow_le_pow_right (by omega) (by omega)
      have : (128 : Nat) ^ 8 = 72057594037927936 := by decide
      have h3 : c * 128 ^ i ≤ 127 * 128 ^ i := Nat.mul_le_mul_right _ (by omega)
      omega
  refine ⟨hb, ?_⟩
  rw [BitVec.toNat_or, BitVec.ofInt_natCast, BitVec.ofInt_natCast, BitVec.toNat_ofNat, BitVec.toNat_ofNat, Nat.mod_eq_of_lt (by omega), Nat.mod_eq_of_lt (by omega), pow128, Nat.or_comm]
  rw [pow128] at ha
  have := Nat.two_pow_add_eq_or_of_lt (i := 7 * i) (b := acc) ha c
  rw [Nat.mul_comm c, ← this]
  omega
theorem low7_8 {x : Nat} (h : x < 256) : IntKind.u8.wrap (((BitVec.ofInt 8 (x : Int) &&& BitVec.ofInt 8 127).toNat : Int)) = ((x % 128 : Nat) : Int) := by
  have : (BitVec.ofInt 8 (x : Int) &&& BitVec.ofInt 8 127).toNat = x % 128 := by
    rw [BitVec.toNat_and, BitVec.ofInt_natCast, BitVec.toNat_ofNat, Nat.mod_eq_of_lt (by omega)]
    exact Nat.and_two_pow_sub_one_eq_mod x 7
  rw [this, wrap_u8_id (by omega) (by omega)]
theorem shift_step {c i : Nat} (hc : c < 128) (hi : i ≤ 9) : IntKind.u64.wrap ((c : Int) * 2 ^ (min (IntKind.i64.wrap (7 * (i : Int))).toNat 64)) = ((c * 128 ^ i % 18446744073709551616 : Nat) : Int) := by
  have e : min (IntKind.i64.wrap (7 * (i : Int))).toNat 64 = 7 * i := by rw [wrap_i64 (by omega) (by omega)]; omega
  rw [e, wrap_u64, pow128]
  have : ((2 : Int) ^ (7 * i)) = ((2 ^ (7 * i) : Nat) : Int) := by norm_cast
  rw [this, ← Int.natCast_mul]
  omega
section
variable {w : World} {a : Option Addr} {c : Nat} {l : List UInt8}
theorem byte_at (hl : Rd w a (l.map byteV)) {i : Nat} (hi : i < l.length) : ∃ p, a = some p ∧ w.cell? (p.add (i * 1)) = some (.int .u8 (l[i].toNat : Int)) := by
  obtain ⟨p, hp, hc⟩ := hl i (byteV l[i]) (by simp [hi])
  exact ⟨p, hp, by rw [Nat.mul_one]; exact hc⟩
theorem drop_step {i : Nat} (hi : i < l.length) : l.drop i = l[i] :: l.drop (i + 1) := List.drop_eq_getElem_cons hi
theorem wire_TakeNumber_ok (hl : Rd w a (l.map byteV)) (hc : l.length ≤ c) (hs : l.length ≤ 9223372036854775807) (at_ : Int) : Calls Tryz.prog f.wire_TakeNumber #[.slice a l.length c, .int .i64 at_] w (Ret fun v w' => v = numV (takeN l at_) ∧ w' = w) := by
  apply R.wire_TakeNumber_calls
  unfold R.wire_TakeNumber
  refine IFB_dec (fun h => ⟨by simp [takeN, h, numV], rfl⟩) (fun h0 => IFB_dec (fun h => ⟨?_, rfl⟩) (fun h1 => ?_))
  · have : l.drop at_.toNat = [] := List.drop_eq_nil_of_le (by omega)
    simp [takeN, h0, this, readN, numV]
  obtain ⟨at_, rfl⟩ : ∃ k : Nat, at_ = k := ⟨at_.toNat, by omega⟩
  rw [Int.toNat_natCast]
  have hat : at_ ≤ l.length := by omega
  have ht : takeN l (at_ : Int) = (readN 0 0 (l.drop at_)).map fun x => (x.1, at_ + x.2) := by unfold takeN; rw [if_neg h0]; rfl
  refine ⟨⟨by omega, by omega, by omega⟩, ?_⟩
  refine ⟨fun s w1 => w1 = w ∧ ∃ i acc : Nat, s = [.int .u64 (acc : Int), .int .i64 (i : Int)] ∧ i ≤ 10 ∧ at_ + i ≤ l.length ∧ acc < 128 ^ i ∧ readN 0 0 (l.drop at_) = readN i acc (l.drop (at_ + i)),
    fun s _ => match s with
      | [_, .int _ i] => 10 - i.toNat
      | _ => 0, ⟨rfl, 0, 0, rfl, by omega, by omega, by simp, rfl⟩, ?_⟩
  rintro _ _ w1 ⟨rfl, i, acc, hs', hi, hle, hacc, hread⟩
  cases hs'
  have none_ : readN i acc (l.drop (at_ + i)) = none → (Value.tuple #[.int .u64 0, .int .i64 0, .int .i64 20] = numV (takeN l (at_ : Int)) ∧ w1 = w1) := by
    intro hn
    rw [ht, hread, hn]
    exact ⟨rfl, rfl⟩
  refine IFB_dec (fun hlt => ⟨⟨by omega, hlt⟩, ?_⟩) (fun hge => ?_)
  · have hil : at_ + i < l.length := by omega
    have hrd := (hl.sla at_ l.length c 1 hc)
    obtain ⟨p, hp, hcell⟩ := hrd i (byteV l[at_ + i]) (by
      rw [List.getElem?_take_of_lt (by omega), List.getElem?_drop, Nat.mul_one]
      simp [hil])
    rw [hp]
    refine ⟨_, by rw [Int.toNat_natCast, Nat.mul_one]; exact hcell, ?_⟩
    have hd := drop_step hil
    generalize hcc : l[at_ + i] = cc at hd
    have hc256 := cc.toNat_lt
    refine ⟨fun _ w2 => w2 = w1 ∧ ¬ (9 < i ∨ (i = 9 ∧ cc.toNat ≠ 1)), ?_, ?_⟩
    · refine IFB_dec (fun h => none_ (by rw [hd]; unfold readN; rw [if_pos (.inl (by omega))])) (fun h9 => IFB_eq (fun h => IFB_ne (fun h2 => none_ (by rw [hd]; unfold readN; rw [if_pos (.inr ⟨by omega, by omega⟩)])) (fun h2 => ⟨rfl, by omega⟩)) (fun h => ⟨rfl, by omega⟩))
    rintro w2 ⟨rfl, hno⟩
    have hi9 : i ≤ 9 := by omega
    have hm : cc.toNat % 128 < 128 := Nat.mod_lt _ (by omega)
    have h9 : i = 9 → cc.toNat % 128 ≤ 1 := by omega
    obtain ⟨hb, hor⟩ := or_step hacc hm hi9 h9
    have e1 : IntKind.u64.wrap (IntKind.u8.wrap (((BitVec.ofInt 8 (cc.toNat : Int) &&& BitVec.ofInt 8 127).toNat : Int))) = ((cc.toNat % 128 : Nat) : Int) := by rw [low7_8 hc256, wrap_u64_id (by omega) (by omega)]
    rw [e1, shift_step hm hi9, Nat.mod_eq_of_lt (by omega : cc.toNat % 128 * 128 ^ i < 18446744073709551616), hor, wrap_u64_id (by omega) (by omega)]
    refine ⟨by rw [wrap_i64 (by omega) (by omega)]; omega, ?_⟩
    have fin : cc.toNat < 128 → ¬ (cc.toNat = 0 ∧ 0 < i) → (Value.tuple #[.int .u64 ((acc + cc.toNat % 128 * 128 ^ i : Nat) : Int), .int .i64 (IntKind.i64.wrap (IntKind.i64.wrap ((at_ : Int) + (i : Int)) + 1)), .int .i64 0] = numV (takeN l (at_ : Int)) ∧ w2 = w2) := by
      intro hlt hz
      refine ⟨?_, rfl⟩
      rw [ht, hread, hd]
      unfold readN
      rw [if_neg hno, if_pos hlt, if_neg hz, Nat.mod_eq_of_lt hlt, wrap_i64 (n := (at_ : Int) + (i : Int)) (by omega) (by omega), wrap_i64 (by omega) (by omega)]
      simp only [Option.map_some, numV]
      congr 5
    refine IFB_dec (fun hlt => IFB_eq (fun hz => IFB_dec (fun h => none_ (by rw [hd]; unfold readN; rw [if_neg hno, if_pos (by omega), if_pos ⟨by omega, by omega⟩])) (fun h => fin (by omega) (by omega))) (fun hz => fin (by omega) (by omega))) (fun hge => ?_)
    rw [wrap_succ (by omega)]
    refine ⟨⟨rfl, i + 1, _, rfl, by omega, by omega, ?_, ?_⟩, ?_⟩
    · rw [Nat.pow_succ]
      have h3 : (cc.toNat % 128) * 128 ^ i ≤ 127 * 128 ^ i := Nat.mul_le_mul_right _ (by omega)
      omega
    · rw [hread, hd]
      conv => lhs; unfold readN
      rw [if_neg hno, if_neg (by omega)]
      rfl
    · simp only [Int.toNat_natCast]
      omega
  · refine none_ ?_
    rw [List.drop_eq_nil_of_le (by omega)]
    rfl
end
theorem takeN_bounds {l : List UInt8} {at_ : Int} {n k : Nat} (h : takeN l at_ = some (n, k)) : n < 18446744073709551616 ∧ 0 ≤ at_ ∧ at_.toNat < k ∧ k ≤ l.length ∧ k ≤ at_.toNat + 10 := by
  unfold takeN at h
  split at h
  · cases h
  · obtain ⟨⟨x1, x2⟩, hx, he⟩ := Option.map_eq_some_iff.1 h
    simp only [Prod.mk.injEq] at he
    obtain ⟨rfl, rfl⟩ := he
    obtain ⟨h1, h2, h3, h4, _⟩ := readN_bounds _ 0 0 _ _ (by simp) hx
    rw [List.length_drop] at h3
    refine ⟨h1, by omega, by omega, by omega, by omega⟩
def takeT (l : List UInt8) (at_ : Int) (most : Nat) : Option (List UInt8 × Nat) :=
  match takeN l at_ with
  | some x => if 1048576 < x.1 ∨ most < x.1 ∨ l.length - x.2 < x.1 then none else some ((l.drop x.2).take x.1, x.2 + x.1)
  | none => none
def txtV (o : Option (List UInt8 × Nat)) : Value :=
  match o with
  | some x => .tuple #[.string (sof x.1), .int .i64 (x.2 : Int), .int .i64 0]
  | none => .tuple #[.string ⟨#[]⟩, .int .i64 0, .int .i64 20]
section
variable {w : World} {a : Option Addr} {c : Nat} {l : List UInt8}
theorem wire_TakeText_any (hl : Rd w a (l.map byteV)) (hc : l.length ≤ c) (hs : l.length ≤ 9223372036854775807) (at_ : Int) (most : Nat) : Calls Tryz.prog f.wire_TakeText #[.slice a l.length c, .int .i64 at_, .int .i64 (most : Int)] w (Ret fun v w' => v = txtV (takeT l at_ most) ∧ w' = w) := by
  apply R.wire_TakeText_calls
  unfold R.wire_TakeText
  refine (wire_TakeNumber_ok hl hc hs at_).mono ?_
  rintro _ w ⟨_, rfl, rfl, rfl⟩
  cases ho : takeN l at_ with
  | none => exact ⟨_, _, _, rfl, IFB_true ⟨by simp only [takeT, ho]; rfl, rfl⟩⟩
  | some x =>
    obtain ⟨n, k⟩ := x
    obtain ⟨h1, h2, h3, h4, h5⟩ := takeN_bounds ho
    have no : (1048576 < n ∨ most < n ∨ l.length - k < n) → (Value.tuple #[.string ⟨#[]⟩, .int .i64 0, .int .i64 20] = txtV (takeT l at_ most) ∧ w = w) := by
      intro h
      refine ⟨?_, rfl⟩
      simp only [takeT, ho]
      rw [if_pos h]
      rfl
    refine ⟨_, _, _, rfl, IFB_false (IFB_dec (fun h => no (.inl (by omega))) (fun hn1 => ?_))⟩
    rw [wrap_i64 (n := (n : Int)) (by omega) (by omega), wrap_i64 (n := (l.length : Int) - (k : Int)) (by omega) (by omega)]
    refine IFB_dec (fun h => no (.inr (.inl (by omega)))) (fun hn2 => IFB_dec (fun h => no (.inr (.inr (by omega)))) (fun hn3 => ?_))
    have e : IntKind.i64.wrap ((k : Int) + (n : Int)) = ((k + n : Nat) : Int) := by rw [wrap_i64 (by omega) (by omega)]; omega
    rw [e]
    refine ⟨⟨by omega, by omega, by omega⟩, ?_⟩
    rw [Int.toNat_natCast, Int.toNat_natCast, Nat.add_sub_cancel_left]
    have hsl := hl.sla k (k + n) c 1 (by omega)
    rw [Nat.mul_one, Nat.mul_one, Nat.add_sub_cancel_left, ← List.map_drop, ← List.map_take] at hsl
    have hlen : ((l.drop k).take n).length = n := by rw [List.length_take, List.length_drop]; omega
    refine string_of_bytes tbytes hlen.symm hsl ⟨_, rfl, ?_, rfl⟩
    simp only [takeT, ho]
    rw [if_neg (by omega)]
    rfl
end
section
variable {w : World} {a : Option Addr} {c : Nat}
end
theorem ofNat_toNat8 {n : Nat} (h : n < 256) : (UInt8.ofNat n).toNat = n := by simp; omega
theorem digitsL_small {n : Nat} (h : n < 128) : digitsL n = [UInt8.ofNat n] := by unfold digitsL; rw [dif_pos h]
theorem digitsL_big {n : Nat} (h : ¬ n < 128) : digitsL n = UInt8.ofNat (n % 128 + 128) :: digitsL (n / 128) := by conv => lhs; unfold digitsL; rw [dif_neg h]
theorem readN_digits (n : Nat) : ∀ (i acc : Nat) (r : List UInt8), n * 128 ^ i < 18446744073709551616 → i ≤ 9 → (n = 0 → i = 0) → readN i acc (digitsL n ++ r) = some (acc + n * 128 ^ i, i + (digitsL n).length) := by
  induction n using Nat.strongRecOn with
  | _ n ih =>
    intro i acc r hn hi h0
    by_cases h : n < 128
    · rw [digitsL_small h]
      simp only [List.singleton_append, readN]
      rw [ofNat_toNat8 (by omega)]
      have e9 : i = 9 → n = 1 := by
        intro h9
        subst h9
        have : (128 : Nat) ^ 9 = 9223372036854775808 := by decide
        rw [this] at hn
        have : n ≠ 0 := fun h => by have := h0 h; omega
        omega
      rw [if_neg (by omega), if_pos h, if_neg (by omega)]
      rfl
    · rw [digitsL_big h]
      simp only [List.cons_append, readN]
      rw [ofNat_toNat8 (by omega)]
      have h8 : i ≤ 8 := by
        by_cases h9 : i = 9
        · subst h9
          have : (128 : Nat) ^ 9 = 9223372036854775808 := by decide
          rw [this] at hn
          omega
        · omega
      have ep : (128 : Nat) ^ (i + 1) = 128 * 128 ^ i := by rw [Nat.pow_succ, Nat.mul_comm]
      have key : n / 128 * 128 ^ (i + 1) + n % 128 * 128 ^ i = n * 128 ^ i := by
        rw [ep, ← Nat.mul_assoc, ← Nat.add_mul]
        congr 1
        omega
      rw [if_neg (by omega), if_neg (by omega), ih (n / 128) (by omega) (i + 1) _ r (by omega) (by omega) (by omega)]
      simp only [List.length_cons]
      have : (n % 128 + 128) % 128 = n % 128 := by omega
      rw [this]
      congr 2
      · omega
      · omega
end Go.Proofs.YtfgbfodohmeamaaGreatDoor
namespace Go.Dn
set_option maxRecDepth 100000
def crcStep (r : BitVec 32) : BitVec 32 := (r >>> 1) ^^^ (2197175160#32 &&& -(r &&& 1#32))
def crcSteps : Nat → BitVec 32 → BitVec 32
  | 0, r => r
  | n + 1, r => crcSteps n (crcStep r)
def byte32 (c : UInt8) : BitVec 32 := BitVec.ofNat 32 c.toNat
def crcByte (r : BitVec 32) (c : UInt8) : BitVec 32 := crcSteps 8 (r ^^^ byte32 c)
def crcRest (r : BitVec 32) (l : List UInt8) : BitVec 32 := l.foldl crcByte r
def crc (l : List UInt8) : BitVec 32 := 4294967295#32 ^^^ crcRest 4294967295#32 l
theorem crcSteps_snoc : ∀ (n : Nat) (r : BitVec 32), crcSteps (n + 1) r = crcStep (crcSteps n r)
  | 0, _ => rfl
  | n + 1, r => by rw [crcSteps, crcSteps_snoc n, crcSteps]
theorem crcRest_append (r : BitVec 32) (l m : List UInt8) : crcRest r (l ++ m) = crcRest (crcRest r l) m := by simp [crcRest]
theorem step_prog (r : BitVec 32) : (IntKind.u32.wrap (((BitVec.ofInt 32 (Int.fdiv (r.toNat : Int) (2 ^ (min 1 32))) ^^^ BitVec.ofInt 32 (IntKind.u32.wrap (((BitVec.ofInt 32 2197175160 &&& BitVec.ofInt 32 (IntKind.u32.wrap (0 - (IntKind.u32.wrap (((BitVec.ofInt 32 (r.toNat : Int) &&& BitVec.ofInt 32 1).toNat : Int)))))).toNat : Int)))).toNat : Int))) = ((crcStep r).toNat : Int) := by
  have h1 : min 1 32 = 1 := by decide
  rw [h1, fdiv_shift, wrap32_nat, ofInt_nat, ofInt_wrap32, ofInt_nat, ofInt_wrap32, ofInt_sub0, ofInt_wrap32, ofInt_nat, ofInt_nat]
  rfl
end Go.Dn
namespace Go.Dn
end Go.Dn
namespace Go.Proofs.YtfgbfodohmeamaaGreatDoor
set_option maxRecDepth 100000
open Go.Dn Go.Proofs
set_option linter.unusedVariables false
theorem crcRest_flat_snoc (ps : List PartB) (k : Nat) (hk : k < ps.length) (r : BitVec 32) :
    crcRest r ((ps.take (k + 1)).flatMap (·.2.2)) = crcRest (crcRest r ((ps.take k).flatMap (·.2.2))) ps[k].2.2 := by
  rw [List.take_succ_eq_append_getElem hk, List.flatMap_append, crcRest_append]
  simp
theorem crcRest_take_snoc (l : List UInt8) (k : Nat) (hk : k < l.length) (r : BitVec 32) : crcRest r (l.take (k + 1)) = crcByte (crcRest r (l.take k)) l[k] := by
  rw [List.take_succ_eq_append_getElem hk, crcRest_append]
  rfl
theorem wire_Sum_ok {w : World} {a : Option Addr} {c : Nat} (ps : List PartB) (hp : Rd w a (ps.map partV1)) (hb : ∀ p ∈ ps, Rd w p.1 (p.2.2.map byteV)) (hn : ps.length < 9223372036854775807) (hl : ∀ p ∈ ps, p.2.2.length < 9223372036854775807) :
    Calls Tryz.prog f.wire_Sum #[.slice a ps.length c] w (Ret fun v w' => v = .int .u32 ((crc (ps.flatMap (·.2.2))).toNat : Int) ∧ w' = w) := by
  apply R.wire_Sum_calls
  unfold R.wire_Sum
  refine ⟨fun s w1 => match s with
      | [.int _ r, .int _ i] => w1 = w ∧ ∃ k : Nat, i = k ∧ k ≤ ps.length ∧ r = ((crcRest 4294967295#32 ((ps.take k).flatMap (·.2.2))).toNat : Int)
      | _ => False,
    fun s _ => match s with
      | [_, .int _ i] => ps.length - i.toNat
      | _ => 0, ⟨rfl, 0, rfl, Nat.zero_le _, by simp [crcRest]⟩, ?_⟩
  rintro r i w1 ⟨rfl, k, rfl, hk, rfl⟩
  refine IFB_dec (fun hlt => ?_) (fun hge => ?_)
  · have hkl : k < ps.length := by omega
    refine ⟨⟨by omega, by omega⟩, ?_⟩
    obtain ⟨p, rfl, hc⟩ := hp k (partV1 ps[k]) (by simp [hkl])
    have hmem : ps[k] ∈ ps := List.getElem_mem hkl
    have hbk := hb _ hmem
    have hlk := hl _ hmem
    have hflat := crcRest_flat_snoc ps k hkl 4294967295#32
    generalize hR : crcRest 4294967295#32 ((ps.take k).flatMap (·.2.2)) = R at hflat ⊢
    generalize hq : ps[k] = q at hbk hlk hflat hc
    obtain ⟨qa, qc, l⟩ := q
    simp only at hbk hlk hflat
    refine ⟨qa, l.length, qc, by simpa [partV1] using hc, ?_⟩
    refine ⟨fun s w2 => match s with
        | [.int _ r, .int _ i] => w2 = w1 ∧ ∃ j : Nat, i = j ∧ j ≤ l.length ∧ r = ((crcRest R (l.take j)).toNat : Int)
        | _ => False,
      fun s _ => match s with
        | [_, .int _ i] => l.length - i.toNat
        | _ => 0, ⟨rfl, 0, rfl, Nat.zero_le _, by simp [crcRest]⟩, ?_⟩
    rintro r i w2 ⟨rfl, j, rfl, hj, rfl⟩
    refine IFB_dec (fun hlt2 => ?_) (fun hge2 => ?_)
    · have hjl : j < l.length := by omega
      refine ⟨⟨by omega, by omega⟩, ?_⟩
      obtain ⟨p2, rfl, hc2⟩ := hbk j (byteV l[j]) (by simp [hjl])
      have hsn := crcRest_take_snoc l j hjl R
      generalize hR2 : crcRest R (l.take j) = R2 at hsn ⊢
      refine ⟨(l[j].toNat : Int), by simpa [byteV] using hc2, ?_⟩
      have h0 : (IntKind.u32.wrap (((BitVec.ofInt 32 (R2.toNat : Int) ^^^ BitVec.ofInt 32 (IntKind.u32.wrap ((l[j].toNat : Int)))).toNat : Int))) = ((R2 ^^^ byte32 l[j]).toNat : Int) := by
        rw [ofInt_wrap32, ofInt_nat, wrap32_nat, BitVec.ofInt_natCast]
        rfl
      rw [h0]
      refine ⟨fun s w3 => match s with
          | [.int _ r, .int _ i] => w3 = w2 ∧ ∃ m : Nat, i = m ∧ m ≤ 8 ∧ r = ((crcSteps m (R2 ^^^ byte32 l[j])).toNat : Int)
          | _ => False,
        fun s _ => match s with
          | [_, .int _ i] => 8 - i.toNat
          | _ => 0, ⟨rfl, 0, rfl, Nat.zero_le _, by simp [crcSteps]⟩, ?_⟩
      rintro r i w3 ⟨rfl, m, rfl, hm, rfl⟩
      refine IFB_dec (fun hlt3 => ?_) (fun hge3 => ?_)
      · rw [step_prog, wrap_succ (by omega)]
        refine ⟨⟨rfl, m + 1, rfl, by omega, by rw [crcSteps_snoc]⟩, ?_⟩
        simp only [Int.toNat_natCast]
        omega
      · have : m = 8 := by omega
        subst this
        rw [wrap_succ (by omega)]
        refine ⟨⟨rfl, j + 1, rfl, by omega, by rw [hsn]; rfl⟩, ?_⟩
        simp only [Int.toNat_natCast]
        omega
    · have : j = l.length := by omega
      subst this
      rw [wrap_succ (by omega)]
      refine ⟨⟨rfl, k + 1, rfl, by omega, by rw [hflat, List.take_length]⟩, ?_⟩
      simp only [Int.toNat_natCast]
      omega
  · have : k = ps.length := by omega
    subst this
    refine ⟨?_, rfl⟩
    rw [List.take_length, ofInt_nat, wrap32_nat]
    rfl
end Go.Proofs.YtfgbfodohmeamaaGreatDoor
namespace Go.Proofs.YtfgbfodohmeamaaGreatDoor
set_option maxRecDepth 100000
open Go.Dn Go.Proofs
open Go.RowKit (Below)
set_option linter.unusedVariables false
def i64V (x : Int) : Value := .int .i64 x
structure NewI (w w' : World) (xs : List Int) (a : Option Addr) (c : Nat) : Prop where
  row : Row w' ty.int64 1 a xs.length c (xs.map i64V)
  new : ∀ k, rowB a = some k → w.heap.size ≤ k
  bel : Below w.heap.size w w'
theorem NewI.nil (w : World) : NewI w w [] none 0 := ⟨Row.nil _ _ _, by simp [rowB], .refl _ _⟩
theorem NewI.grown {w w1 w2 : World} {xs : List Int} {a : Option Addr} {c : Nat} (h : NewI w w1 xs a c) (hb : Below w1.heap.size w1 w2) : NewI w w2 xs a c := ⟨h.row.grown hb, h.new, below_trans h.bel hb⟩
theorem tL64' : slT Tryz.prog ty.L_int64 = some (ty.int64, 1, 8, .int .i64 0) := by kernel_rfl
theorem append_i64 {w w1 : World} {a : Option Addr} {c : Nat} {xs : List Int} (h : NewI w w1 xs a c) (hl : xs.length + 1 ≤ 1000000) {x : Int} {b : Nat} {t : TypeId} (hb : w1.heap[b]? = some (.cells #[.int .i64 x] t (0, 0))) {f : Value → World → Prop}
    (hf : ∀ a' c' w', NewI w w' (xs ++ [x]) a' c' → f (.slice a' (xs ++ [x]).length c') w') : OPR Tryz.prog (Builtin.append_ #[ty.L_int64, ty.L_int64] ty.L_int64 #[.slice a xs.length c, .slice (some ⟨b, 0, none⟩) 1 1]) f w1 := by
  have hsrc : Rd w1 (some ⟨b, 0, none⟩) ([x].map i64V) := by
    have := Rd.of_block0 hb
    simpa [i64V] using this
  obtain ⟨a5, c5, w2, hrun, hrow, hk5, hnw⟩ := append_row (ty := ty.L_int64) (mc := 1) tL64' rfl (by omega) (by omega) h.row hsrc (m := 1) rfl (by simp [i64V]; rfl) (by omega)
  unfold OPR
  rw [hrun]
  have e : xs.length + 1 = (xs ++ [x]).length := by simp
  rw [e] at hrow ⊢
  refine hf a5 c5 w2 ⟨by rw [List.map_append]; exact hrow, fun k hk => ?_, h.bel.trans (hk5.below h.bel.size fun k hk he => by have := h.new k he; omega)⟩
  rcases hnw k hk with h1 | h1
  · exact h.new k h1
  · exact Nat.le_trans h.bel.size h1
theorem takeN_drop {l r : List UInt8} {at_ m : Nat} (hm : m < 18446744073709551616) (h : l.drop at_ = digitsL m ++ r) : takeN l (at_ : Int) = some (m, at_ + (digitsL m).length) := by
  unfold takeN
  rw [if_neg (by omega), Int.toNat_natCast, h, readN_digits m 0 0 r (by simpa using hm) (by omega) (by intro; rfl)]
  simp
theorem drop_more {l r d : List UInt8} {at_ : Nat} (h : l.drop at_ = d ++ r) : l.drop (at_ + d.length) = r := by
  rw [← List.drop_drop, h, List.drop_left]
section
variable {w : World} {a : Option Addr} {c : Nat} {l : List UInt8}
end
theorem drop_rd {w : World} {a : Option Addr} {c q : Nat} {l : List UInt8} (hl : Rd w a (l.map byteV)) (hc : l.length ≤ c) : Rd w (SLA a q c 1) ((l.drop q).map byteV) := by
  have h := hl.sla q l.length c 1 hc
  rw [Nat.mul_one, Nat.mul_one, ← List.map_drop] at h
  have e : ((l.drop q).map byteV).take (l.length - q) = (l.drop q).map byteV := List.take_of_length_le (by simp)
  rwa [e] at h
theorem takeT_drop {l r : List UInt8} {at_ most : Nat} {s : ByteArray} (hs : s.size ≤ most) (hm : most ≤ 1048576) (h : l.drop at_ = textL s ++ r) : takeT l (at_ : Int) most = some (bl s, at_ + (textL s).length) := by
  unfold textL at h
  rw [List.append_assoc] at h
  have h1 := takeN_drop (m := s.size) (by omega) h
  have h2 := drop_more h
  have hbl := bl_length s
  have hlen := congrArg List.length h2
  rw [List.length_drop, List.length_append, hbl] at hlen
  unfold takeT
  rw [h1]
  have hno : ¬ (1048576 < s.size ∨ most < s.size ∨ l.length - (at_ + (digitsL s.size).length) < s.size) := by omega
  simp only [if_neg hno, Option.some.injEq, Prod.mk.injEq]
  refine ⟨?_, ?_⟩
  · rw [h2, ← hbl, List.take_left]
  · simp only [textL, List.length_append, hbl]
    omega
end Go.Proofs.YtfgbfodohmeamaaGreatDoor
namespace Go.Proofs.YtfgbfodohmeamaaGreatDoor
set_option maxRecDepth 100000
open Go.Dn Go.Proofs
set_option linter.unusedVariables false
def lowL (n : Nat) : List UInt8 := [UInt8.ofNat n, UInt8.ofNat (n / 256), UInt8.ofNat (n / 65536), UInt8.ofNat (n / 16777216)]
def crcL (l : List UInt8) : List UInt8 := lowL (crc l).toNat
def recL (p : List UInt8) : List UInt8 := lowL p.length ++ (crcL (lowL p.length) ++ (p ++ crcL p))
theorem lowL_len (n : Nat) : (lowL n).length = 4 := rfl
theorem crcL_len (l : List UInt8) : (crcL l).length = 4 := rfl
theorem recL_len (p : List UInt8) : (recL p).length = p.length + 12 := by
  unfold recL
  simp only [List.length_append, lowL_len, crcL_len]
  omega
abbrev EntP := Int × Int × ByteArray
def numL (x : Int) : List UInt8 := digitsL x.toNat
def okN (x : Int) : Prop := 0 ≤ x ∧ x ≤ 9223372036854775807
inductive Pay where
  | snap (x : EntP)
  | state (t v : Int)
  | ent (x : EntP)
  | cut (i : Int)
def entB (x : EntP) : List UInt8 := numL x.1 ++ (numL x.2.1 ++ textL x.2.2)
def Pay.bytes : Pay → List UInt8
  | .snap x => 4 :: entB x
  | .state t v => 1 :: (numL t ++ numL v)
  | .ent x => 2 :: entB x
  | .cut i => 3 :: numL i
def okE (x : EntP) : Prop := okN x.1 ∧ okN x.2.1 ∧ x.2.2.size ≤ 262144
def Pay.ok : Pay → Prop
  | .snap x => okE x
  | .state t v => okN t ∧ okN v
  | .ent x => okE x
  | .cut i => okN i
def Pay.rcd (p : Pay) : List UInt8 := recL p.bytes
theorem numL_len {x : Int} (h : okN x) : 1 ≤ (numL x).length ∧ (numL x).length ≤ 10 := by
  unfold numL
  refine ⟨?_, digitsL_len10 (by have := h.2; omega)⟩
  have := digitsL_pos x.toNat
  cases h : digitsL x.toNat with
  | nil => exact absurd h this
  | cons => simp
theorem textL_len10 {s : ByteArray} (h : s.size ≤ 262144) : (textL s).length ≤ s.size + 10 := by
  unfold textL
  rw [List.length_append, bl_length]
  have := digitsL_len10 (n := s.size) (by omega)
  omega
theorem entB_len {x : EntP} (h : okE x) : (entB x).length ≤ x.2.2.size + 30 := by
  unfold entB
  simp only [List.length_append]
  have := (numL_len h.1).2
  have := (numL_len h.2.1).2
  have := textL_len10 h.2.2
  omega
def Pay.size : Pay → Nat
  | .snap x => x.2.2.size
  | .ent x => x.2.2.size
  | _ => 0
theorem Pay.bytes_len {p : Pay} (h : p.ok) : 1 ≤ p.bytes.length ∧ p.bytes.length ≤ p.size + 31 := by
  cases p with
  | snap x => have := entB_len h; simp only [Pay.bytes, List.length_cons, Pay.size]; omega
  | state t v => have := (numL_len h.1).2; have := (numL_len h.2).2; simp only [Pay.bytes, List.length_cons, List.length_append, Pay.size]; omega
  | ent x => have := entB_len h; simp only [Pay.bytes, List.length_cons, Pay.size]; omega
  | cut i => have := (numL_len h).2; simp only [Pay.bytes, List.length_cons, Pay.size]; omega
theorem Pay.size_le {p : Pay} (h : p.ok) : p.size ≤ 262144 := by
  cases p with
  | snap x => exact h.2.2
  | state t v => exact Nat.zero_le _
  | ent x => exact h.2.2
  | cut i => exact Nat.zero_le _
theorem Pay.rcd_len (p : Pay) : p.rcd.length = p.bytes.length + 12 := recL_len _
/-! ### what a file says -/
structure LogP where
  term : Int
  vote : Int
  sidx : Int
  sterm : Int
  sdata : ByteArray
  l : List EntP
def LogP.last (L : LogP) : Int := L.sidx + (L.l.length : Int)
def termE (t : Int) (l : List EntP) : Int := match l.getLast? with
  | some x => x.2.1
  | none => t
def LogP.termL (L : LogP) : Int := termE L.sterm L.l
def mayE (i t : Int) (l : List EntP) (x : EntP) : Prop := x.1 = i + (l.length : Int) + 1 ∧ (1 ≤ x.2.1 ∧ termE t l ≤ x.2.1) ∧ x.2.2.size ≤ 262144
instance (i t : Int) (l : List EntP) (x : EntP) : Decidable (mayE i t l x) := by unfold mayE; infer_instance
def LogP.may (L : LogP) (x : EntP) : Prop := mayE L.sidx L.sterm L.l x
instance (L : LogP) (x : EntP) : Decidable (L.may x) := by unfold LogP.may; infer_instance
def LogP.has (L : LogP) (i : Int) : Prop := L.sidx < i ∧ i ≤ L.last
instance (L : LogP) (i : Int) : Decidable (L.has i) := by unfold LogP.has; infer_instance
def LogP.cut (L : LogP) (i : Int) : LogP := { L with l := L.l.take (i - L.sidx - 1).toNat }
def stepP (L : LogP) : Pay → Option LogP
  | .snap _ => none
  | .state t v => if v ≤ 7 ∧ L.term ≤ t then some { L with term := t, vote := v } else none
  | .ent x => if L.may x then some { L with l := L.l ++ [x] } else none
  | .cut i => if L.has i then some (L.cut i) else none
def playP (L : LogP) : List Pay → Option LogP
  | [] => some L
  | p :: ps => (stepP L p).bind fun L' => playP L' ps
theorem playP_append (L : LogP) : ∀ (ps qs : List Pay), playP L (ps ++ qs) = (playP L ps).bind fun L' => playP L' qs
  | [], qs => rfl
  | p :: ps, qs => by
    simp only [List.cons_append, playP]
    cases h : stepP L p with
    | none => rfl
    | some L' => exact playP_append L' ps qs
def snapL (x : EntP) : LogP := ⟨0, 0, x.1, x.2.1, x.2.2, []⟩
def Plays : List Pay → LogP → Prop
  | .snap x :: ps, L => (∀ p ∈ (Pay.snap x :: ps), p.ok) ∧ playP (snapL x) ps = some L
  | _, _ => False
theorem Plays.more {ps qs : List Pay} {L L' : LogP} (h : Plays ps L) (hq : ∀ p ∈ qs, p.ok) (hs : playP L qs = some L') : Plays (ps ++ qs) L' := by
  match ps, h with
  | .snap x :: ps, ⟨h1, h2⟩ =>
    refine ⟨fun p hp => ?_, ?_⟩
    · rcases List.mem_append.1 (show p ∈ (Pay.snap x :: ps) ++ qs from hp) with h | h
      · exact h1 p h
      · exact hq p h
    · show playP _ (ps ++ qs) = _
      rw [playP_append, h2]
      exact hs
theorem Plays.ok {ps : List Pay} {L : LogP} (h : Plays ps L) : ∀ p ∈ ps, p.ok := by
  match ps, h with
  | .snap x :: ps, ⟨h1, h2⟩ => exact h1
def flatR (ps : List Pay) : List UInt8 := ps.flatMap Pay.rcd
theorem flatR_append (ps qs : List Pay) : flatR (ps ++ qs) = flatR ps ++ flatR qs := by simp [flatR]
def Torn (t : List UInt8) : Prop := t = [] ∨ ∃ (p : Pay) (k : Nat), p.ok ∧ k < p.rcd.length ∧ t = p.rcd.take k
def FileP (X : List UInt8) (L : LogP) : Prop := ∃ ps t, Plays ps L ∧ Torn t ∧ X = flatR ps ++ t
theorem take_recs : ∀ (qs : List Pay) (k : Nat), (∀ p ∈ qs, p.ok) → ∃ (j : Nat) (t : List UInt8), j ≤ qs.length ∧ Torn t ∧ (flatR qs).take k = flatR (qs.take j) ++ t
  | [], k, _ => ⟨0, [], Nat.le_refl _, .inl rfl, by simp [flatR]⟩
  | q :: qs, k, h => by
    by_cases hk : k < q.rcd.length
    · refine ⟨0, q.rcd.take k, Nat.zero_le _, .inr ⟨q, k, h q (by simp), hk, rfl⟩, ?_⟩
      show (q.rcd ++ flatR qs).take k = _
      rw [List.take_append_of_le_length (by omega)]
      simp [flatR]
    · obtain ⟨j, t, hj, ht, e⟩ := take_recs qs (k - q.rcd.length) fun p hp => h p (by simp [hp])
      refine ⟨j + 1, t, by simp; omega, ht, ?_⟩
      show (q.rcd ++ flatR qs).take k = _
      rw [List.take_append, List.take_of_length_le (by omega), e]
      show _ = (q.rcd ++ flatR (qs.take j)) ++ t
      rw [List.append_assoc]
def Ents : Int → Int → List EntP → Prop
  | _, _, [] => True
  | i, t, x :: r => (x.1 = i + 1 ∧ (1 ≤ x.2.1 ∧ t ≤ x.2.1) ∧ x.2.1 ≤ 9223372036854775807 ∧ x.2.2.size ≤ 262144) ∧ Ents x.1 x.2.1 r
theorem termE_cons (t : Int) (x : EntP) (l : List EntP) : termE t (x :: l) = termE x.2.1 l := by
  unfold termE
  cases l with
  | nil => rfl
  | cons y l =>
    rw [List.getLast?_cons_cons]
    cases h : (y :: l).getLast? with
    | none => simp at h
    | some z => rfl
theorem mayE_cons {i t : Int} {x : EntP} {l : List EntP} (hx : x.1 = i + 1) (y : EntP) : mayE i t (x :: l) y ↔ mayE x.1 x.2.1 l y := by
  unfold mayE
  rw [termE_cons, List.length_cons, hx]
  have : i + ((l.length + 1 : Nat) : Int) + 1 = i + 1 + (l.length : Int) + 1 := by omega
  rw [this]
theorem Ents.snoc : ∀ {i t : Int} {l : List EntP} {x : EntP}, Ents i t l → mayE i t l x → x.2.1 ≤ 9223372036854775807 → Ents i t (l ++ [x])
  | i, t, [], x, _, h, hx => by
    obtain ⟨h1, h2, h3⟩ := h
    exact ⟨⟨by simpa using h1, h2, hx, h3⟩, trivial⟩
  | i, t, y :: l, x, ⟨h0, h1⟩, h, hx => ⟨h0, h1.snoc ((mayE_cons h0.1 x).1 h) hx⟩
theorem Ents.take : ∀ {i t : Int} {l : List EntP} (n : Nat), Ents i t l → Ents i t (l.take n)
  | i, t, [], n, _ => by rw [List.take_nil]; trivial
  | i, t, y :: l, 0, _ => trivial
  | i, t, y :: l, n + 1, ⟨h0, h1⟩ => ⟨h0, h1.take n⟩
theorem Ents.drop : ∀ {i t : Int} {l : List EntP} (n : Nat) (h : n < l.length), Ents i t l → Ents l[n].1 l[n].2.1 (l.drop (n + 1))
  | i, t, y :: l, 0, _, ⟨h0, h1⟩ => h1
  | i, t, y :: l, n + 1, h, ⟨h0, h1⟩ => h1.drop n (by simpa using h)
theorem Ents.get : ∀ {i t : Int} {l : List EntP} (n : Nat) (h : n < l.length), Ents i t l → l[n].1 = i + 1 + n ∧ 1 ≤ l[n].2.1 ∧ t ≤ l[n].2.1 ∧ l[n].2.1 ≤ 9223372036854775807 ∧ l[n].2.2.size ≤ 262144
  | i, t, y :: l, 0, _, ⟨h0, h1⟩ => ⟨by simpa using h0.1, h0.2.1.1, h0.2.1.2, h0.2.2.1, h0.2.2.2⟩
  | i, t, y :: l, n + 1, h, ⟨h0, h1⟩ => by
    have hl : n < l.length := by simpa using h
    obtain ⟨e1, e2, e3, e4, e5⟩ := h1.get n hl
    refine ⟨?_, e2, ?_, e4, e5⟩
    · show l[n].1 = _
      rw [e1, h0.1]
      push_cast
      omega
    · have := h0.2.1.2
      show t ≤ l[n].2.1
      omega
structure LogOk (L : LogP) (m : Int) : Prop where
  term : okN L.term
  vote : 0 ≤ L.vote ∧ L.vote ≤ 7
  sidx : 0 ≤ L.sidx
  sterm : okN L.sterm
  sdata : L.sdata.size ≤ 262144
  ents : Ents L.sidx L.sterm L.l
  last : L.last ≤ m
theorem play_ents : ∀ (l : List EntP) (L : LogP), Ents (L.sidx + L.l.length) L.termL l → playP L (l.map .ent) = some { L with l := L.l ++ l }
  | [], L, _ => by rw [List.append_nil]; rfl
  | x :: l, L, ⟨h0, h1⟩ => by
    have hm : L.may x := ⟨h0.1, h0.2.1, h0.2.2.2⟩
    simp only [List.map_cons, playP, stepP, if_pos hm, Option.bind_some]
    rw [play_ents l { L with l := L.l ++ [x] }]
    · simp
    · have e1 : LogP.termL { L with l := L.l ++ [x] } = x.2.1 := by simp [LogP.termL, termE]
      rw [e1]
      show Ents (L.sidx + ((L.l ++ [x]).length : Int)) _ _
      rw [List.length_append]
      have e2 : L.sidx + ((L.l.length + [x].length : Nat) : Int) = x.1 := by rw [h0.1]; simp; omega
      rw [e2]
      exact h1
def freshR (L : LogP) : List Pay := .snap (L.sidx, L.sterm, L.sdata) :: .state L.term L.vote :: L.l.map .ent
theorem fresh_plays {L : LogP} {m : Int} (h : LogOk L m) (hm : m ≤ 9223372036854775807) : Plays (freshR L) L := by
  have hl := h.last
  unfold LogP.last at hl
  have hs := h.sidx
  refine ⟨fun p hp => ?_, ?_⟩
  · rcases List.mem_cons.1 hp with rfl | hp
    · exact ⟨⟨hs, by show L.sidx ≤ _; omega⟩, h.sterm, h.sdata⟩
    · rcases List.mem_cons.1 hp with rfl | hp
      · exact ⟨h.term, h.vote.1, by have := h.vote.2; omega⟩
      · obtain ⟨x, hx, rfl⟩ := List.mem_map.1 hp
        obtain ⟨n, hn, rfl⟩ := List.mem_iff_getElem.1 hx
        obtain ⟨e1, e2, e3, e4, e5⟩ := h.ents.get n hn
        exact ⟨⟨by omega, by omega⟩, ⟨by omega, e4⟩, e5⟩
  · have hc : L.vote ≤ 7 ∧ (snapL (L.sidx, L.sterm, L.sdata)).term ≤ L.term := ⟨h.vote.2, h.term.1⟩
    simp only [playP, stepP, if_pos hc, Option.bind_some]
    rw [play_ents L.l]
    · simp [snapL]
    · show Ents (L.sidx + (([] : List EntP).length : Int)) L.sterm L.l
      simpa using h.ents
theorem flatR_cons (p : Pay) (ps : List Pay) : flatR (p :: ps) = p.rcd ++ flatR ps := rfl
end Go.Proofs.YtfgbfodohmeamaaGreatDoor
namespace Go.Dn
set_option maxRecDepth 100000
open Go.RowKit (Below)
open Go.Maps (has Tidy Keyed)
theorem Keeps.of_grownBy {w w' : World} {b : Nat} (h : w.grownBy w' (some b)) : Keeps (· = b) w w' :=
  ⟨h.os, h.tape, h.output, h.size, fun k hk hn => h.block k hk (fun e => hn (Option.some.inj e))⟩
section
variable {P : Program} {k e t : TypeId} {q : IntKind} {w : World} {b n : Nat} {g : List UInt8 → Option Int}
end
section
variable {P : Program} {k e t : TypeId} {w : World} {b n : Nat} {g : List UInt8 → Bool}
end
end Go.Dn
namespace Go.Dn
set_option maxRecDepth 100000
open Go.RowKit (Below)
def splice : Array Value → Nat → List Value → Array Value
  | cs, _, [] => cs
  | cs, i, v :: vs => splice (cs.setIfInBounds i v) (i + 1) vs
theorem splice_toList : ∀ (vs : List Value) (cs : Array Value) (i : Nat), i + vs.length ≤ cs.size → (splice cs i vs).toList = cs.toList.take i ++ vs ++ cs.toList.drop (i + vs.length)
  | [], cs, i, _ => by simp [splice]
  | v :: vs, cs, i, h => by
    simp only [List.length_cons] at h
    rw [splice, splice_toList vs _ _ (by simp; omega)]
    apply List.ext_getElem?
    intro j
    simp only [Array.toList_setIfInBounds, List.length_cons, List.getElem?_append, List.length_append, List.length_take, List.length_set, Array.length_toList, List.getElem?_take, List.getElem?_drop]
    grind
theorem splice_all (vs : List Value) (cs : Array Value) (h : vs.length = cs.size) : splice cs 0 vs = ⟨vs⟩ := by
  apply Array.ext'
  rw [splice_toList vs cs 0 (by omega)]
  simp [h]
theorem STOREC_blk : ∀ (vs : List Value) {w : World} {b : Nat} {cs : Array Value} {t : TypeId} {i : Nat} {k : World → Prop}, w.heap[b]? = some (.cells cs t (0, 0)) → i + vs.length ≤ cs.size → (∀ v ∈ vs, v.oneCell' = true) →
    (∀ w', Keeps (· = b) w w' → w'.heap[b]? = some (.cells (splice cs i vs) t (0, 0)) → k w') → STOREC vs ⟨b, 0, none⟩ i k w
  | [], w, _, _, _, _, _, hb, _, _, hk => hk w (.refl _ w) hb
  | v :: vs, w, b, cs, t, i, k, hb, hi, h1, hk => by
    simp only [List.length_cons] at hi
    unfold STOREC
    rw [h1 v (by simp), addr_add_blk, Nat.zero_add]
    exact sto_blk hb (by omega) fun w1 K1 hb1 => STOREC_blk vs hb1 (by simp; omega) (fun x hx => h1 x (by simp [hx])) fun w2 K2 hb2 => hk w2 (K1.trans K2 (fun _ _ h => h)) hb2
theorem SH.stoAll {F : Nat → Prop} {w0 w : World} {H : List Ent} (S : SH F w0 w H) (n : Nat) {b : Nat} {cs : Array Value} {t : TypeId} (hn : H[n]? = some (b, cs, t)) {vs : List Value} (hl : vs.length = cs.size) (h1 : ∀ v ∈ vs, v.oneCell' = true)
    {k : World → Prop} (hk : ∀ w', Keeps (· = b) w w' → SH F w0 w' (H.set n (b, ⟨vs⟩, t)) → k w') : STOREC vs ⟨b, 0, none⟩ 0 k w :=
  STOREC_blk vs (S.get n hn) (by omega) h1 fun w' K hb => hk w' K (S.setAt n hn K (by rw [splice_all vs cs hl] at hb; exact hb))
structure It where
  blk : Option Nat
  ok : World → Prop
  st : ∀ w w', (∀ k, blk = some k → w'.heap[k]? = w.heap[k]?) → ok w → ok w'
  lt : ∀ w, ok w → ∀ k, blk = some k → k < w.heap.size
def It.obj (b : Nat) (o : Obj) : It where
  blk := some b
  ok := fun w => w.heap[b]? = some o
  st := fun w w' h h0 => (h b rfl).trans h0
  lt := fun w h k hk => by cases hk; exact (Array.getElem?_eq_some_iff.1 h).1
def It.cells (b : Nat) (cs : Array Value) (t : TypeId) : It := It.obj b (.cells cs t (0, 0))
def It.row (e : TypeId) (sz : Nat) (a : Option Addr) (n c : Nat) (xs : List Value) : It where
  blk := rowB a
  ok := fun w => Row w e sz a n c xs
  st := fun w w' h h0 => by
    refine ⟨h0.1, ?_⟩
    rcases h0.2 with h1 | ⟨g, cur, rfl, hg, r⟩
    · exact .inl h1
    · exact .inr ⟨g, cur, rfl, (h g rfl).trans hg, r⟩
  lt := fun w h k hk => h.lt hk
def It.rd (a : Option Addr) (xs : List Value) : It where
  blk := match xs with | [] => none | _ => rowB a
  ok := fun w => Rd w a xs
  st := fun w w' h h0 => by
    intro j v hv
    obtain ⟨p, hp, hc⟩ := h0 j v hv
    subst hp
    refine ⟨p, rfl, ?_⟩
    cases xs with
    | nil => simp at hv
    | cons x xs =>
      rw [World.cell?_of_block (w := w) (by rw [addr_add_block]; exact h p.block rfl)]
      exact hc
  lt := fun w h k hk => by
    cases xs with
    | nil => cases hk
    | cons x xs =>
      obtain ⟨p, rfl, hc⟩ := h 0 x rfl
      have := World.block_lt_of_cell? _ _ hc
      rw [addr_add_block] at this
      cases hk
      exact this
structure ST (w0 w : World) (H : List It) : Prop where
  bel : Below w0.heap.size w0 w
  ok : ∀ x ∈ H, x.ok w
  nd : H.Pairwise (fun x y => ∀ k, x.blk = some k → y.blk ≠ some k)
  own : ∀ x ∈ H, ∀ k, x.blk = some k → w0.heap.size ≤ k
section
variable {w0 w : World} {H : List It}
theorem ST.start (w : World) : ST w w [] := ⟨.refl _ _, by simp, by simp, by simp⟩
theorem ST.get (S : ST w0 w H) (n : Nat) {x : It} (hn : H[n]? = some x) : x.ok w := S.ok x (List.mem_of_getElem? hn)
theorem ST.grown (S : ST w0 w H) {w' : World} (h : Below w.heap.size w w') : ST w0 w' H where
  bel := S.bel.trans (h.mono S.bel.size)
  ok := fun x hx => x.st w w' (fun k hk => h.block k (x.lt w (S.ok x hx) k hk)) (S.ok x hx)
  nd := S.nd
  own := S.own
theorem ST.add (S : ST w0 w H) {w' : World} (h : Below w.heap.size w w') (y : It) (hy : y.ok w') (hb : ∀ k, y.blk = some k → w.heap.size ≤ k) : ST w0 w' (y :: H) where
  bel := (S.grown h).bel
  ok := fun x hx => by
    rcases List.mem_cons.1 hx with rfl | hx
    · exact hy
    · exact (S.grown h).ok x hx
  nd := List.pairwise_cons.2 ⟨fun x hx k hk hk' => by have := x.lt w (S.ok x hx) k hk'; have := hb k hk; omega, S.nd⟩
  own := fun x hx k hk => by
    rcases List.mem_cons.1 hx with rfl | hx
    · exact Nat.le_trans S.bel.size (hb k hk)
    · exact S.own x hx k hk
theorem pair_ne {l : List It} (h : l.Pairwise (fun x y => ∀ k, x.blk = some k → y.blk ≠ some k)) {i j : Nat} {x y : It} (hi : l[i]? = some x) (hj : l[j]? = some y) (hne : i ≠ j) {k : Nat} (hk : x.blk = some k) : y.blk ≠ some k := by
  obtain ⟨h1, rfl⟩ := List.getElem?_eq_some_iff.1 hi
  obtain ⟨h2, rfl⟩ := List.getElem?_eq_some_iff.1 hj
  rcases Nat.lt_or_gt_of_ne hne with hlt | hlt
  · exact (List.pairwise_iff_getElem.1 h) i j h1 h2 hlt k hk
  · intro he
    exact (List.pairwise_iff_getElem.1 h) j i h2 h1 hlt k he hk
theorem ST.chg (S : ST w0 w H) (n : Nat) {x : It} (hn : H[n]? = some x) {w' : World} (K : Keeps (fun k => x.blk = some k) w w') (y : It) (hy : y.ok w') (hb : ∀ k, y.blk = some k → x.blk = some k ∨ w.heap.size ≤ k) : ST w0 w' (H.set n y) where
  bel := S.bel.trans (K.below S.bel.size fun k hk h => by have := S.own x (List.mem_of_getElem? hn) k h; omega)
  ok := by
    intro z hz
    obtain ⟨i, hi⟩ := List.mem_iff_getElem?.1 hz
    by_cases hin : n = i
    · subst hin
      rw [List.getElem?_set_self (List.getElem?_eq_some_iff.1 hn).1] at hi
      cases hi
      exact hy
    · rw [List.getElem?_set_ne hin] at hi
      have hz' := S.ok z (List.mem_of_getElem? hi)
      refine z.st w w' (fun k hk => K.block k (z.lt w hz' k hk) ?_) hz'
      exact fun h => pair_ne S.nd hi hn (Ne.symm hin) hk h
  nd := by
    refine List.pairwise_iff_getElem.2 fun i j hi hj hij k hk hk' => ?_
    rw [List.length_set] at hi hj
    have hni := (List.getElem?_eq_some_iff.1 hn).1
    have old : ∀ {i j : Nat} (hi : i < H.length) (hj : j < H.length), i ≠ j → H[i].blk = some k → H[j].blk ≠ some k := fun hi hj hne h => pair_ne S.nd (List.getElem?_eq_getElem hi) (List.getElem?_eq_getElem hj) hne h
    have hx : H[n] = x := (List.getElem?_eq_some_iff.1 hn).2
    have far : ∀ {j : Nat} (hj : j < H.length), j ≠ n → H[j].blk = some k → y.blk ≠ some k := fun {j} hj hne h h' => by
      rcases hb k h' with h2 | h2
      · rw [← hx] at h2
        exact old hni hj (Ne.symm hne) h2 h
      · have := H[j].lt w (S.ok _ (List.getElem_mem hj)) k h
        omega
    by_cases h1 : n = i
    · subst h1
      rw [List.getElem_set_self] at hk
      rw [List.getElem_set_ne (by omega)] at hk'
      exact far hj (by omega) hk' hk
    · rw [List.getElem_set_ne h1] at hk
      by_cases h2 : n = j
      · subst h2
        rw [List.getElem_set_self] at hk'
        exact far hi (by omega) hk hk'
      · rw [List.getElem_set_ne h2] at hk'
        exact old hi hj (by omega) hk hk'
  own := by
    intro z hz k hk
    obtain ⟨i, hi⟩ := List.mem_iff_getElem?.1 hz
    by_cases hin : n = i
    · subst hin
      rw [List.getElem?_set_self (List.getElem?_eq_some_iff.1 hn).1] at hi
      cases hi
      rcases hb k hk with h | h
      · exact S.own x (List.mem_of_getElem? hn) k h
      · exact Nat.le_trans S.bel.size h
    · rw [List.getElem?_set_ne hin] at hi
      exact S.own z (List.mem_of_getElem? hi) k hk
theorem ST.sub (S : ST w0 w H) {H' : List It} (h : H'.Sublist H) : ST w0 w H' := ⟨S.bel, fun x hx => S.ok x (h.subset hx), S.nd.sublist h, fun x hx => S.own x (h.subset hx)⟩
theorem ST.drop (S : ST w0 w H) (n : Nat) : ST w0 w (H.drop n) := S.sub (List.drop_sublist _ _)
theorem ST.perm (S : ST w0 w H) {H' : List It} (h : H.Perm H') : ST w0 w H' :=
  ⟨S.bel, fun x hx => S.ok x (h.mem_iff.2 hx), (h.pairwise_iff (fun h k hk hk' => h k hk' hk)).1 S.nd, fun x hx => S.own x (h.mem_iff.2 hx)⟩
theorem ST.pull (S : ST w0 w H) (n : Nat) {x : It} (hn : H[n]? = some x) : ST w0 w (x :: H.eraseIdx n) where
  bel := S.bel
  ok := fun y hy => by
    rcases List.mem_cons.1 hy with rfl | hy
    · exact S.get n hn
    · exact S.ok y (List.mem_of_mem_eraseIdx hy)
  nd := by
    refine List.pairwise_cons.2 ⟨fun y hy k hk hk' => ?_, S.nd.sublist (List.eraseIdx_sublist ..)⟩
    obtain ⟨i, hi, hne⟩ := List.mem_eraseIdx_iff_getElem?.1 hy
    exact pair_ne S.nd hn hne (Ne.symm hi) hk hk'
  own := fun y hy => by
    rcases List.mem_cons.1 hy with rfl | hy
    · exact S.own _ (List.mem_of_getElem? hn)
    · exact S.own y (List.mem_of_mem_eraseIdx hy)
theorem ST.join (S : ST w0 w H) {w' : World} {P : List It} (T : ST w w' P) : ST w0 w' (P ++ H) where
  bel := S.bel.trans (T.bel.mono S.bel.size)
  ok := fun x hx => by
    rcases List.mem_append.1 hx with h | h
    · exact T.ok x h
    · exact (S.grown T.bel).ok x h
  nd := List.pairwise_append.2 ⟨T.nd, S.nd, fun x hx y hy k hk hk' => by have := T.own x hx k hk; have := y.lt w (S.ok y hy) k hk'; omega⟩
  own := fun x hx k hk => by
    rcases List.mem_append.1 hx with h | h
    · exact Nat.le_trans S.bel.size (T.own x h k hk)
    · exact S.own x h k hk
theorem ST.newB (S : ST w0 w H) {cs : Array Value} {t : TypeId} {k : Nat → World → Prop} (hk : ∀ b w', w.heap.size ≤ b → Below w.heap.size w w' → ST w0 w' (It.cells b cs t :: H) → k b w') : NEWB cs t k w :=
  hk _ _ (Nat.le_refl _) ((Below.refl _ w).alloc (Nat.le_refl _) _) (S.add ((Below.refl _ w).alloc (Nat.le_refl _) _) _ (heap_alloc_new w _) (fun k hk => by cases hk; exact Nat.le_refl _))
theorem ST.draw (S : ST w0 w H) {k : World → Prop} (hk : ∀ w', Below w.heap.size w w' → ST w0 w' H → k w') : DRAW k w := hk _ ((Below.refl _ w).drew) (S.grown ((Below.refl _ w).drew))
theorem ST.cell (S : ST w0 w H) (n : Nat) {b : Nat} {cs : Array Value} {t : TypeId} (hn : H[n]? = some (It.cells b cs t)) {i : Nat} {v : Value} (hv : cs[i]? = some v) : w.cell? ⟨b, i, none⟩ = some v := by
  have : w.heap[b]? = some (.cells cs t (0, 0)) := S.get n hn
  simp [World.cell?, this, hv]
theorem ST.blk (S : ST w0 w H) (n : Nat) {b : Nat} {cs : Array Value} {t : TypeId} (hn : H[n]? = some (It.cells b cs t)) : w.heap[b]? = some (.cells cs t (0, 0)) := S.get n hn
theorem ST.rdc (S : ST w0 w H) (n : Nat) {b : Nat} {cs : Array Value} {t : TypeId} (hn : H[n]? = some (It.cells b cs t)) : Rd w (some ⟨b, 0, none⟩) cs.toList := Rd.of_block0 (S.blk n hn)
theorem ST.rw (S : ST w0 w H) (n : Nat) {e : TypeId} {sz : Nat} {a : Option Addr} {m c : Nat} {xs : List Value} (hn : H[n]? = some (It.row e sz a m c xs)) : Row w e sz a m c xs := S.get n hn
theorem ST.rd (S : ST w0 w H) (n : Nat) {e : TypeId} {sz : Nat} {a : Option Addr} {m c : Nat} {xs : List Value} (hn : H[n]? = some (It.row e sz a m c xs)) : Rd w a xs := (S.rw n hn).rd
theorem ST.sto (S : ST w0 w H) (n : Nat) {b : Nat} {cs cs' : Array Value} {t : TypeId} (hn : H[n]? = some (It.cells b cs t)) {i : Nat} {v : Value} {k : World → Prop} (hi : i < cs.size) (hc : cs.setIfInBounds i v = cs')
    (hk : ∀ w', ST w0 w' (H.set n (It.cells b cs' t)) → k w') : STO ⟨b, i, none⟩ v k w := by
  subst hc
  have hb := S.blk n hn
  refine ⟨by rw [S.cell n hn (Array.getElem?_eq_getElem hi)]; rfl, by simp [World.frozen?, hb], hk _ (S.chg n hn ((keeps_setCell w b i v).mono fun k _ h => by subst h; rfl) _ (heap_setCell_at hb v) (fun k hk => .inl hk))⟩
theorem ST.lit3 (S : ST w0 w H) {z0 z1 z2 v0 v1 v2 : Value} {t : TypeId} {k : Nat → World → Prop} (hk : ∀ b w', w.heap.size ≤ b → ST w0 w' (It.cells b #[v0, v1, v2] t :: H) → k b w') :
    NEWB #[z0, z1, z2] t (fun b w => STO ⟨b, 0, none⟩ v0 (fun w => STO ⟨b, 1, none⟩ v1 (fun w => STO ⟨b, 2, none⟩ v2 (fun w => k b w) w) w) w) w :=
  S.newB fun b w1 hb _ S1 => S1.sto 0 rfl (cs' := #[v0, z1, z2]) (by simp) rfl fun w2 S2 => S2.sto 0 rfl (cs' := #[v0, v1, z2]) (by simp) rfl fun w3 S3 => S3.sto 0 rfl (cs' := #[v0, v1, v2]) (by simp) rfl fun w4 S4 => hk b w4 hb S4
theorem ST.sto7 (S : ST w0 w H) (n : Nat) {b : Nat} {x0 x1 x2 x3 x4 x5 x6 v0 v1 v2 v3 v4 v5 v6 : Value} {t : TypeId} (hn : H[n]? = some (It.cells b #[x0, x1, x2, x3, x4, x5, x6] t)) {k : World → Prop}
    (hk : ∀ w', ST w0 w' (H.set n (It.cells b #[v0, v1, v2, v3, v4, v5, v6] t)) → k w') :
    STO ⟨b, 0, none⟩ v0 (fun w => STO ⟨b, 1, none⟩ v1 (fun w => STO ⟨b, 2, none⟩ v2 (fun w => STO ⟨b, 3, none⟩ v3 (fun w => STO ⟨b, 4, none⟩ v4 (fun w => STO ⟨b, 5, none⟩ v5 (fun w => STO ⟨b, 6, none⟩ v6 k w) w) w) w) w) w) w := by
  have hlt := (List.getElem?_eq_some_iff.1 hn).1
  refine S.sto n hn (cs' := #[v0, x1, x2, x3, x4, x5, x6]) (by simp) rfl fun w1 S1 => ?_
  refine S1.sto n (List.getElem?_set_self hlt) (cs' := #[v0, v1, x2, x3, x4, x5, x6]) (by simp) rfl fun w2 S2 => ?_
  rw [List.set_set] at S2
  refine S2.sto n (List.getElem?_set_self hlt) (cs' := #[v0, v1, v2, x3, x4, x5, x6]) (by simp) rfl fun w3 S3 => ?_
  rw [List.set_set] at S3
  refine S3.sto n (List.getElem?_set_self hlt) (cs' := #[v0, v1, v2, v3, x4, x5, x6]) (by simp) rfl fun w4 S4 => ?_
  rw [List.set_set] at S4
  refine S4.sto n (List.getElem?_set_self hlt) (cs' := #[v0, v1, v2, v3, v4, x5, x6]) (by simp) rfl fun w5 S5 => ?_
  rw [List.set_set] at S5
  refine S5.sto n (List.getElem?_set_self hlt) (cs' := #[v0, v1, v2, v3, v4, v5, x6]) (by simp) rfl fun w6 S6 => ?_
  rw [List.set_set] at S6
  refine S6.sto n (List.getElem?_set_self hlt) (cs' := #[v0, v1, v2, v3, v4, v5, v6]) (by simp) rfl fun w7 S7 => ?_
  rw [List.set_set] at S7
  exact hk w7 S7
theorem ST.nil (S : ST w0 w H) (e : TypeId) (sz : Nat) : ST w0 w (It.row e sz none 0 0 [] :: H) := S.add (.refl _ _) _ (Row.nil w e sz) (fun k hk => by cases hk)
theorem ST.app (S : ST w0 w H) (n : Nat) {P : Program} {t ty e : TypeId} {sz bytes : Nat} {z : Value} {a : Option Addr} {m c : Nat} {xs : List Value} (hn : H[n]? = some (It.row e sz a m c xs)) (hT : slT P t = some (e, sz, bytes, z)) (hz : z.cells.size = sz) (hsz : 0 < sz) (hb0 : 0 < bytes)
    {b : Option Addr} {mm mc : Nat} {news : List Value} (hs : Rd w b news) (hl : news.length = mm * sz) (h1 : ∀ u ∈ news, u.oneCell' = true) (hby : (m + mm) * bytes ≤ 140737488355328) {f : Value → World → Prop}
    (hf : ∀ a' c' w', ST w0 w' (H.set n (It.row e sz a' (m + mm) c' (xs ++ news))) → f (.slice a' (m + mm) c') w') : OPR P (Builtin.append_ #[t, t] ty #[.slice a m c, .slice b mm mc]) f w := by
  obtain ⟨a', c', w', hrun, hrow, hk, hnew⟩ := append_row (ty := ty) (mc := mc) hT hz hsz hb0 (S.rw n hn) hs hl h1 hby
  unfold OPR
  rw [hrun]
  exact hf a' c' w' (S.chg n hn hk _ hrow hnew)
theorem ST.range (S : ST w0 w H) (rr : Loop) : ST w0 ((w.alloc (.deferred (some []))).alloc (.loop rr)) (It.obj (w.heap.size + 1) (.loop rr) :: It.obj w.heap.size (.deferred (some [])) :: H) := by
  have B1 : Below w.heap.size w (w.alloc (.deferred (some []))) := (Below.refl _ w).alloc (Nat.le_refl _) _
  have S1 := S.add B1 (It.obj w.heap.size (.deferred (some []))) (heap_alloc_new w _) (fun k hk => by cases hk; exact Nat.le_refl _)
  have S2 := S1.add ((Below.refl _ _).alloc (Nat.le_refl _) (.loop rr)) (It.obj (w.alloc (.deferred (some []))).heap.size (.loop rr)) (heap_alloc_new _ _) (fun k hk => by cases hk; exact Nat.le_refl _)
  rwa [World.size_alloc] at S2
theorem keeps_put (w : World) (l : Nat) (o : Obj) : Keeps (· = l) w (w.putObj l o) := ⟨rfl, rfl, rfl, by simp, fun k _ hn => World.putObj_heap_other hn⟩
theorem ST.put (S : ST w0 w H) (n : Nat) {b : Nat} {o : Obj} (hn : H[n]? = some (It.obj b o)) (o' : Obj) : ST w0 (w.putObj b o') (H.set n (It.obj b o')) :=
  S.chg n hn ((keeps_put w b o').mono fun k _ h => by subst h; rfl) _ (World.putObj_heap_same (Array.getElem?_eq_some_iff.1 (S.get n hn)).1) (fun k hk => .inl hk)
theorem ST.begr (S : ST w0 w H) (n : Nat) {L : Nat} {rr : Loop} (hn : H[n]? = some (It.obj L (.loop rr))) {k : World → Prop} (hk : ∀ w', ST w0 w' (H.set n (It.obj L (.loop { rr with state := .busy }))) → k w') : BEGR rr L k w :=
  ⟨S.get n hn, hk _ (S.put n hn _)⟩
theorem Rd.putLoop {w : World} {a : Option Addr} {xs : List Value} (h : Rd w a xs) {L : Nat} {rr : Loop} (hL : w.heap[L]? = some (.loop rr)) (o : Obj) : Rd (w.putObj L o) a xs := by
  intro j v hv
  obtain ⟨p, hp, hc⟩ := h j v hv
  refine ⟨p, hp, (keeps_put w L o).cell hc ?_⟩
  intro he
  have he' : (p.add j).block = L := he
  simp [World.cell?, he', hL] at hc
theorem ST.begrK (S : ST w0 w H) (n : Nat) {L : Nat} {rr : Loop} (hn : H[n]? = some (It.obj L (.loop rr))) {k : World → Prop} (hk : ∀ w', (∀ a xs, Rd w a xs → Rd w' a xs) → ST w0 w' (H.set n (It.obj L (.loop { rr with state := .busy }))) → k w') : BEGR rr L k w :=
  ⟨S.get n hn, hk _ (fun _ _ h => h.putLoop (S.get n hn) _) (S.put n hn _)⟩
theorem ST.keep {x : It} (S : ST w0 w (x :: H)) (n : Nat) : ST w0 w (x :: H.drop n) := S.sub ((List.drop_sublist n H).cons_cons x)
theorem rr_same {rr : Loop} (h1 : rr.state = .ready) (h2 : rr.pending = none) : ({ rr with state := if (none : Option Code).isNone then .ready else .done, pending := none } : Loop) = rr := by
  cases rr
  simp_all
theorem ST.endr0 (S : ST w0 w H) (n : Nat) {L : Nat} {rr : Loop} (h1 : rr.state = .ready) (h2 : rr.pending = none) (hn : H[n]? = some (It.obj L (.loop { rr with state := .busy }))) {k : Bool → World → Prop} (hk : ∀ w', ST w0 w' (H.set n (It.obj L (.loop rr))) → k true w') : ENDR rr L k none w := by
  refine ⟨S.get n hn, ?_⟩
  have := S.put n hn (.loop { rr with state := if (none : Option Code).isNone then .ready else .done, pending := none })
  rw [rr_same h1 h2] at this ⊢
  exact hk _ this
theorem ST.endl0 (S : ST w0 w H) (n : Nat) {L : Nat} {rr : Loop} (h1 : rr.state = .ready) (h2 : rr.pending = none) (hn : H[n]? = some (It.obj L (.loop rr))) {k : Option Code → World → Prop} (hk : ∀ w', ST w0 w' (H.set n (It.obj L (.loop { rr with state := .exhausted, pending := none }))) → k none w') : ENDL rr L k w :=
  ⟨none, by rw [rr_same h1 h2]; exact S.get n hn, hk _ (S.put n hn _)⟩
theorem YLD.mono {P : Program} {l : Nat} {args : Array Value} {k k' : Bool → World → Prop} {w : World} (h : YLD P l args k w) (hk : ∀ y w', k y w' → k' y w') : YLD P l args k' w := by
  obtain ⟨f, tm, asg, bo, hy, hr⟩ := h
  refine ⟨f, tm, asg, bo, hy, hr.mono ?_⟩
  rintro e w' ⟨t, he, h⟩
  exact ⟨t, he, hk t w' h⟩
end
end Go.Dn
namespace Go.Proofs.YtfgbfodohmeamaaGreatDoor
set_option maxRecDepth 100000
open Go.Dn Go.Proofs
open Go.RowKit (Below)
set_option linter.unusedVariables false
theorem Row.ofB {w : World} {b : Nat} {e : TypeId} {cs : Array Value} (h : w.heap[b]? = some (.cells cs e (0, 0))) (hm : cs.size ≤ maxLen) : Row w e 1 (some ⟨b, 0, none⟩) cs.size cs.size cs.toList :=
  ⟨by simp, .inr ⟨b, cs, rfl, h, Nat.le_refl _, hm, by simp, by rw [Nat.mul_one]; exact List.take_of_length_le (by simp)⟩⟩
theorem byteV_wrap (n : Nat) : Value.int .u8 (IntKind.u8.wrap (n : Int)) = byteV (UInt8.ofNat n) := by
  rw [wrap_u8]
  unfold byteV
  congr 1
theorem fdiv_pow (n k : Nat) (hk : k ≤ 32) : Int.fdiv (n : Int) (2 ^ (min k 32)) = ((n / 2 ^ k : Nat) : Int) := by
  rw [Int.fdiv_eq_ediv_of_nonneg _ (Int.le_of_lt (Int.pow_pos (by decide))), Nat.min_eq_left hk]
  norm_cast
theorem wal_low_ok (w : World) (n : Nat) : Calls Tryz.prog f.wal_low #[.int .u32 (n : Int)] w (Ret fun v w' => ∃ a c, v = .slice a (lowL n).length c ∧ NewB w w' (lowL n) a c) := by
  apply R.wal_low_calls
  unfold R.wal_low
  refine (SH.start (fun _ => False) w).newB fun b w1 hb B1 S1 => ?_
  have h8 : Int.fdiv (n : Int) (2 ^ (min 8 32)) = ((n / 256 : Nat) : Int) := fdiv_pow n 8 (by omega)
  have h16 : Int.fdiv (n : Int) (2 ^ (min 16 32)) = ((n / 65536 : Nat) : Int) := fdiv_pow n 16 (by omega)
  have h24 : Int.fdiv (n : Int) (2 ^ (min 24 32)) = ((n / 16777216 : Nat) : Int) := fdiv_pow n 24 (by omega)
  have hh := S1.get 0 rfl
  rw [h8, h16, h24, byteV_wrap, byteV_wrap, byteV_wrap, byteV_wrap] at hh
  exact ⟨_, _, rfl, Row.ofB hh (by show 4 ≤ maxLen; decide), fun k hk => by cases hk; exact hb, B1⟩
theorem numW {x : Int} (h : okN x) : IntKind.u64.wrap x = (x.toNat : Int) := by rw [wrap_u64_id h.1 (by have := h.2; omega)]; have := h.1; omega
def wordsL (kind : UInt8) (l : List Int) : List UInt8 := kind :: l.flatMap numL
theorem wordsL_take (kind : UInt8) (l : List Int) {i : Nat} (hi : i < l.length) : wordsL kind (l.take (i + 1)) = wordsL kind (l.take i) ++ digitsL l[i].toNat := by
  unfold wordsL
  rw [List.take_succ_eq_append_getElem hi, List.flatMap_append]
  simp [numL]
theorem numsL_len : ∀ (l : List Int), (∀ x ∈ l, okN x) → (l.flatMap numL).length ≤ 10 * l.length
  | [], _ => by simp
  | x :: l, h => by
    have h1 := (numL_len (h x (by simp))).2
    have h2 := numsL_len l fun y hy => h y (by simp [hy])
    simp only [List.flatMap_cons, List.length_append, List.length_cons]
    omega
theorem wal_words_ok {w : World} {a : Option Addr} {c : Nat} (kind : UInt8) (l : List Int) (hl : Rd w a (l.map fun x => Value.int .i64 x)) (hx : ∀ x ∈ l, okN x) (hn : l.length ≤ 10) :
    Calls Tryz.prog f.wal_words #[.int .u8 (kind.toNat : Int), .slice a l.length c] w (Ret fun v w' => ∃ a c, v = .slice a (wordsL kind l).length c ∧ NewB w w' (wordsL kind l) a c) := by
  apply R.wal_words_calls
  unfold R.wal_words
  refine (SH.start (fun _ => False) w).newB fun b w1 hb B1 S1 => ?_
  have h0 : NewB w w1 (wordsL kind (l.take 0)) (some ⟨b, 0, none⟩) 1 := ⟨Row.ofB (S1.get 0 rfl) (by show 1 ≤ maxLen; decide), fun k hk => by cases hk; exact hb, B1⟩
  refine ⟨fun st w2 => ∃ (i : Nat) (a : Option Addr) (c : Nat), st = [.slice a (wordsL kind (l.take i)).length c, .int .i64 (i : Int)] ∧ i ≤ l.length ∧ NewB w w2 (wordsL kind (l.take i)) a c, fun st _ => match st with
    | [_, .int _ i] => l.length - i.toNat
    | _ => 0, ⟨0, _, _, rfl, Nat.zero_le _, h0⟩, ?_⟩
  rintro a2 _ c2 _ w2 ⟨i, _, _, hst, hi, h2⟩
  cases hst
  refine IFB_dec (fun hlt => ⟨⟨by omega, hlt⟩, ?_⟩) (fun hge => ?_)
  · have hil : i < l.length := by omega
    obtain ⟨p, rfl, hc⟩ := (hl.grown h2.bel) i _ (by rw [List.getElem?_map, List.getElem?_eq_getElem hil]; rfl)
    have hxi := hx _ (List.getElem_mem hil)
    have hlen : (wordsL kind (l.take i)).length ≤ 1000 := by
      have := numsL_len (l.take i) fun y hy => hx y (List.mem_of_mem_take hy)
      rw [List.length_take] at this
      unfold wordsL
      rw [List.length_cons]
      omega
    refine ⟨_, by rw [Int.toNat_natCast, Nat.mul_one]; exact hc, ?_⟩
    rw [numW hxi]
    refine (wire_Number_ok (wordsL kind (l.take i)) h2.rd l[i].toNat (by have := hxi.2; omega) (by omega)).mono ?_
    rintro _ w3 ⟨_, rfl, a3, c3, rfl, h3⟩
    rw [← wordsL_take kind l hil] at h3 ⊢
    refine ⟨_, _, _, rfl, ?_⟩
    rw [wrap_succ (by omega)]
    exact ⟨⟨i + 1, a3, c3, rfl, by omega, h3.before h2.bel⟩, by show l.length - ((i + 1 : Nat) : Int).toNat < l.length - ((i : Nat) : Int).toNat; simp only [Int.toNat_natCast]; omega⟩
  · have : i = l.length := by omega
    subst this
    rw [List.take_length] at h2 ⊢
    exact ⟨_, _, rfl, h2⟩
theorem flat4 (a b c d : Option Addr × Nat × List UInt8) : flatB [a, b, c, d] = a.2.2 ++ (b.2.2 ++ (c.2.2 ++ d.2.2)) := by simp [flatB]
theorem crc_lt (l : List UInt8) : (crc l).toNat < 4294967296 := (crc l).isLt
theorem wal_record_ok {w : World} {a : Option Addr} {c : Nat} (p : List UInt8) (hp : Rd w a (p.map byteV)) (hn : p.length ≤ 1048576) :
    Calls Tryz.prog f.wal_record #[.slice a p.length c] w (Ret fun v w' => ∃ a c, v = .slice a (recL p).length c ∧ NewB w w' (recL p) a c) := by
  apply R.wal_record_calls
  unfold R.wal_record
  rw [wrap_u32_id (by omega) (by omega)]
  refine (wal_low_ok w p.length).mono ?_
  rintro _ w1 ⟨_, rfl, a1, c1, rfl, h1⟩
  refine ⟨_, _, _, rfl, (SH.start (fun _ => False) w1).newB fun b4 w2 hb4 B2 S2 => ?_⟩
  have h1 := h1.grown B2
  refine (wire_Sum_ok [(a1, c1, lowL p.length)] (by have := Rd.of_block0 (S2.get 0 rfl); simpa [partV1] using this) (by
    intro q hq
    simp only [List.mem_singleton] at hq
    subst hq
    exact h1.rd) (by simp) (by intro q hq; simp only [List.mem_singleton] at hq; subst hq; rw [lowL_len]; omega)).mono ?_
  rintro _ w3 ⟨_, rfl, rfl, rfl⟩
  have e1 : [(a1, c1, lowL p.length)].flatMap (fun x => x.2.2) = lowL p.length := by simp
  rw [e1]
  refine ⟨_, rfl, (wal_low_ok w3 (crc (lowL p.length)).toNat).mono ?_⟩
  rintro _ w4 ⟨_, rfl, a4, c4, rfl, h4⟩
  refine ⟨_, _, _, rfl, (SH.start (fun _ => False) w4).newB fun b9 w5 hb9 B5 S5 => ?_⟩
  have h4 := h4.grown B5
  have hp5 := (hp.grown h1.bel).grown h4.bel
  refine (wire_Sum_ok [(a, c, p)] (by have := Rd.of_block0 (S5.get 0 rfl); simpa [partV1] using this) (by
    intro q hq
    simp only [List.mem_singleton] at hq
    subst hq
    exact hp5) (by simp) (by intro q hq; simp only [List.mem_singleton] at hq; subst hq; show p.length < _; omega)).mono ?_
  rintro _ w6 ⟨_, rfl, rfl, rfl⟩
  have e2 : [(a, c, p)].flatMap (fun x => x.2.2) = p := by simp
  rw [e2]
  refine ⟨_, rfl, (wal_low_ok w6 (crc p).toNat).mono ?_⟩
  rintro _ w7 ⟨_, rfl, a7, c7, rfl, h7⟩
  refine ⟨_, _, _, rfl, (SH.start (fun _ => False) w7).newB fun b14 w8 hb14 B8 S8 => ?_⟩
  have h7 := h7.grown B8
  have ef : flatB [(a1, c1, lowL p.length), (a4, c4, crcL (lowL p.length)), (a, c, p), (a7, c7, crcL p)] = recL p := flat4 _ _ _ _
  have hlen := recL_len p
  refine (slices_Concat_ok [(a1, c1, lowL p.length), (a4, c4, crcL (lowL p.length)), (a, c, p), (a7, c7, crcL p)] (Rd.of_block0 (S8.get 0 rfl)) (by
    intro q hq
    simp only [List.mem_cons, List.not_mem_nil, or_false] at hq
    rcases hq with rfl | rfl | rfl | rfl
    · exact ((h1.grown h4.bel).grown h7.bel).rd
    · exact (h4.grown h7.bel).rd
    · exact hp5.grown h7.bel
    · exact h7.rd) (by simp) (by rw [ef]; omega)).mono ?_
  rintro _ w9 ⟨_, rfl, a9, c9, rfl, h9⟩
  rw [ef] at h9 ⊢
  exact ⟨_, _, _, rfl, a9, c9, rfl, h9.before (below_trans h1.bel (below_trans h4.bel h7.bel))⟩
theorem entB_words (kind : UInt8) (x : EntP) : wordsL kind [x.1, x.2.1] ++ textL x.2.2 = kind :: entB x := by simp [wordsL, entB]
theorem wal_entryRecord_ok (w : World) (kind : UInt8) (x : EntP) (hx : okE x) :
    Calls Tryz.prog f.wal_entryRecord #[.int .u8 (kind.toNat : Int), .agg #[.int .i64 x.1, .int .i64 x.2.1, .string x.2.2]] w (Ret fun v w' => ∃ a c, v = .slice a (recL (kind :: entB x)).length c ∧ NewB w w' (recL (kind :: entB x)) a c) := by
  apply R.wal_entryRecord_calls
  unfold R.wal_entryRecord
  refine (ST.start w).newB fun b5 w1 _ _ S1 => S1.draw fun w2 _ S2 => ?_
  refine ⟨_, S2.cell 0 rfl rfl, _, S2.cell 0 rfl rfl, _, S2.cell 0 rfl rfl, S2.newB fun b9 w3 _ _ S3 => ⟨S3.cell 1 rfl rfl, ?_⟩⟩
  refine (wal_words_ok kind [x.1, x.2.1] (S3.rdc 0 rfl) (by
    intro y hy
    simp only [List.mem_cons, List.not_mem_nil, or_false] at hy
    rcases hy with rfl | rfl
    · exact hx.1
    · exact hx.2.1) (by simp)).mono ?_
  rintro _ w4 ⟨_, rfl, a4, c4, rfl, h4⟩
  have S4 := S3.grown h4.bel
  have hs := hx.2.2
  have hel := entB_len hx
  have hwl : (wordsL kind [x.1, x.2.1]).length ≤ 100 := by
    have e := congrArg List.length (entB_words kind x)
    have := (numL_len hx.1).2
    have := (numL_len hx.2.1).2
    unfold wordsL
    simp
    omega
  refine ⟨_, _, _, rfl, S4.cell 1 rfl rfl, (wire_Text_ok (wordsL kind [x.1, x.2.1]) h4.rd x.2.2 (by omega) (by omega)).mono ?_⟩
  rintro _ w5 ⟨_, rfl, a5, c5, rfl, h5⟩
  rw [entB_words] at h5 ⊢
  refine ⟨_, _, _, _, rfl, (wal_record_ok (kind :: entB x) h5.rd (by rw [List.length_cons]; omega)).mono ?_⟩
  rintro _ w6 ⟨_, rfl, a6, c6, rfl, h6⟩
  exact ⟨_, _, _, rfl, a6, c6, rfl, h6.before (S4.grown h5.bel).bel⟩
theorem wal_stateRecord_ok (w : World) (t v : Int) (ht : okN t) (hv : okN v) :
    Calls Tryz.prog f.wal_stateRecord #[.agg #[.int .i64 t, .int .i64 v]] w (Ret fun u w' => ∃ a c, u = .slice a (Pay.state t v).rcd.length c ∧ NewB w w' (Pay.state t v).rcd a c) := by
  apply R.wal_stateRecord_calls
  unfold R.wal_stateRecord
  refine (ST.start w).newB fun b3 w1 _ _ S1 => ⟨_, S1.cell 0 rfl rfl, _, S1.cell 0 rfl rfl, S1.newB fun b6 w2 _ _ S2 => ?_⟩
  refine (wal_words_ok 1 [t, v] (S2.rdc 0 rfl) (by
    intro y hy
    simp only [List.mem_cons, List.not_mem_nil, or_false] at hy
    rcases hy with rfl | rfl
    · exact ht
    · exact hv) (by simp)).mono ?_
  rintro _ w3 ⟨_, rfl, a3, c3, rfl, h3⟩
  have e : wordsL 1 [t, v] = (Pay.state t v).bytes := by simp [wordsL, Pay.bytes]
  have hl := (Pay.bytes_len (p := .state t v) ⟨ht, hv⟩).2
  have hz : (Pay.state t v).size = 0 := rfl
  rw [e] at h3 ⊢
  refine ⟨_, _, _, rfl, (wal_record_ok _ h3.rd (by omega)).mono ?_⟩
  rintro _ w4 ⟨_, rfl, a4, c4, rfl, h4⟩
  exact ⟨_, _, _, rfl, a4, c4, rfl, h4.before (S2.grown h3.bel).bel⟩
end Go.Proofs.YtfgbfodohmeamaaGreatDoor
namespace Go.Proofs
set_option maxRecDepth 100000
open Go.Shelf
def Tryz.lays227_ren : Go.Shelf.Ren := ⟨fun | 227 => 122 | n => n, fun | 9 => 9 | 116 => 182 | 4 => 4 | 0 => 0 | 3 => 3 | 5 => 5 | n => n, fun | n => n⟩
theorem Tryz.lays227 : Go.Proofs.Lays.n227 Tryz.prog Tryz.lays227_ren := {
  mixed := by kernel_rfl
  f227 := Tryz.func122.trans (congrArg some (by kernel_rfl))
  t0 := Tryz.underlying0
  a0 := Tryz.isAgg0
  z0 := Tryz.sizeOf0
  v0 := Tryz.zeroValue0
  t3 := Tryz.underlying3
  a3 := Tryz.isAgg3
  z3 := Tryz.sizeOf3
  v3 := Tryz.zeroValue3
  t4 := Tryz.underlying4
  a4 := Tryz.isAgg4
  z4 := Tryz.sizeOf4
  v4 := Tryz.zeroValue4
  t5 := Tryz.underlying5
  a5 := Tryz.isAgg5
  z5 := Tryz.sizeOf5
  v5 := Tryz.zeroValue5
  t9 := Tryz.underlying9
  a9 := Tryz.isAgg9
  z9 := Tryz.sizeOf9
  v9 := Tryz.zeroValue9
  t116 := Tryz.underlying182
  a116 := Tryz.isAgg182
  z116 := Tryz.sizeOf182 }
open Go.RowKit Go.Lib in
theorem Tryz.strings_makeASCIISet (hv116 : ∀ w, (zeroValue 182).run Tryz.prog w = .ok (.agg (Array.replicate 256 (.bool false))) w) (chars : ByteArray) (w : World) (hs : chars.size < 4294967281) (hascii : ∀ (j : Nat) b, chars.data.toList[j]? = some b → b.toNat < 128) :
    Calls Tryz.prog 122 #[.string chars] w fun e w' => e = .returned (.tuple #[.agg (Lib.setCells chars.data.toList), .bool true]) ∧ w' = w.alloc (.cells (Lib.setCells chars.data.toList) 182) := Any.strings_makeASCIISet Tryz.lays227 hv116 (by kernel_rfl) chars w hs hascii
def Tryz.lays228_ren : Go.Shelf.Ren := ⟨fun | 228 => 149 | n => n, fun | 124 => 186 | 5 => 5 | 4 => 4 | 0 => 0 | 116 => 182 | n => n, fun | n => n⟩
theorem Tryz.lays228 : Go.Proofs.Lays.n228 Tryz.prog Tryz.lays228_ren := {
  mixed := by kernel_rfl
  f228 := Tryz.func149.trans (congrArg some (by kernel_rfl))
  t0 := Tryz.underlying0
  a0 := Tryz.isAgg0
  z0 := Tryz.sizeOf0
  v0 := Tryz.zeroValue0
  t4 := Tryz.underlying4
  a4 := Tryz.isAgg4
  z4 := Tryz.sizeOf4
  v4 := Tryz.zeroValue4
  t5 := Tryz.underlying5
  a5 := Tryz.isAgg5
  z5 := Tryz.sizeOf5
  v5 := Tryz.zeroValue5
  t116 := Tryz.underlying182
  a116 := Tryz.isAgg182
  z116 := Tryz.sizeOf182
  t124 := Tryz.underlying186
  a124 := Tryz.isAgg186
  z124 := Tryz.sizeOf186
  v124 := Tryz.zeroValue186 }
open Go.RowKit Go.Lib in
theorem Tryz.asciiSet_contains (b : Nat) (x : UInt8) (v : Bool) (w : World) (hc : w.cell? ⟨b, x.toNat, none⟩ = some (.bool v)) :
    Calls Tryz.prog 149 #[.pointer (some ⟨b, 0, none⟩), .int .u8 x.toNat] w fun e w' => e = .returned (.bool v) ∧ w' = w := Any.asciiSet_contains Tryz.lays228 b x v w hc
end Go.Proofs
namespace Go.Proofs.YtfgbfodohmeamaaGreatDoor
set_option maxRecDepth 100000
open Go.Dn Go.Proofs
open Go.RowKit (Below)
set_option linter.unusedVariables false
theorem trimRight_ok (mem : UInt8 → Bool) {w : World} {b : Nat} (hc : ∀ x : UInt8, w.cell? ⟨b, x.toNat, none⟩ = some (.bool (mem x))) (s : ByteArray) (hs : s.size ≤ 9223372036854775807) :
    Calls Tryz.prog f.strings_trimRightASCII #[.string s, .pointer (some ⟨b, 0, none⟩)] w (Ret fun r w' => ∃ l m, r = .string (sof l) ∧ bl s = l ++ m ∧ m.all mem = true ∧ (l = [] ∨ ∃ p c, l = p ++ [c] ∧ mem c = false) ∧ w' = w) := by
  apply R.strings_trimRightASCII_calls
  unfold R.strings_trimRightASCII
  refine ⟨fun st w' => ∃ l m, st = [.string (sof l)] ∧ bl s = l ++ m ∧ m.all mem = true ∧ w' = w, fun st _ => match st with | [.string t] => t.size | _ => 0, ⟨bl s, [], by rw [sof_bl], by simp, rfl, rfl⟩, ?_⟩
  rintro t w1 ⟨l, m, hst, hl, hm, rfl⟩
  have ht : t = sof l := by simpa using hst
  subst ht
  rw [size_sof]
  have hlen : l.length ≤ 9223372036854775807 := by
    have := congrArg List.length hl
    rw [bl_length, List.length_append] at this
    omega
  refine IFB_dec (fun h => ?_) (fun h => ?_)
  · have hne : l ≠ [] := by intro h2; subst h2; simp at h
    obtain ⟨p, c, rfl⟩ : ∃ p c, l = p ++ [c] := ⟨l.dropLast, l.getLast hne, (List.dropLast_concat_getLast hne).symm⟩
    simp only [List.length_append, List.length_cons, List.length_nil] at h hlen ⊢
    have e1 : IntKind.i64.wrap (((p.length + (0 + 1) : Nat) : Int) - 1) = (p.length : Int) := by rw [wrap_i64 (by omega) (by omega)]; omega
    rw [e1, Int.toNat_natCast, sget_eq, bl_sof, show (p ++ [c]).getD p.length 0 = c by simp]
    refine ⟨⟨by omega, by omega⟩, (Tryz.asciiSet_contains b c (mem c) w1 (hc c)).mono ?_⟩
    rintro _ w2 ⟨rfl, rfl⟩
    refine ⟨_, rfl, IFB_of (fun h2 => ?_) (fun h2 => ?_)⟩
    · exact ⟨p ++ [c], m, rfl, hl, hm, .inr ⟨p, c, rfl, by simpa using h2⟩, rfl⟩
    · have hmc : mem c = true := by simpa using h2
      have e2 : ByteArray.extract (sof (p ++ [c])) 0 p.length = sof p := by
        rw [extract_eq, bl_sof]
        simp
      refine ⟨⟨by omega, by omega, by omega⟩, ?_⟩
      rw [e2]
      exact ⟨⟨p, c :: m, rfl, by rw [hl]; simp, by simp [hmc, hm], rfl⟩, by show (sof p).size < (sof (p ++ [c])).size; rw [size_sof, size_sof]; simp⟩
  · have : l = [] := List.eq_nil_of_length_eq_zero (by omega)
    exact ⟨l, m, rfl, hl, hm, .inl this, rfl⟩
theorem trimLeft_ok (mem : UInt8 → Bool) {w : World} {b : Nat} (hc : ∀ x : UInt8, w.cell? ⟨b, x.toNat, none⟩ = some (.bool (mem x))) (s : ByteArray) :
    Calls Tryz.prog f.strings_trimLeftASCII #[.string s, .pointer (some ⟨b, 0, none⟩)] w (Ret fun r w' => ∃ l m, r = .string (sof l) ∧ bl s = m ++ l ∧ m.all mem = true ∧ (l = [] ∨ ∃ c p, l = c :: p ∧ mem c = false) ∧ w' = w) := by
  apply R.strings_trimLeftASCII_calls
  unfold R.strings_trimLeftASCII
  refine ⟨fun st w' => ∃ l m, st = [.string (sof l)] ∧ bl s = m ++ l ∧ m.all mem = true ∧ w' = w, fun st _ => match st with | [.string t] => t.size | _ => 0, ⟨bl s, [], by rw [sof_bl], by simp, rfl, rfl⟩, ?_⟩
  rintro t w1 ⟨l, m, hst, hl, hm, rfl⟩
  have ht : t = sof l := by simpa using hst
  subst ht
  rw [size_sof]
  refine IFB_dec (fun h => ?_) (fun h => ?_)
  · cases l with
    | nil => simp at h
    | cons c p =>
      simp only [List.length_cons] at h ⊢
      rw [sget_eq, bl_sof, show (c :: p).getD 0 0 = c by rfl]
      refine ⟨⟨by omega, by omega⟩, (Tryz.asciiSet_contains b c (mem c) w1 (hc c)).mono ?_⟩
      rintro _ w2 ⟨rfl, rfl⟩
      refine ⟨_, rfl, IFB_of (fun h2 => ?_) (fun h2 => ?_)⟩
      · exact ⟨c :: p, m, rfl, hl, hm, .inr ⟨c, p, rfl, by simpa using h2⟩, rfl⟩
      · have hmc : mem c = true := by simpa using h2
        have e2 : ByteArray.extract (sof (c :: p)) 1 (p.length + 1) = sof p := by
          rw [extract_eq, bl_sof]
          simp
        refine ⟨⟨by omega, by omega, by omega⟩, ?_⟩
        rw [e2]
        exact ⟨⟨p, m ++ [c], rfl, by rw [hl]; simp, by simp [hmc, hm], rfl⟩, by show (sof p).size < (sof (c :: p)).size; rw [size_sof, size_sof]; simp⟩
  · have : l = [] := List.eq_nil_of_length_eq_zero (by omega)
    exact ⟨l, m, rfl, hl, hm, .inl this, rfl⟩
theorem BIF_len {vs : List Value} {n : Nat} {X : Prop} (h : vs.length = n) (hx : X) : bif (Nat.beq (List.length vs) n && true) then X else False := by
  subst h
  rw [Nat.beq_refl]
  exact hx
theorem LIKEL_bools : ∀ (us : List Bool) {n : Nat} {f : List Value → Prop}, us.length = n → f (us.map .bool) → LIKEL (List.replicate n (.bool false)) f
  | [], _, _, hn, h => by subst hn; exact h
  | u :: us, _, _, hn, h => by subst hn; exact ⟨u, LIKEL_bools us rfl h⟩
def setB (l : List UInt8) : List Bool := (List.range 256).map fun j => l.contains (UInt8.ofNat j)
theorem setB_cells (l : List UInt8) : Lib.setCells l = ⟨(setB l).map .bool⟩ := by
  rw [Lib.setCells_eq]
  apply Array.ext'
  simp [setB, List.map_map, Function.comp_def]
theorem strings_Trim_ok (s cut : ByteArray) (hs : s.size ≤ 9223372036854775807) (h2 : 2 ≤ cut.size) (hz : cut.size < 4294967281) (ha : ∀ (j : Nat) b, cut.data.toList[j]? = some b → b.toNat < 128) (w : World) :
    Calls Tryz.prog f.strings_Trim #[.string s, .string cut] w (Ret fun r w' => ∃ q, r = .string q ∧ (q = ⟨#[]⟩ ↔ (bl s).all (bl cut).contains = true) ∧ Below w.heap.size w w') := by
  apply R.strings_Trim_calls
  unfold R.strings_Trim
  have he : ∀ x : ByteArray, bytesEq x ⟨#[]⟩ = true → x = ⟨#[]⟩ := fun x h => by rw [bytesEq_iff] at h; simpa using h
  refine IFB_of (fun h => ?_) (fun h0 => IFB_of (fun h => ?_) (fun h1 => ?_))
  · have := he s h
    subst this
    exact ⟨_, rfl, by simp [bl], .refl _ _⟩
  · have := he cut h
    subst this
    exact absurd h2 (by decide)
  · refine ⟨fun st w' => st = [.bool false] ∧ w' = w, IFB_eq (fun h => by omega) (fun _ => ⟨rfl, rfl⟩), ?_⟩
    rintro t w1 ⟨ht, rfl⟩
    have : t = false := by simpa using ht
    subst this
    refine IFB_false ((Tryz.strings_makeASCIISet (fun _ => by kernel_rfl) cut w1 hz ha).mono ?_)
    rintro _ w5 ⟨rfl, rfl⟩
    rw [setB_cells]
    have hbl : (setB cut.data.toList).length = 256 := by simp [setB]
    refine LIKEL_bools (setB cut.data.toList) hbl ⟨true, rfl, ?_⟩
    have B0 : Below w1.heap.size w1 (w1.alloc (.cells ⟨(setB cut.data.toList).map .bool⟩ 182)) := (Below.refl _ w1).alloc (Nat.le_refl _) _
    have S0 := (SH.start (fun _ => False) w1).grown B0
    have h1 : ∀ v ∈ (setB cut.data.toList).map Value.bool, v.oneCell' = true := by
      intro v hv
      obtain ⟨u, _, rfl⟩ := List.mem_map.1 hv
      rfl
    have hl2 : ((setB cut.data.toList).map Value.bool).length = 256 := by rw [List.length_map]; exact hbl
    refine S0.newB fun b12 w6 _ _ S => BIF_len hl2 (S.stoAll 0 rfl hl2 h1 fun w7 _ S => IFB_true ?_)
    have hc : ∀ x : UInt8, w7.cell? ⟨b12, x.toNat, none⟩ = some (.bool ((bl cut).contains x)) := fun x => S.cell 0 rfl (by
      rw [← setB_cells]
      exact Lib.setCells_at _ _)
    refine (trimRight_ok (bl cut).contains hc s hs).mono ?_
    rintro _ w8 ⟨_, rfl, l, m, rfl, hl, hm, hlast, rfl⟩
    refine ⟨_, rfl, (trimLeft_ok (bl cut).contains hc (sof l)).mono ?_⟩
    rintro _ w9 ⟨_, rfl, q, p, rfl, hq, hp, hfirst, rfl⟩
    refine ⟨_, rfl, _, rfl, ?_, S.below⟩
    rw [bl_sof] at hq
    rw [hl, hq, List.all_append, List.all_append, hm, hp]
    rcases hfirst with rfl | ⟨c, r, rfl, hcf⟩
    · simp [sof]
    · simp [sof]
      intro hcc
      simp_all
end Go.Proofs.YtfgbfodohmeamaaGreatDoor
namespace Go.Proofs
set_option maxRecDepth 100000
open Go.RowKit Go.Maps Go.Sort Go.Shelf
end Go.Proofs
namespace Go.Proofs.YtfgbfodohmeamaaGreatDoor
set_option maxRecDepth 100000
open Go.Dn Go.Proofs
open Go.RowKit (Below)
set_option linter.unusedVariables false
theorem und_str : Tryz.prog.underlying ty.string = some .string := by kernel_rfl
end Go.Proofs.YtfgbfodohmeamaaGreatDoor
