/-
  Texts of this claim, laid one behind the other by a program of mine (install.py): Dn.Mem, Dn.Laws, Dn.Str, Dn.Laws2, Dn.Laws3, Dn.Laws4, Dn.Nums, E.Wire, E.Wire2, E.Len, E.Width, E.Pack, E.Pack2.
-/
import Derived.Test.YtbkffpcgppecgaaGreatM2
import Derived.Below
import Derived.Laws.MakeOwn
import Derived.Laws.BytesString
import Derived.Laws.NewBlocks
import Derived.Laws.OwnMore
import Derived.Laws.StructEq
import Derived.Laws.Strings2
import Derived.Laws.BytesArg
import Derived.Test.YtbkffpcgppecgaaGreatM1
import Derived.Test.YtbkffpcgppecgaaGreatRead
/-
  Memory as a list of blocks that are known whole, and what stays as it was.
-/
namespace Go.Dn
open Go.RowKit (Below)

/-! ## What stays -/
/-- w' is w with new blocks, and with changes of blocks in F alone -/
structure Keeps (F : Nat → Prop) (w w' : World) : Prop where
  os : w'.os = w.os
  tape : w'.tape = w.tape
  output : w'.output = w.output
  size : w.heap.size ≤ w'.heap.size
  block : ∀ k, k < w.heap.size → ¬ F k → w'.heap[k]? = w.heap[k]?
theorem Keeps.refl (F : Nat → Prop) (w : World) : Keeps F w w := ⟨rfl, rfl, rfl, Nat.le_refl _, fun _ _ _ => rfl⟩
theorem Keeps.trans {F G : Nat → Prop} {a b c : World} (h : Keeps F a b) (h' : Keeps G b c) (hs : ∀ k, k < a.heap.size → G k → F k) : Keeps F a c :=
  ⟨h'.os.trans h.os, h'.tape.trans h.tape, h'.output.trans h.output, Nat.le_trans h.size h'.size,
    fun k hk hn => (h'.block k (Nat.lt_of_lt_of_le hk h.size) fun hg => hn (hs k hk hg)).trans (h.block k hk hn)⟩
theorem Keeps.mono {F G : Nat → Prop} {a b : World} (h : Keeps F a b) (hs : ∀ k, k < a.heap.size → F k → G k) : Keeps G a b :=
  ⟨h.os, h.tape, h.output, h.size, fun k hk hn => h.block k hk fun hf => hn (hs k hk hf)⟩
theorem Keeps.of_below {F : Nat → Prop} {a b : World} (h : Below a.heap.size a b) : Keeps F a b := ⟨h.os, h.tape, h.output, h.size, fun k hk _ => h.block k hk⟩
theorem Keeps.below {F : Nat → Prop} {a b : World} {B : Nat} (h : Keeps F a b) (hB : B ≤ a.heap.size) (hs : ∀ k, k < B → ¬ F k) : Below B a b :=
  ⟨h.os, h.tape, h.output, h.size, fun k hk => h.block k (Nat.lt_of_lt_of_le hk hB) (hs k hk)⟩
theorem Keeps.alloc {F : Nat → Prop} {a w : World} (h : Keeps F a w) (o : Obj) : Keeps F a (w.alloc o) :=
  ⟨h.os, h.tape, h.output, Nat.le_trans h.size (by simp), fun k hk hn => (Below.heap_alloc w o k (Nat.lt_of_lt_of_le hk h.size)).trans (h.block k hk hn)⟩
theorem Keeps.drew {F : Nat → Prop} {a w : World} (h : Keeps F a w) : Keeps F a w.drew := ⟨h.os, h.tape, h.output, h.size, h.block⟩
theorem Keeps.setCell {F : Nat → Prop} {a w : World} (h : Keeps F a w) {p : Addr} (hp : F p.block ∨ a.heap.size ≤ p.block) (v : Value) : Keeps F a (w.setCell p v) :=
  ⟨h.os, h.tape, h.output, by simpa using h.size, fun k hk hn => by
    rw [Below.heap_setCell w p v k (by rintro rfl; rcases hp with hp | hp; exact hn hp; omega)]
    exact h.block k hk hn⟩
theorem Keeps.cell {F : Nat → Prop} {a b : World} (h : Keeps F a b) {p : Addr} {v : Value} (hc : a.cell? p = some v) (hn : ¬ F p.block) : b.cell? p = some v :=
  (World.cell?_of_block (w := a) (h.block p.block (World.block_lt_of_cell? a p hc) hn)).trans hc
theorem Keeps.at {F : Nat → Prop} {a b : World} (h : Keeps F a b) {k : Nat} {o : Obj} (hc : a.heap[k]? = some o) (hn : ¬ F k) : b.heap[k]? = some o :=
  (h.block k (Array.getElem?_eq_some_iff.1 hc).1 hn).trans hc

/-! ## Known blocks -/
abbrev Ent := Nat × Array Value × TypeId
/-- world w grew out of w0 by changes in F and new blocks; the blocks of H hold these cells, none of them frozen -/
structure SH (F : Nat → Prop) (w0 w : World) (H : List Ent) : Prop where
  keeps : Keeps F w0 w
  mem : ∀ x ∈ H, w.heap[x.1]? = some (.cells x.2.1 x.2.2 (0, 0))
  nodup : (H.map (·.1)).Nodup
  own : ∀ x ∈ H, F x.1 ∨ w0.heap.size ≤ x.1
section
variable {F : Nat → Prop} {w0 w : World} {H : List Ent}
theorem SH.lt (S : SH F w0 w H) {x : Ent} (hx : x ∈ H) : x.1 < w.heap.size := (Array.getElem?_eq_some_iff.1 (S.mem x hx)).1
theorem SH.start (F : Nat → Prop) (w : World) : SH F w w [] := ⟨.refl F w, by simp, by simp, by simp⟩
theorem SH.alloc (S : SH F w0 w H) (cs : Array Value) (t : TypeId) : SH F w0 (w.alloc (.cells cs t)) ((w.heap.size, cs, t) :: H) where
  keeps := S.keeps.alloc _
  mem := by
    intro x hx
    rcases List.mem_cons.1 hx with rfl | hx
    · exact heap_alloc_new w _
    · rw [Below.heap_alloc w _ x.1 (S.lt hx)]; exact S.mem x hx
  nodup := by
    simp only [List.map_cons, List.nodup_cons]
    refine ⟨fun hm => ?_, S.nodup⟩
    obtain ⟨x, hx, he⟩ := List.mem_map.1 hm
    have := S.lt hx
    omega
  own := by
    intro x hx
    rcases List.mem_cons.1 hx with rfl | hx
    · exact .inr S.keeps.size
    · exact S.own x hx
theorem SH.new (S : SH F w0 w H) {cs : Array Value} {t : TypeId} {k : Nat → World → Prop} (hk : ∀ b w', w.heap.size ≤ b → SH F w0 w' ((b, cs, t) :: H) → k b w') : NEWB cs t k w :=
  hk _ _ (Nat.le_refl _) (S.alloc cs t)
theorem SH.drew (S : SH F w0 w H) : SH F w0 w.drew H := ⟨S.keeps.drew, S.mem, S.nodup, S.own⟩
theorem SH.draw (S : SH F w0 w H) {k : World → Prop} (hk : ∀ w', SH F w0 w' H → k w') : DRAW k w := hk _ S.drew
theorem SH.get (S : SH F w0 w H) (n : Nat) {b : Nat} {cs : Array Value} {t : TypeId} (hn : H[n]? = some (b, cs, t)) : w.heap[b]? = some (.cells cs t (0, 0)) :=
  S.mem _ (List.mem_of_getElem? hn)
theorem SH.cell (S : SH F w0 w H) (n : Nat) {b : Nat} {cs : Array Value} {t : TypeId} (hn : H[n]? = some (b, cs, t)) {i : Nat} {v : Value} (hv : cs[i]? = some v) : w.cell? ⟨b, i, none⟩ = some v := by
  have := S.get n hn
  simp [World.cell?, this, hv]
theorem SH.free (S : SH F w0 w H) (n : Nat) {b : Nat} {cs : Array Value} {t : TypeId} (hn : H[n]? = some (b, cs, t)) (i : Nat) : w.frozen? ⟨b, i, none⟩ = false := by
  have := S.get n hn
  simp [World.frozen?, this]
theorem nodup_ne {α : Type} {l : List α} (h : l.Nodup) {i j : Nat} {x y : α} (hi : l[i]? = some x) (hj : l[j]? = some y) (hne : i ≠ j) : x ≠ y := by
  obtain ⟨h1, rfl⟩ := List.getElem?_eq_some_iff.1 hi
  obtain ⟨h2, rfl⟩ := List.getElem?_eq_some_iff.1 hj
  intro he
  rcases Nat.lt_or_gt_of_ne hne with hlt | hlt
  · exact (List.pairwise_iff_getElem.1 h) i j h1 h2 hlt he
  · exact (List.pairwise_iff_getElem.1 h) j i h2 h1 hlt he.symm
theorem SH.setAt (S : SH F w0 w H) (n : Nat) {b : Nat} {cs : Array Value} {t : TypeId} (hn : H[n]? = some (b, cs, t)) {w' : World} {cs' : Array Value} (hk : Keeps (· = b) w w')
    (hb : w'.heap[b]? = some (.cells cs' t (0, 0))) : SH F w0 w' (H.set n (b, cs', t)) where
  keeps := S.keeps.trans hk fun k hlt he => by
    subst he
    rcases S.own _ (List.mem_of_getElem? hn) with h | h
    · exact h
    · exact absurd hlt (Nat.not_lt.2 h)
  mem := by
    intro x hx
    obtain ⟨i, hi⟩ := List.mem_iff_getElem?.1 hx
    by_cases hin : n = i
    · subst hin
      have hlt := (List.getElem?_eq_some_iff.1 hn).1
      rw [List.getElem?_set_self hlt] at hi
      cases hi
      exact hb
    · rw [List.getElem?_set_ne hin] at hi
      have hne : x.1 ≠ b := by
        refine nodup_ne S.nodup (i := i) (j := n) ?_ ?_ (Ne.symm hin)
        · simp [hi]
        · simp [hn]
      exact hk.at (S.mem x (List.mem_of_getElem? hi)) hne
  nodup := by
    have : (H.set n (b, cs', t)).map (·.1) = H.map (·.1) := by
      apply List.ext_getElem?
      intro i
      simp only [List.getElem?_map]
      by_cases hin : n = i
      · subst hin
        have hlt := (List.getElem?_eq_some_iff.1 hn).1
        rw [List.getElem?_set_self hlt, hn]
        rfl
      · rw [List.getElem?_set_ne hin]
    rw [this]
    exact S.nodup
  own := by
    intro x hx
    obtain ⟨i, hi⟩ := List.mem_iff_getElem?.1 hx
    by_cases hin : n = i
    · subst hin
      have hlt := (List.getElem?_eq_some_iff.1 hn).1
      rw [List.getElem?_set_self hlt] at hi
      cases hi
      exact S.own (b, cs, t) (List.mem_of_getElem? hn)
    · rw [List.getElem?_set_ne hin] at hi
      exact S.own x (List.mem_of_getElem? hi)
theorem keeps_setCell (w : World) (b i : Nat) (v : Value) : Keeps (· = b) w (w.setCell ⟨b, i, none⟩ v) := Keeps.setCell (F := (· = b)) (Keeps.refl _ w) (p := ⟨b, i, none⟩) (.inl rfl) v
theorem heap_setCell_at {w : World} {b i : Nat} {cs : Array Value} {t : TypeId} {f : Nat × Nat} (h : w.heap[b]? = some (.cells cs t f)) (v : Value) :
    (w.setCell ⟨b, i, none⟩ v).heap[b]? = some (.cells (cs.setIfInBounds i v) t f) := by
  simp [World.setCell, Array.getElem?_modify, h]
theorem SH.sto (S : SH F w0 w H) (n : Nat) {b : Nat} {cs : Array Value} {t : TypeId} (hn : H[n]? = some (b, cs, t)) {i : Nat} {v : Value} {k : World → Prop} (hi : i < cs.size)
    (hk : ∀ w', SH F w0 w' (H.set n (b, cs.setIfInBounds i v, t)) → k w') : STO ⟨b, i, none⟩ v k w := by
  refine ⟨?_, S.free n hn i, hk _ (S.setAt n hn (keeps_setCell w b i v) (heap_setCell_at (S.get n hn) v))⟩
  rw [S.cell n hn (Array.getElem?_eq_getElem hi)]
  rfl
/-- a call that changes nothing that was there -/
theorem SH.grown (S : SH F w0 w H) {w' : World} (h : Below w.heap.size w w') : SH F w0 w' H where
  keeps := S.keeps.trans (Keeps.of_below (F := fun _ => False) h) (by simp)
  mem := fun x hx => (h.block x.1 (S.lt hx)).trans (S.mem x hx)
  nodup := S.nodup
  own := S.own
/-- a change of blocks that are not in H -/
theorem SH.kept (S : SH F w0 w H) {G : Nat → Prop} {w' : World} (h : Keeps G w w') (hd : ∀ x ∈ H, ¬ G x.1) (hF : ∀ k, k < w0.heap.size → G k → F k) : SH F w0 w' H where
  keeps := S.keeps.trans h hF
  mem := fun x hx => h.at (S.mem x hx) (hd x hx)
  nodup := S.nodup
  own := S.own
theorem SH.drop (S : SH F w0 w H) (n : Nat) : SH F w0 w (H.drop n) :=
  ⟨S.keeps, fun x hx => S.mem x (List.mem_of_mem_drop hx), by rw [List.map_drop]; exact S.nodup.sublist (List.drop_sublist _ _), fun x hx => S.own x (List.mem_of_mem_drop hx)⟩
end
end Go.Dn

/-
  Laws of what acts on memory: append, conversions, make.
-/
namespace Go.Dn
open Go.RowKit (Below)

theorem addr_add_add (p : Addr) (x y : Nat) : (p.add x).add y = p.add (x + y) := by
  unfold Addr.add
  by_cases hx : x = 0
  · subst hx; simp
  · by_cases hy : y = 0
    · subst hy; simp
    · simp [hx, hy, Nat.add_assoc]
theorem addr_add_zero (p : Addr) : p.add 0 = p := by simp [Addr.add]
theorem addr_add_blk (b i j : Nat) : (⟨b, i, none⟩ : Addr).add j = ⟨b, i + j, none⟩ := by
  unfold Addr.add
  by_cases hj : j = 0
  · subst hj; simp
  · simp [hj]
theorem addr_add_block (p : Addr) (x : Nat) : (p.add x).block = p.block := by
  unfold Addr.add
  split <;> rfl

/-- the cells from an address on hold these values -/
def Rd (w : World) (a : Option Addr) (vs : List Value) : Prop := ∀ j v, vs[j]? = some v → ∃ p, a = some p ∧ w.cell? (p.add j) = some v
theorem Rd.nil (w : World) (a : Option Addr) : Rd w a [] := by intro j v h; simp at h
theorem Rd.keeps {F : Nat → Prop} {w w' : World} {a : Option Addr} {vs : List Value} (h : Rd w a vs) (hk : Keeps F w w') (hn : ∀ p, a = some p → ¬ F p.block) : Rd w' a vs := by
  intro j v hv
  obtain ⟨p, hp, hc⟩ := h j v hv
  exact ⟨p, hp, hk.cell hc (by rw [addr_add_block]; exact hn p hp)⟩
theorem Rd.grown {w w' : World} {a : Option Addr} {vs : List Value} (h : Rd w a vs) (hk : Below w.heap.size w w') : Rd w' a vs :=
  h.keeps (F := fun _ => False) (Keeps.of_below hk) (by simp)
theorem Rd.take {w : World} {a : Option Addr} {vs : List Value} (h : Rd w a vs) (n : Nat) : Rd w a (vs.take n) := by
  intro j v hv
  rw [List.getElem?_take] at hv
  split at hv
  · exact h j v hv
  · cases hv
theorem Rd.drop {w : World} {p : Addr} {vs : List Value} (h : Rd w (some p) vs) (n : Nat) : Rd w (some (p.add n)) (vs.drop n) := by
  intro j v hv
  rw [List.getElem?_drop] at hv
  obtain ⟨q, hq, hc⟩ := h _ v hv
  cases hq
  exact ⟨_, rfl, by rw [addr_add_add]; exact hc⟩
theorem Rd.sla {w : World} {a : Option Addr} {vs : List Value} (h : Rd w a vs) (l hh m sz : Nat) (h2 : hh ≤ m) : Rd w (SLA a l m sz) ((vs.drop (l * sz)).take ((hh - l) * sz)) := by
  unfold SLA
  split
  · have : hh - l = 0 := by omega
    rw [this]
    simp [Rd]
  · cases a with
    | none =>
      intro j v hv
      rw [List.getElem?_take] at hv
      split at hv
      · rw [List.getElem?_drop] at hv
        obtain ⟨p, hp, _⟩ := h _ v hv
        cases hp
      · cases hv
    | some p => exact (h.drop (l * sz)).take _
theorem Rd.one {w : World} {a : Option Addr} {vs : List Value} (h : Rd w a vs) {j : Nat} {v : Value} (hv : vs[j]? = some v) : ∃ p, a = some p ∧ w.cell? (p.add j) = some v := h j v hv
theorem Rd.of_block {w : World} {b : Nat} {cs : Array Value} {t : TypeId} {f : Nat × Nat} (h : w.heap[b]? = some (.cells cs t f)) (i : Nat) : Rd w (some ⟨b, i, none⟩) (cs.toList.drop i) := by
  intro j v hv
  refine ⟨_, rfl, ?_⟩
  rw [addr_add_blk]
  rw [List.getElem?_drop] at hv
  simp [World.cell?, h]
  simpa using hv
theorem Rd.of_block0 {w : World} {b : Nat} {cs : Array Value} {t : TypeId} {f : Nat × Nat} (h : w.heap[b]? = some (.cells cs t f)) : Rd w (some ⟨b, 0, none⟩) cs.toList := by
  have := Rd.of_block h 0
  simpa using this

/-- a slice of the program's own making: it starts at a block's first cell, and nothing of the block is frozen -/
def rowB (a : Option Addr) : Option Nat := a.map (·.block)
def Row (w : World) (e : TypeId) (sz : Nat) (a : Option Addr) (n c : Nat) (xs : List Value) : Prop :=
  xs.length = n * sz ∧ ((a = none ∧ n = 0 ∧ c = 0) ∨
    ∃ g cur, a = some ⟨g, 0, none⟩ ∧ w.heap[g]? = some (.cells cur e (0, 0)) ∧ n ≤ c ∧ c ≤ 9223372036854775807 ∧ cur.size = c * sz ∧ cur.toList.take (n * sz) = xs)
theorem Row.nil (w : World) (e : TypeId) (sz : Nat) : Row w e sz none 0 0 [] := ⟨by simp, .inl ⟨rfl, rfl, rfl⟩⟩
theorem Row.rd {w : World} {e : TypeId} {sz : Nat} {a : Option Addr} {n c : Nat} {xs : List Value} (h : Row w e sz a n c xs) : Rd w a xs := by
  rcases h with ⟨hl, ⟨rfl, rfl, rfl⟩ | ⟨g, cur, rfl, hg, _, _, _, rfl⟩⟩
  · have : xs = [] := List.eq_nil_of_length_eq_zero (by simpa using hl)
    subst this
    exact Rd.nil _ _
  · exact (Rd.of_block0 hg).take _
theorem Row.len {w : World} {e : TypeId} {sz : Nat} {a : Option Addr} {n c : Nat} {xs : List Value} (h : Row w e sz a n c xs) : xs.length = n * sz := h.1
theorem Row.le {w : World} {e : TypeId} {sz : Nat} {a : Option Addr} {n c : Nat} {xs : List Value} (h : Row w e sz a n c xs) : n ≤ c := by
  rcases h with ⟨_, ⟨_, rfl, rfl⟩ | ⟨_, _, _, _, h, _⟩⟩
  · exact Nat.le_refl _
  · exact h
theorem Row.lt {w : World} {e : TypeId} {sz : Nat} {a : Option Addr} {n c : Nat} {xs : List Value} (h : Row w e sz a n c xs) {k : Nat} (hk : rowB a = some k) : k < w.heap.size := by
  rcases h with ⟨_, ⟨rfl, _⟩ | ⟨g, cur, rfl, hg, _⟩⟩
  · cases hk
  · cases hk; exact (Array.getElem?_eq_some_iff.1 hg).1
theorem Row.keeps {F : Nat → Prop} {w w' : World} {e : TypeId} {sz : Nat} {a : Option Addr} {n c : Nat} {xs : List Value} (h : Row w e sz a n c xs) (hk : Keeps F w w') (hn : ∀ k, rowB a = some k → ¬ F k) : Row w' e sz a n c xs := by
  refine ⟨h.1, ?_⟩
  rcases h.2 with h | ⟨g, cur, rfl, hg, r⟩
  · exact .inl h
  · exact .inr ⟨g, cur, rfl, hk.at hg (hn g rfl), r⟩
theorem Row.grown {w w' : World} {e : TypeId} {sz : Nat} {a : Option Addr} {n c : Nat} {xs : List Value} (h : Row w e sz a n c xs) (hk : Below w.heap.size w w') : Row w' e sz a n c xs :=
  h.keeps (F := fun _ => False) (Keeps.of_below hk) (by simp)

/-- a slice type: its elements' type, their cells and bytes, their zero value -/
def slT (P : Program) (t : TypeId) : Option (TypeId × Nat × Nat × Value) :=
  match P.underlying t with
  | some (.slice e) =>
    (match P.info? e with
    | some i => (match i.zero with
      | some z => some (e, i.size, i.bytes, z)
      | none => none)
    | none => none)
  | _ => none
theorem slT_out {P : Program} {t e : TypeId} {sz by_ : Nat} {z : Value} (h : slT P t = some (e, sz, by_, z)) : P.underlying t = some (.slice e) ∧ ∃ i, P.info? e = some i ∧ i.zero = some z ∧ i.size = sz ∧ i.bytes = by_ := by
  unfold slT at h
  split at h
  · rename_i e' hu
    split at h
    · rename_i i hi
      split at h
      · rename_i z' hz
        simp only [Option.some.injEq, Prod.mk.injEq] at h
        obtain ⟨rfl, rfl, rfl, rfl⟩ := h
        exact ⟨hu, i, hi, hz, rfl, rfl⟩
      · cases h
    · cases h
  · cases h

theorem keeps_setRow (w : World) (g : Nat) (cs : Array Value) : Keeps (· = g) w (w.setRow g cs) :=
  ⟨rfl, rfl, rfl, by simp [World.setRow], fun k _ hn => by simp only [World.setRow, Array.getElem?_modify]; rw [if_neg (fun h => hn h.symm)]⟩
theorem heap_setRow {w : World} {g : Nat} {cur cs : Array Value} {t : TypeId} {f : Nat × Nat} (h : w.heap[g]? = some (.cells cur t f)) : (w.setRow g cs).heap[g]? = some (.cells cs t f) := by
  simp [World.setRow, Array.getElem?_modify, h]

theorem append_row {P : Program} {t ty e : TypeId} {sz bytes : Nat} {z : Value} (hT : slT P t = some (e, sz, bytes, z)) (hz : z.cells.size = sz) (hsz : 0 < sz) (hb0 : 0 < bytes)
    {w : World} {a : Option Addr} {n c : Nat} {xs : List Value} (hr : Row w e sz a n c xs) {b : Option Addr} {m mc : Nat} {news : List Value} (hs : Rd w b news) (hl : news.length = m * sz)
    (h1 : ∀ u ∈ news, u.oneCell' = true) (hby : (n + m) * bytes ≤ 140737488355328) :
    ∃ a' c' w', (Builtin.append_ #[t, t] ty #[.slice a n c, .slice b m mc]).run P w = .ok (.slice a' (n + m) c') w' ∧ Row w' e sz a' (n + m) c' (xs ++ news) ∧
      Keeps (fun k => rowB a = some k) w w' ∧ (∀ k, rowB a' = some k → rowB a = some k ∨ w.heap.size ≤ k) := by
  obtain ⟨hu, i, hi, hiz, rfl, rfl⟩ := slT_out hT
  have hnm : n + m ≤ 140737488355328 := Nat.le_trans (Nat.le_mul_of_pos_right _ hb0) hby
  have hlen : (xs ++ news).length = (n + m) * i.size := by rw [List.length_append, hr.1, hl, Nat.add_mul]
  -- a grown row
  have grown : ∀ (old : Nat), old < n + m → Row (w.drew.alloc (.cells (xs.toArray ++ news.toArray ++ Builtin.zeroCells z.cells (grownCap w (n + m) old e - (n + m))) e)) e i.size
      (some ⟨w.heap.size, 0, none⟩) (n + m) (grownCap w (n + m) old e) (xs ++ news) := by
    intro old ho
    have hge := grownCap_ge w (n + m) old e
    have hcm : grownCap w (n + m) old e ≤ maxLen := grownCap_le_maxLen w (n + m) old e (by unfold maxLen; omega)
    refine ⟨hlen, .inr ⟨w.heap.size, _, rfl, heap_alloc_new w.drew _, hge, by unfold maxLen at hcm; omega, ?_, ?_⟩⟩
    · simp only [Array.size_append, List.size_toArray, size_zeroCells, hz, hr.1, hl, ← Nat.add_mul]
      congr 1
      omega
    · simp only [Array.toList_append, List.append_assoc]
      rw [← List.append_assoc, ← hlen]
      exact List.take_left
  have gkeeps : ∀ (cs : Array Value) (row : Nat → Prop), Keeps row w (w.drew.alloc (.cells cs e)) := fun cs row => (Keeps.refl row w).drew.alloc _
  have src : 0 < m → ∃ p, b = some p ∧ ∀ j u, news[j]? = some u → w.cell? (p.add j) = some u := by
    intro hm
    have h0 : 0 < news.length := by rw [hl]; exact Nat.mul_pos hm hsz
    obtain ⟨p, hp, _⟩ := hs 0 news[0] (List.getElem?_eq_getElem h0)
    refine ⟨p, hp, fun j u hu => ?_⟩
    obtain ⟨q, hq, hc⟩ := hs j u hu
    rw [hp] at hq
    cases hq
    exact hc
  have none0 : m = 0 → news = [] := fun hm => List.eq_nil_of_length_eq_zero (by rw [hl, hm]; simp)
  rcases hr.2 with ⟨rfl, rfl, rfl⟩ | ⟨g, cur, rfl, hg, hnc, hcm, hcs, htake⟩
  · have hx : xs = [] := List.eq_nil_of_length_eq_zero (by simpa using hr.1)
    subst hx
    by_cases hm : m = 0
    · have hn := none0 hm
      subst hm hn
      refine ⟨none, 0, w, ?_, by simpa using Row.nil w e i.size, .refl _ _, by simp [rowB]⟩
      cases b <;> simp [Builtin.append_, run_underlying hu, sizeOf, typeInfo, hi, Builtin.lenOf, Builtin.firstCells, loadCells, loadCellsFrom]
    · obtain ⟨p, rfl, hp⟩ := src (by omega)
      have hrun := run_append_nil (P := P) w t ty e i z hu hi hiz p m mc news hl hp (by omega) (by omega) (by simp only [Nat.zero_add] at hby; omega)
      have hrow := grown 0 (by omega)
      simp only [Nat.zero_add] at hrow hrun ⊢
      refine ⟨_, _, _, hrun, ?_, gkeeps _ _, fun k hk => .inr ?_⟩
      · simpa using hrow
      · simp [rowB] at hk; omega
  · by_cases hroom : n + m ≤ c
    · by_cases hm : m = 0
      · have hn := none0 hm
        subst hm hn
        refine ⟨some ⟨g, 0, none⟩, c, w, ?_, by simpa using hr, .refl _ _, fun k hk => .inl hk⟩
        cases b <;> simp [Builtin.append_, run_underlying hu, sizeOf, typeInfo, hi, Builtin.lenOf, Builtin.firstCells, loadCells, loadCellsFrom, hnc, storeCells]
      · obtain ⟨p, rfl, hp⟩ := src (by omega)
        have hfit : n * i.size + news.length ≤ cur.size := by rw [hl, hcs, ← Nat.add_mul]; exact Nat.mul_le_mul_right _ hroom
        have hrun := run_append_room (P := P) w t ty e i hu hi g n c cur hg p m mc news hl hp h1 hroom hfit
        have hxl : (List.take (n * i.size) cur.toList) = xs := htake
        refine ⟨_, _, _, hrun, ⟨hlen, .inr ⟨g, _, rfl, heap_setRow hg, hroom, hcm, ?_, ?_⟩⟩, (keeps_setRow w g _).mono (fun k _ h => by subst h; rfl), fun k hk => .inl hk⟩
        · simp only [List.size_toArray, List.length_append, List.length_take, List.length_drop, Array.length_toList]
          omega
        · rw [hxl]
          rw [← hlen]
          exact List.take_left
    · obtain ⟨p, rfl, hp⟩ := src (by omega)
      have hold : ∀ j v, xs[j]? = some v → w.cell? ((⟨g, 0, none⟩ : Addr).add j) = some v := by
        intro j v hv
        obtain ⟨q, hq, hc⟩ := hr.rd j v hv
        cases hq
        exact hc
      have hrun := run_append_grow (P := P) w t ty e i z hu hi hiz ⟨g, 0, none⟩ n c xs hr.1 hold p m mc news hl hp (by omega) (by omega) (growslice_fits (by omega) hby)
      refine ⟨_, _, _, hrun, grown c (by omega), gkeeps _ _, fun k hk => .inr ?_⟩
      simp [rowB] at hk
      omega
end Go.Dn

/-
  Strings as lists of bytes; conversions between strings and bytes.
-/
namespace Go.Dn
open Go.RowKit (Below)

def bl (s : ByteArray) : List UInt8 := s.data.toList
def sof (l : List UInt8) : ByteArray := ⟨l.toArray⟩
def byteV (c : UInt8) : Value := .int .u8 (c.toNat : Int)
theorem bl_sof (l : List UInt8) : bl (sof l) = l := by simp [bl, sof]
theorem sof_bl (s : ByteArray) : sof (bl s) = s := by cases s; simp [bl, sof]
theorem bl_length (s : ByteArray) : (bl s).length = s.size := Array.length_toList
theorem size_sof (l : List UInt8) : (sof l).size = l.length := by simp [sof, ByteArray.size]
theorem bl_inj {s t : ByteArray} (h : bl s = bl t) : s = t := by rw [← sof_bl s, ← sof_bl t, h]
theorem bl_append (s t : ByteArray) : bl (s ++ t) = bl s ++ bl t := by simp [bl]
theorem sof_append (s t : List UInt8) : sof s ++ sof t = sof (s ++ t) := bl_inj (by rw [bl_append, bl_sof, bl_sof, bl_sof])
theorem extract_eq (s : ByteArray) (a b : Nat) : s.extract a b = sof (((bl s).drop a).take (b - a)) := by
  have h := ByteArray.extract_mk (bl s) a b
  have e : (ByteArray.mk (bl s).toArray) = s := sof_bl s
  rw [e] at h
  exact h
theorem bl_extract (s : ByteArray) (a b : Nat) : bl (s.extract a b) = ((bl s).drop a).take (b - a) := by rw [extract_eq, bl_sof]
theorem bytesEq_iff (a b : ByteArray) : bytesEq a b = decide (a = b) := by
  unfold bytesEq
  rw [ByteArray.toList_eq, ByteArray.toList_eq]
  have : (a = b) ↔ a.data.toList = b.data.toList := ⟨fun h => by rw [h], fun h => bl_inj h⟩
  rw [Bool.eq_iff_iff]
  simp [this]
theorem beq_str (a b : ByteArray) : (a == b) = decide (a = b) := by
  rw [beq_toListBytes]
  exact bytesEq_iff a b
theorem sget_eq (s : ByteArray) (i : Nat) : sget s i = (bl s).getD i 0 := rfl
theorem byteV_one (c : UInt8) : (byteV c).oneCell' = true := rfl

/-- types of texts and of their bytes -/
def bytesT (P : Program) (st bt : TypeId) : Bool :=
  match P.underlying st, P.underlying bt with
  | some .string, some (.slice e) => (match P.underlying e with
    | some (.int .u8) => true
    | _ => false)
  | _, _ => false
theorem bytesT_out {P : Program} {st bt : TypeId} (h : bytesT P st bt = true) : P.underlying st = some .string ∧ ∃ e, P.underlying bt = some (.slice e) ∧ P.underlying e = some (.int .u8) := by
  unfold bytesT at h
  split at h
  · rename_i e hs hb
    split at h
    · rename_i he; exact ⟨hs, e, hb, he⟩
    · cases h
  · cases h

theorem freeze_keeps (F : Nat → Prop) (w : World) (p : Addr) (n : Nat) (hp : F p.block) : Keeps F w (w.freeze p n) := by
  unfold World.freeze
  split
  · exact .refl _ _
  · refine ⟨rfl, rfl, rfl, by simp, fun k _ hn => ?_⟩
    simp only [Array.getElem?_modify]
    rw [if_neg (fun h => hn (by rw [← h]; exact hp))]

/-- a text's bytes, in new memory -/
theorem bytes_of_string {P : Program} {st bt : TypeId} (hT : bytesT P st bt = true) (s : ByteArray) (w : World) {f : Value → World → Prop}
    (hf : ∀ (b c : Nat) (cs : Array Value) (e : TypeId) (w' : World), b = w.heap.size → Below w.heap.size w w' → w'.heap[b]? = some (.cells cs e (cs.size, cs.size + 1)) → cs.size = c → s.size ≤ c →
      cs.toList.take s.size = (bl s).map byteV → f (.slice (some ⟨b, 0, none⟩) s.size c) w') : OPR P (convert st bt (.string s)) f w := by
  obtain ⟨hs, e, hb, he⟩ := bytesT_out hT
  let cap := grownCap w s.size 0 e
  let cs : Array Value := (s.data.map fun b => Value.int .u8 b.toNat) ++ Array.replicate (cap - s.size) (.int .u8 0)
  have hge : s.size ≤ cap := grownCap_ge w s.size 0 e
  have hsz : cs.size = cap := by
    have : s.data.size = s.size := rfl
    simp [cs, this]
    omega
  let w1 : World := w.drew.alloc (.cells cs e)
  have hw1 : w1.heap[w.heap.size]? = some (.cells cs e (0, 0)) := heap_alloc_new w.drew _
  have hshape : w1.shape? w.heap.size = some (e, cs.size) := by simp [World.shape?, hw1]
  have hrun : (convert st bt (.string s)).run P w = .ok (.slice (some ⟨w.heap.size, 0, none⟩) s.size cap) (w1.freeze ⟨w.heap.size, cs.size, none⟩ 1) := by
    have hq : (Question.appendCap s.size 0 e).forced = false := rfl
    have hnew : (newRow e cs).run P w.drew = .ok ⟨w.heap.size, 0, none⟩ w1 := rfl
    have hch : (choose (.appendCap s.size 0 e)).run P w = .ok cap w.drew := by
      rw [run_choose]
      simp [hq, cap, grownCap]
    have hmark : (markStringish ⟨w.heap.size, 0, none⟩).run P w1 = .ok () (w1.freeze ⟨w.heap.size, cs.size, none⟩ 1) := by
      simp [markStringish, hshape]
    simp only [convert, Sem.run_bind, run_underlying hs, run_underlying hb, run_underlying he, Result.andThen_ok, Conv.stringToBytes, hch, Sem.run_pure]
    simp only [cs] at hnew
    rw [hnew]
    simp only [Result.andThen_ok, hmark]
  unfold OPR
  rw [hrun]
  have hheap : (w1.freeze ⟨w.heap.size, cs.size, none⟩ 1).heap[w.heap.size]? = some (.cells cs e (cs.size, cs.size + 1)) := by
    unfold World.freeze
    simp [Array.getElem?_modify, hw1]
  refine hf _ _ cs e _ rfl ?_ hheap hsz hge ?_
  · have h1 : Keeps (fun k => k = w.heap.size) w w1 := (Keeps.refl _ w).drew.alloc _
    have h2 := freeze_keeps (fun k => k = w.heap.size) w1 ⟨w.heap.size, cs.size, none⟩ 1 rfl
    exact (h1.trans h2 (fun _ _ h => h)).below (Nat.le_refl _) (fun k hk he => by omega)
  · have hl : s.size = ((s.data.map fun b => Value.int .u8 b.toNat)).toList.length := by rw [Array.length_toList, Array.size_map]; rfl
    simp only [cs, Array.toList_append]
    rw [hl, List.take_left]
    simp [bl, byteV]

theorem push_bytes (l : List UInt8) : (l.map fun c => ((c.toNat : Nat) : Int)).foldl (fun r n => r.push (UInt8.ofNat n.toNat)) ByteArray.empty = sof l := by
  rw [foldl_push_bytes]
  apply bl_inj
  rw [bl_sof]
  show (ByteArray.empty.data ++ _).toList = l
  have h0 : ByteArray.empty.data.toList = [] := rfl
  rw [Array.toList_append, h0, List.nil_append, List.map_map, List.toList_toArray]
  have : ((fun n : Int => UInt8.ofNat n.toNat) ∘ fun c : UInt8 => ((c.toNat : Nat) : Int)) = id := by
    funext c
    simp
  rw [this, List.map_id]

/-- the text of bytes -/
theorem string_of_bytes {P : Program} {st bt : TypeId} (hT : bytesT P st bt = true) {w : World} {a : Option Addr} {l : List UInt8} {n c : Nat} (hn : n = l.length) (hr : Rd w a (l.map byteV)) {f : Value → World → Prop}
    (hf : f (.string (sof l)) w) : OPR P (convert bt st (.slice a n c)) f w := by
  obtain ⟨hs, e, hb, he⟩ := bytesT_out hT
  unfold OPR
  rw [run_convert_bytes_string w bt st e a n c hb he hs]
  cases a with
  | none =>
    have hl : l = [] := by
      cases l with
      | nil => rfl
      | cons x r =>
        obtain ⟨p, hp, _⟩ := hr 0 (byteV x) (by simp)
        cases hp
    subst hl
    have : sof [] = ByteArray.empty := rfl
    rw [this] at hf
    simpa [Conv.bytesToString] using hf
  | some p =>
    have hld : (loadCells p n).run P w = .ok ((l.map fun c => ((c.toNat : Nat) : Int)).map (Value.int .u8)).toArray w := by
      have := run_loadCells_list (P := P) w p (l.map byteV) (fun j v hv => by
        obtain ⟨q, hq, hc⟩ := hr j v hv
        cases hq
        exact hc)
      rw [List.length_map, ← hn] at this
      rw [this]
      congr 1
      simp [byteV, Function.comp_def]
    rw [run_bytesToString w p n c _ hld, push_bytes]
    exact hf
end Go.Dn

/-
  More laws: append within the capacity, clear behind a row's end, a store into a row.
-/
namespace Go.Dn
open Go.RowKit (Below)

theorem append_fits {P : Program} {t ty e : TypeId} {sz bytes : Nat} {z : Value} (hT : slT P t = some (e, sz, bytes, z)) (hsz : 0 < sz)
    {w : World} {a : Option Addr} {n c : Nat} {xs : List Value} (hr : Row w e sz a n c xs) {b : Option Addr} {m mc : Nat} {news : List Value} (hs : Rd w b news) (hl : news.length = m * sz)
    (h1 : ∀ u ∈ news, u.oneCell' = true) (hroom : n + m ≤ c) :
    ∃ w', (Builtin.append_ #[t, t] ty #[.slice a n c, .slice b m mc]).run P w = .ok (.slice a (n + m) c) w' ∧ Row w' e sz a (n + m) c (xs ++ news) ∧ Keeps (fun k => rowB a = some k) w w' := by
  obtain ⟨hu, i, hi, hiz, rfl, rfl⟩ := slT_out hT
  have hlen : (xs ++ news).length = (n + m) * i.size := by rw [List.length_append, hr.1, hl, Nat.add_mul]
  have none0 : m = 0 → news = [] := fun hm => List.eq_nil_of_length_eq_zero (by rw [hl, hm]; simp)
  rcases hr.2 with ⟨rfl, rfl, rfl⟩ | ⟨g, cur, rfl, hg, hnc, hcm, hcs, htake⟩
  · have hm : m = 0 := by omega
    have hn := none0 hm
    subst hm hn
    refine ⟨w, ?_, by simpa using hr, .refl _ _⟩
    cases b <;> simp [Builtin.append_, run_underlying hu, sizeOf, typeInfo, hi, Builtin.lenOf, Builtin.firstCells, loadCells, loadCellsFrom]
  · by_cases hm : m = 0
    · have hn := none0 hm
      subst hm hn
      refine ⟨w, ?_, by simpa using hr, .refl _ _⟩
      cases b <;> simp [Builtin.append_, run_underlying hu, sizeOf, typeInfo, hi, Builtin.lenOf, Builtin.firstCells, loadCells, loadCellsFrom, hnc, storeCells]
    · have h0 : 0 < news.length := by rw [hl]; exact Nat.mul_pos (by omega) hsz
      obtain ⟨p, rfl, _⟩ := hs 0 news[0] (List.getElem?_eq_getElem h0)
      have hp : ∀ j u, news[j]? = some u → w.cell? (p.add j) = some u := by
        intro j u hu
        obtain ⟨q, hq, hc⟩ := hs j u hu
        cases hq
        exact hc
      have hfit : n * i.size + news.length ≤ cur.size := by rw [hl, hcs, ← Nat.add_mul]; exact Nat.mul_le_mul_right _ hroom
      have hrun := run_append_room (P := P) w t ty e i hu hi g n c cur hg p m mc news hl hp h1 hroom hfit
      have hxl : (List.take (n * i.size) cur.toList) = xs := htake
      refine ⟨_, hrun, ⟨hlen, .inr ⟨g, _, rfl, heap_setRow hg, hroom, hcm, ?_, ?_⟩⟩, (keeps_setRow w g _).mono (fun k _ h => by subst h; rfl)⟩
      · simp only [List.size_toArray, List.length_append, List.length_take, List.length_drop, Array.length_toList]
        omega
      · rw [hxl]
        rw [← hlen]
        exact List.take_left

/-- a row's front -/
theorem Row.front {w : World} {e : TypeId} {sz : Nat} {a : Option Addr} {n c : Nat} {xs : List Value} (h : Row w e sz a n c xs) {i : Nat} (hi : i ≤ n) : Row w e sz a i c (xs.take (i * sz)) := by
  have hle : i * sz ≤ n * sz := Nat.mul_le_mul_right _ hi
  refine ⟨by rw [List.length_take, h.1]; omega, ?_⟩
  rcases h.2 with ⟨rfl, rfl, rfl⟩ | ⟨g, cur, rfl, hg, hnc, hcm, hcs, rfl⟩
  · exact .inl ⟨rfl, by omega, rfl⟩
  · refine .inr ⟨g, cur, rfl, hg, by omega, hcm, hcs, ?_⟩
    rw [List.take_take, Nat.min_eq_left hle]

/-- cells of one row's block are set: those in front of them stay -/
theorem storeCells_behind {P : Program} {w : World} {e : TypeId} {g : Nat} {cur : Array Value} (hg : w.heap[g]? = some (.cells cur e (0, 0))) (o : Nat) (vs : List Value) (h1 : ∀ v ∈ vs, v.oneCell' = true) (hfit : o + vs.length ≤ cur.size) :
    ∃ w' cur', (storeCells ⟨g, o, none⟩ vs 0).run P w = .ok () w' ∧ w'.heap[g]? = some (.cells cur' e (0, 0)) ∧ cur'.size = cur.size ∧ cur'.toList.take o = cur.toList.take o ∧ Keeps (· = g) w w' := by
  have hst := run_storeCells_at P g o e vs 0 cur w hg (by simpa using hfit) h1
  simp only [Nat.add_zero] at hst
  refine ⟨_, _, hst, heap_setRow hg, ?_, ?_, keeps_setRow w g _⟩
  · simp only [List.size_toArray, List.length_append, List.length_take, List.length_drop, Array.length_toList]
    omega
  · simp only [List.append_assoc]
    rw [List.take_append_of_le_length (by simp; omega), List.take_take, Nat.min_self]

theorem clear_behind {P : Program} {t e : TypeId} {sz bytes : Nat} {z : Value} (hT : slT P t = some (e, sz, bytes, z)) (hz : z.cells.size = sz) (hz1 : ∀ v ∈ z.cells.toList, v.oneCell' = true)
    {w : World} {a : Option Addr} {n c : Nat} {xs : List Value} (hr : Row w e sz a n c xs) {h : Nat} (hnh : n ≤ h) (hhc : h ≤ c) :
    ∃ w', (Builtin.clear_ #[t] 0 #[.slice (SLA a n c sz) (h - n) (c - n)]).run P w = .ok (.tuple #[]) w' ∧ Row w' e sz a n c xs ∧ Keeps (fun k => rowB a = some k) w w' := by
  obtain ⟨hu, i, hi, hiz, rfl, rfl⟩ := slT_out hT
  by_cases h0 : h - n = 0
  · refine ⟨w, ?_, hr, .refl _ _⟩
    rw [h0]
    generalize SLA a n c i.size = q
    cases q <;> simp [Builtin.clear_, run_underlying hu]
  · rcases hr.2 with ⟨rfl, rfl, rfl⟩ | ⟨g, cur, rfl, hg, hnc, hcm, hcs, htake⟩
    · omega
    · have hne : ¬ c = n := by omega
      have hs : SLA (some ⟨g, 0, none⟩) n c i.size = some ⟨g, n * i.size, none⟩ := by
        unfold SLA
        rw [if_neg hne]
        simp only [Option.map_some, addr_add_blk, Nat.zero_add]
      have hzc : ∀ v ∈ (Builtin.zeroCells z.cells (h - n)).toList, v.oneCell' = true := by
        intro v hv
        simp only [Builtin.zeroCells, Array.toList_map, List.mem_map] at hv
        obtain ⟨j, hj, rfl⟩ := hv
        have hpos : 0 < z.cells.size := by
          simp at hj
          rcases Nat.eq_zero_or_pos z.cells.size with h' | h'
          · simp [h'] at hj
          · exact h'
        have hlt : j % z.cells.size < z.cells.size := Nat.mod_lt _ hpos
        apply hz1
        rw [getElem!_pos z.cells _ hlt]
        exact Array.mem_toList_iff.2 (Array.getElem_mem hlt)
      have hmul : n * i.size + (h - n) * i.size ≤ c * i.size := by
        rw [← Nat.add_mul]
        exact Nat.mul_le_mul_right _ (by omega)
      obtain ⟨w', cur', hst, hg', hsz', htk, hk⟩ := storeCells_behind (P := P) hg (n * i.size) (Builtin.zeroCells z.cells (h - n)).toList hzc (by
        rw [Array.length_toList, size_zeroCells, hz, hcs]; exact hmul)
      refine ⟨w', ?_, ⟨hr.1, .inr ⟨g, cur', rfl, hg', hnc, hcm, by rw [hsz', hcs], by rw [htk]; exact htake⟩⟩, hk.mono (fun k _ h => by subst h; rfl)⟩
      rw [hs]
      obtain ⟨m, hm⟩ : ∃ m, h - n = m + 1 := ⟨h - n - 1, by omega⟩
      rw [hm] at hst ⊢
      simp [Builtin.clear_, run_underlying hu, zeroValue, typeInfo, hi, hiz, hst]

/-- one cell of a row is set -/
theorem Row.set {w : World} {e : TypeId} {sz : Nat} {g : Nat} {n c : Nat} {xs : List Value} (h : Row w e sz (some ⟨g, 0, none⟩) n c xs) (j : Nat) (_hj : j < n * sz) (v : Value) :
    Row (w.setCell ⟨g, j, none⟩ v) e sz (some ⟨g, 0, none⟩) n c (xs.set j v) := by
  refine ⟨by rw [List.length_set]; exact h.1, ?_⟩
  rcases h.2 with ⟨h0, _⟩ | ⟨g', cur, hg', hg, hnc, hcm, hcs, rfl⟩
  · cases h0
  · cases hg'
    refine .inr ⟨g, _, rfl, heap_setCell_at hg v, hnc, hcm, by simpa using hcs, ?_⟩
    rw [Array.toList_setIfInBounds, List.take_set]
theorem Row.sto {w : World} {e : TypeId} {sz : Nat} {g : Nat} {n c : Nat} {xs : List Value} (h : Row w e sz (some ⟨g, 0, none⟩) n c xs) {j : Nat} (hj : j < n * sz) {v : Value} {k : World → Prop}
    (hk : ∀ w', Row w' e sz (some ⟨g, 0, none⟩) n c (xs.set j v) → Keeps (· = g) w w' → k w') : STO ⟨g, j, none⟩ v k w := by
  have hx : j < xs.length := by rw [h.1]; exact hj
  obtain ⟨p, hp, hc⟩ := h.rd j xs[j] (List.getElem?_eq_getElem hx)
  cases hp
  rw [addr_add_blk, Nat.zero_add] at hc
  refine ⟨by rw [hc]; rfl, ?_, hk _ (h.set j hj v) (keeps_setCell w g j v)⟩
  rcases h.2 with ⟨h0, _⟩ | ⟨g', cur, hg', hg, _⟩
  · cases h0
  · cases hg'
    simp [World.frozen?, hg]
end Go.Dn
namespace Go.Dn
open Go.RowKit (Below)
theorem SH.sto3 {F : Nat → Prop} {w0 w : World} {H : List Ent} (S : SH F w0 w H) (n : Nat) {b : Nat} {x0 x1 x2 v0 v1 v2 : Value} {t : TypeId} (hn : H[n]? = some (b, #[x0, x1, x2], t)) {k : World → Prop}
    (hk : ∀ w', SH F w0 w' (H.set n (b, #[v0, v1, v2], t)) → k w') : STO ⟨b, 0, none⟩ v0 (fun w => STO ⟨b, 1, none⟩ v1 (fun w => STO ⟨b, 2, none⟩ v2 k w) w) w := by
  have hlt := (List.getElem?_eq_some_iff.1 hn).1
  refine S.sto n hn (by simp) fun w1 S1 => S1.sto n (List.getElem?_set_self hlt) (by simp) fun w2 S2 => S2.sto n (cs := #[v0, v1, x2]) (t := t) ?_ (by simp) fun w3 S3 => hk w3 ?_
  · rw [List.set_set, List.getElem?_set_self hlt]
    rfl
  · have e : ((H.set n (b, #[x0, x1, x2].setIfInBounds 0 v0, t)).set n (b, (#[x0, x1, x2].setIfInBounds 0 v0).setIfInBounds 1 v1, t)).set n (b, #[v0, v1, x2].setIfInBounds 2 v2, t) = H.set n (b, #[v0, v1, v2], t) := by
      rw [List.set_set, List.set_set]
      rfl
    rw [← e]
    exact S3
theorem SH.below {w0 w : World} {H : List Ent} (S : SH (fun _ => False) w0 w H) : Below w0.heap.size w0 w := S.keeps.below (Nat.le_refl _) (by simp)
end Go.Dn
namespace Go.Dn
open Go.RowKit (Below)
section
variable {F : Nat → Prop} {w0 w : World} {H : List Ent}
theorem SH.newB (S : SH F w0 w H) {cs : Array Value} {t : TypeId} {k : Nat → World → Prop} (hk : ∀ b w', w.heap.size ≤ b → Below w.heap.size w w' → SH F w0 w' ((b, cs, t) :: H) → k b w') : NEWB cs t k w :=
  hk _ _ (Nat.le_refl _) ((Below.refl _ w).alloc (Nat.le_refl _) _) (S.alloc cs t)
theorem SH.drawB (S : SH F w0 w H) {k : World → Prop} (hk : ∀ w', Below w.heap.size w w' → SH F w0 w' H → k w') : DRAW k w := hk _ ((Below.refl _ w).drew) S.drew
theorem SH.stoK (S : SH F w0 w H) (n : Nat) {b : Nat} {cs : Array Value} {t : TypeId} (hn : H[n]? = some (b, cs, t)) {i : Nat} {v : Value} {k : World → Prop} (hi : i < cs.size)
    (hk : ∀ w', Keeps (· = b) w w' → SH F w0 w' (H.set n (b, cs.setIfInBounds i v, t)) → k w') : STO ⟨b, i, none⟩ v k w := by
  refine ⟨?_, S.free n hn i, hk _ (keeps_setCell w b i v) (S.setAt n hn (keeps_setCell w b i v) (heap_setCell_at (S.get n hn) v))⟩
  rw [S.cell n hn (Array.getElem?_eq_getElem hi)]
  rfl
theorem SH.sto3K (S : SH F w0 w H) (n : Nat) {b : Nat} {x0 x1 x2 v0 v1 v2 : Value} {t : TypeId} (hn : H[n]? = some (b, #[x0, x1, x2], t)) {k : World → Prop}
    (hk : ∀ w', Keeps (· = b) w w' → SH F w0 w' (H.set n (b, #[v0, v1, v2], t)) → k w') : STO ⟨b, 0, none⟩ v0 (fun w => STO ⟨b, 1, none⟩ v1 (fun w => STO ⟨b, 2, none⟩ v2 k w) w) w := by
  have hlt := (List.getElem?_eq_some_iff.1 hn).1
  refine S.stoK n hn (by simp) fun w1 K1 S1 => S1.stoK n (List.getElem?_set_self hlt) (by simp) fun w2 K2 S2 => S2.stoK n (cs := #[v0, v1, x2]) (t := t) ?_ (by simp) fun w3 K3 S3 => hk w3 ((K1.trans K2 (fun _ _ h => h)).trans K3 (fun _ _ h => h)) ?_
  · rw [List.set_set, List.getElem?_set_self hlt]
    rfl
  · have e : ((H.set n (b, #[x0, x1, x2].setIfInBounds 0 v0, t)).set n (b, (#[x0, x1, x2].setIfInBounds 0 v0).setIfInBounds 1 v1, t)).set n (b, #[v0, v1, x2].setIfInBounds 2 v2, t) = H.set n (b, #[v0, v1, v2], t) := by
      rw [List.set_set, List.set_set]
      rfl
    rw [← e]
    exact S3
theorem SH.ne (S : SH F w0 w H) (i j : Nat) {x y : Ent} (hi : H[i]? = some x) (hj : H[j]? = some y) (hne : i ≠ j) : x.1 ≠ y.1 :=
  nodup_ne S.nodup (by simp [hi]) (by simp [hj]) hne
end
end Go.Dn

/-
  More laws: make, a struct laid in one go, local blocks that are far from what changes.
-/
namespace Go.Dn
open Go.RowKit (Below)

theorem madeCells_size (z : Array Value) (n : Nat) : (madeCells z n).size = n := by simp [madeCells]
theorem madeCells_one (z : Value) (h : z.cells = #[z]) (n : Nat) : (madeCells z.cells n).toList = List.replicate n z := by
  rw [h]
  apply List.ext_getElem
  · simp [madeCells]
  · intro i h1 h2
    simp [madeCells, Nat.mod_one]

/-- make, its cells known -/
theorem make_new {P : Program} {t e : TypeId} {sz bytes : Nat} {z : Value} (hT : slT P t = some (e, sz, bytes, z)) {w : World} {l c : Int} (h0 : 0 ≤ l) (hlc : l ≤ c) (hb : (bytes : Int) * c ≤ 281474976710656) (hc : c ≤ 9223372036854775807)
    {f : Value → World → Prop} {kl kc : IntKind} (hf : ∀ b w', w.heap.size ≤ b → Below w.heap.size w w' → w'.heap[b]? = some (.cells (madeCells z.cells (c.toNat * sz)) e (0, 0)) → f (.slice (some ⟨b, 0, none⟩) l.toNat c.toNat) w') :
    OPR P (Instr.makeSlice t (.int kl l) (.int kc c)) f w := by
  obtain ⟨hu, i, hi, hiz, rfl, rfl⟩ := slT_out hT
  unfold OPR
  rw [run_make w t e i z hu hi hiz kl kc l c h0 hlc hb hc]
  exact hf _ _ (Nat.le_refl _) ((Below.refl _ w).alloc (Nat.le_refl _) _) (heap_alloc_new w _)
/-- make, a row without elements as yet -/
theorem make_row0 {P : Program} {t e : TypeId} {sz bytes : Nat} {z : Value} (hT : slT P t = some (e, sz, bytes, z)) {w : World} {c : Nat} (hb : bytes * c ≤ 281474976710656) (hc : c ≤ 9223372036854775807)
    {f : Value → World → Prop} {kl kc : IntKind} (hf : ∀ b w', w.heap.size ≤ b → Below w.heap.size w w' → Row w' e sz (some ⟨b, 0, none⟩) 0 c [] → f (.slice (some ⟨b, 0, none⟩) 0 c) w') :
    OPR P (Instr.makeSlice t (.int kl 0) (.int kc (c : Int))) f w := by
  refine make_new hT (l := 0) (c := (c : Int)) (by omega) (by omega) ?_ (by omega) fun b w' h1 h2 h3 => ?_
  · rw [← Int.natCast_mul]
    omega
  · rw [Int.toNat_natCast] at h3 ⊢
    exact hf b w' h1 h2 ⟨by simp, .inr ⟨b, _, rfl, h3, by omega, hc, by rw [madeCells_size], by simp⟩⟩
/-- a store into a block that is known -/
theorem sto_blk {w : World} {b : Nat} {cs : Array Value} {t : TypeId} (hb : w.heap[b]? = some (.cells cs t (0, 0))) {i : Nat} {v : Value} {k : World → Prop} (hi : i < cs.size)
    (hk : ∀ w', Keeps (· = b) w w' → w'.heap[b]? = some (.cells (cs.setIfInBounds i v) t (0, 0)) → k w') : STO ⟨b, i, none⟩ v k w := by
  refine ⟨?_, ?_, hk _ (keeps_setCell w b i v) (heap_setCell_at hb v)⟩
  · simp [World.cell?, hb, hi]
  · simp [World.frozen?, hb]
section
variable {F : Nat → Prop} {w0 w : World} {H : List Ent}
/-- a struct of three cells, laid and set -/
theorem SH.lit3 (S : SH F w0 w H) {z0 z1 z2 v0 v1 v2 : Value} {t : TypeId} {k : Nat → World → Prop} (hk : ∀ b w', w.heap.size ≤ b → Below w.heap.size w w' → SH F w0 w' ((b, #[v0, v1, v2], t) :: H) → k b w') :
    NEWB #[z0, z1, z2] t (fun b w => STO ⟨b, 0, none⟩ v0 (fun w => STO ⟨b, 1, none⟩ v1 (fun w => STO ⟨b, 2, none⟩ v2 (fun w => k b w) w) w) w) w := by
  refine S.newB fun b w1 hb B1 S1 => S1.sto3K 0 rfl fun w2 K2 S2 => hk b w2 hb (B1.trans (K2.below B1.size fun k hk he => by omega)) S2
/-- local blocks from m on; what changes lies below m -/
theorem SH.off (S : SH (fun _ => True) w0 w H) {G : Nat → Prop} {w' : World} (K : Keeps G w w') (m : Nat) (hH : ∀ x ∈ H, m ≤ x.1) (hG : ∀ k, G k → k < m) : SH (fun _ => True) w0 w' H :=
  S.kept K (fun x hx hg => by have := hH x hx; have := hG _ hg; omega) (fun _ _ _ => trivial)
end
end Go.Dn

/-
  Append of a text's bytes; append of so many zeros onto nil.
-/
namespace Go.Dn
open Go.RowKit (Below)

theorem first_string {P : Program} {w : World} (s : ByteArray) : (Builtin.firstCells 1 s.size (.string s)).run P w = .ok ((bl s).map byteV).toArray w := by
  simp only [Builtin.firstCells, Sem.run_pure]
  congr 1
  apply Array.ext'
  have : s.extract 0 s.size = s := by rw [extract_eq]; apply bl_inj; rw [bl_sof, List.drop_zero, Nat.sub_zero, List.take_of_length_le (by rw [bl_length]; omega)]
  rw [this]
  simp [bl, byteV]

theorem append_string {P : Program} {t u ty e : TypeId} {bytes : Nat} {z : Value} (hT : slT P t = some (e, 1, bytes, z)) (hu' : P.underlying u = some .string) (hz : z.cells.size = 1) (hb0 : 0 < bytes)
    {w : World} {a : Option Addr} {n c : Nat} {xs : List Value} (hr : Row w e 1 a n c xs) (s : ByteArray) (hby : (n + s.size) * bytes ≤ 140737488355328) :
    ∃ a' c' w', (Builtin.append_ #[t, u] ty #[.slice a n c, .string s]).run P w = .ok (.slice a' (n + s.size) c') w' ∧ Row w' e 1 a' (n + s.size) c' (xs ++ (bl s).map byteV) ∧
      Keeps (fun k => rowB a = some k) w w' ∧ (∀ k, rowB a' = some k → rowB a = some k ∨ w.heap.size ≤ k) := by
  obtain ⟨hu, i, hi, hiz, hi1, rfl⟩ := slT_out hT
  have hnm : n + s.size ≤ 140737488355328 := Nat.le_trans (Nat.le_mul_of_pos_right _ hb0) hby
  have hl : ((bl s).map byteV).length = s.size := by rw [List.length_map, bl_length]
  have hlen : (xs ++ (bl s).map byteV).length = (n + s.size) * 1 := by rw [List.length_append, hr.1, hl]; omega
  have h1 : ∀ u ∈ (bl s).map byteV, u.oneCell' = true := by
    intro u hu
    obtain ⟨c, _, rfl⟩ := List.mem_map.1 hu
    exact byteV_one c
  have grown : ∀ (old : Nat), old < n + s.size → Row (w.drew.alloc (.cells (xs.toArray ++ ((bl s).map byteV).toArray ++ Builtin.zeroCells z.cells (grownCap w (n + s.size) old e - (n + s.size))) e)) e 1
      (some ⟨w.heap.size, 0, none⟩) (n + s.size) (grownCap w (n + s.size) old e) (xs ++ (bl s).map byteV) := by
    intro old ho
    have hge := grownCap_ge w (n + s.size) old e
    have hcm : grownCap w (n + s.size) old e ≤ maxLen := grownCap_le_maxLen w (n + s.size) old e (by unfold maxLen; omega)
    refine ⟨hlen, .inr ⟨w.heap.size, _, rfl, heap_alloc_new w.drew _, hge, by unfold maxLen at hcm; omega, ?_, ?_⟩⟩
    · simp only [Array.size_append, List.size_toArray, size_zeroCells, hz, hr.1, hl]
      omega
    · simp only [Array.toList_append, List.append_assoc]
      rw [← List.append_assoc, ← hlen]
      exact List.take_left
  have gkeeps : ∀ (cs : Array Value) (row : Nat → Prop), Keeps row w (w.drew.alloc (.cells cs e)) := fun cs row => (Keeps.refl row w).drew.alloc _
  have grow : ∀ (old : Nat) (olds : Value), (∀ w', w'.heap = w.heap → (Builtin.firstCells 1 n olds).run P w' = .ok xs.toArray w') → old < n + s.size → (∃ b0, olds = .slice b0 n old) →
      (Builtin.append_ #[t, u] ty #[olds, .string s]).run P w = .ok (.slice (some ⟨w.heap.size, 0, none⟩) (n + s.size) (grownCap w (n + s.size) old e))
        (w.drew.alloc (.cells (xs.toArray ++ ((bl s).map byteV).toArray ++ Builtin.zeroCells z.cells (grownCap w (n + s.size) old e - (n + s.size))) e)) := by
    rintro old _ hf ho ⟨b0, rfl⟩
    have hn : ¬ (n + s.size ≤ old) := by omega
    have h63' : ¬ (9223372036854775807 < ((n : Int) + (s.size : Int))) := by omega
    have h48' : ¬ (281474976710656 < Builtin.nextslicecap (n + s.size) old * i.bytes) := by have := growslice_fits (old := old) (need := n + s.size) ho hby; omega
    have hf' := hf w.drew rfl
    simp [Builtin.append_, run_underlying hu, run_underlying hu', sizeOf, typeInfo, zeroValue, hi, hiz, hi1, Builtin.lenOf, hn, h63', h48', Question.forced, hf', first_string, newRow, grownCap]
    congr 2
    apply Array.ext'
    simp [List.append_assoc]
  rcases hr.2 with ⟨rfl, rfl, rfl⟩ | ⟨g, cur, rfl, hg, hnc, hcm, hcs, htake⟩
  · have hx : xs = [] := List.eq_nil_of_length_eq_zero (by simpa using hr.1)
    subst hx
    by_cases hm : s.size = 0
    · have hn : (bl s).map byteV = [] := List.eq_nil_of_length_eq_zero (by rw [hl, hm])
      refine ⟨none, 0, w, ?_, by rw [hm, hn]; exact Row.nil w e 1, .refl _ _, by simp [rowB]⟩
      have := first_string (P := P) (w := w) s
      rw [hm] at this
      simp [Builtin.append_, run_underlying hu, run_underlying hu', sizeOf, typeInfo, hi, hi1, Builtin.lenOf, hm, this]
    · exact ⟨_, _, _, grow 0 (.slice none 0 0) (fun w' _ => by simp [Builtin.firstCells]) (by omega) ⟨_, rfl⟩, grown 0 (by omega), gkeeps _ _, fun k hk => .inr (by simp [rowB] at hk; omega)⟩
  · by_cases hroom : n + s.size ≤ c
    · have hfit : n + ((bl s).map byteV).length ≤ cur.size := by rw [hl, hcs]; omega
      have hst := run_storeCells_at P g n e ((bl s).map byteV) 0 cur w hg (by simpa using hfit) h1
      simp only [Nat.add_zero] at hst
      refine ⟨some ⟨g, 0, none⟩, c, _, ?_, ⟨hlen, .inr ⟨g, _, rfl, heap_setRow hg, hroom, hcm, ?_, ?_⟩⟩, (keeps_setRow w g (cur.toList.take n ++ (bl s).map byteV ++ cur.toList.drop (n + ((bl s).map byteV).length)).toArray).mono (fun k _ h => by subst h; rfl), fun k hk => .inl hk⟩
      · simp [Builtin.append_, run_underlying hu, run_underlying hu', sizeOf, typeInfo, hi, hi1, Builtin.lenOf, hroom, first_string, Addr.add_lit]
        rw [hst]
        simp
      · simp only [List.size_toArray, List.length_append, List.length_take, List.length_drop, Array.length_toList]
        omega
      · have hxl : cur.toList.take n = xs := by rw [← htake]; simp
        rw [hxl, ← hlen]
        exact List.take_left
    · have hold : ∀ w', w'.heap = w.heap → (Builtin.firstCells 1 n (.slice (some ⟨g, 0, none⟩) n c)).run P w' = .ok xs.toArray w' := by
        intro w' hw'
        refine run_firstCells_some (P := P) w' 1 n ⟨g, 0, none⟩ n c xs hr.1 fun j v hv => ?_
        obtain ⟨q, hq, hc⟩ := hr.rd j v hv
        cases hq
        have : w'.cell? ((⟨g, 0, none⟩ : Addr).add j) = w.cell? ((⟨g, 0, none⟩ : Addr).add j) := by unfold World.cell?; rw [hw']
        rw [this]
        exact hc
      exact ⟨_, _, _, grow c _ hold (by omega) ⟨_, rfl⟩, grown c (by omega), gkeeps _ _, fun k hk => .inr (by simp [rowB] at hk; omega)⟩

/-- so many zeros onto nil, and cut back: room for so many -/
theorem append_zeros {P : Program} {t u ty e : TypeId} {sz bytes : Nat} {z : Value} (hT : slT P t = some (e, sz, bytes, z)) (hu' : P.underlying u = some (.int .i64)) (hz : z.cells.size = sz) (hsz : 0 < sz) (hb0 : 0 < bytes)
    {w : World} {m : Nat} (hm : 0 < m) (hby : m * bytes ≤ 140737488355328) :
    ∃ c' w', (Builtin.append_ #[t, u] ty #[.slice none 0 0, .int .i64 (m : Int)]).run P w = .ok (.slice (some ⟨w.heap.size, 0, none⟩) m c') w' ∧ Row w' e sz (some ⟨w.heap.size, 0, none⟩) 0 c' [] ∧ m ≤ c' ∧ Below w.heap.size w w' := by
  obtain ⟨hu, i, hi, hiz, rfl, rfl⟩ := slT_out hT
  have hnm : m ≤ 140737488355328 := Nat.le_trans (Nat.le_mul_of_pos_right _ hb0) hby
  have hge := grownCap_ge w m 0 e
  have hcm : grownCap w m 0 e ≤ maxLen := grownCap_le_maxLen w m 0 e (by unfold maxLen; omega)
  have hw : IntKind.i64.wrap (m : Int) = m := by rw [IntKind.wrap_i64]; omega
  have h1 : ¬ ((m : Int) < 0) := by omega
  have h2 : ¬ (281474976710656 < (m : Int) * (i.bytes : Int)) := by rw [← Int.natCast_mul]; omega
  have h3 : ¬ (m * i.size = 0) := by have := Nat.mul_pos hm hsz; omega
  have h4 : ¬ (m ≤ 0) := by omega
  have h5 : ¬ (9223372036854775807 < (m : Int)) := by omega
  have h6 : ¬ (281474976710656 < Builtin.nextslicecap m 0 * i.bytes) := by rw [nextslicecap_zero hm]; omega
  have h7 : ¬ (m = 0) := by omega
  have h8 : ¬ (i.size = 0) := by omega
  refine ⟨grownCap w m 0 e, w.drew.alloc (.cells (Builtin.zeroCells z.cells m ++ Builtin.zeroCells z.cells (grownCap w m 0 e - m)) e), ?_, ?_, hge, ((Below.refl _ w).drew).alloc (Nat.le_refl _) _⟩
  · simp [Builtin.append_, run_underlying hu, run_underlying hu', sizeOf, typeInfo, zeroValue, hi, hiz, asInt, asIntOf, hw, h1, h2, h5, h6, h7, Question.forced, Builtin.firstCells, newRow, grownCap]
    intro h
    exact absurd h h3
  · refine ⟨by simp, .inr ⟨w.heap.size, _, rfl, heap_alloc_new w.drew _, by omega, by unfold maxLen at hcm; omega, ?_, by simp⟩⟩
    rw [Array.size_append, size_zeroCells, size_zeroCells, hz, ← Nat.add_mul]
    congr 1
    omega
end Go.Dn

/-
  Numbers of Go's kinds: wraps, bits.
-/
namespace Go.Dn

theorem wrap_u8 (n : Int) : IntKind.u8.wrap n = n % 256 := by simp [IntKind.wrap, IntKind.signed, IntKind.bits]
theorem wrap_u32 (n : Int) : IntKind.u32.wrap n = n % 4294967296 := by simp [IntKind.wrap, IntKind.signed, IntKind.bits]
theorem wrap_u64 (n : Int) : IntKind.u64.wrap n = n % 18446744073709551616 := by simp [IntKind.wrap, IntKind.signed, IntKind.bits]
theorem wrap_i64_def (n : Int) : IntKind.i64.wrap n = if n % 18446744073709551616 ≥ 9223372036854775808 then n % 18446744073709551616 - 18446744073709551616 else n % 18446744073709551616 := by
  simp [IntKind.wrap, IntKind.signed, IntKind.bits]
theorem wrap_i64 {n : Int} (h1 : -9223372036854775808 ≤ n) (h2 : n ≤ 9223372036854775807) : IntKind.i64.wrap n = n := by
  rw [wrap_i64_def]; split <;> omega
theorem wrap_u8_id {n : Int} (h1 : 0 ≤ n) (h2 : n < 256) : IntKind.u8.wrap n = n := by rw [wrap_u8]; omega
theorem wrap_u32_id {n : Int} (h1 : 0 ≤ n) (h2 : n < 4294967296) : IntKind.u32.wrap n = n := by rw [wrap_u32]; omega
theorem wrap_u64_id {n : Int} (h1 : 0 ≤ n) (h2 : n < 18446744073709551616) : IntKind.u64.wrap n = n := by rw [wrap_u64]; omega
theorem wrap32_nat (x : BitVec 32) : IntKind.u32.wrap (x.toNat : Int) = (x.toNat : Int) := wrap_u32_id (by omega) (by have := x.isLt; omega)
theorem wrap64_nat (x : BitVec 64) : IntKind.u64.wrap (x.toNat : Int) = (x.toNat : Int) := wrap_u64_id (by omega) (by have := x.isLt; omega)
theorem wrap8_nat (x : UInt8) : IntKind.u8.wrap (x.toNat : Int) = (x.toNat : Int) := wrap_u8_id (by omega) (by have := x.toNat_lt; omega)
theorem ofInt_nat {n : Nat} (x : BitVec n) : BitVec.ofInt n (x.toNat : Int) = x := by
  rw [BitVec.ofInt_natCast, BitVec.ofNat_toNat, BitVec.setWidth_eq]
theorem ofInt_emod {n : Nat} (z : Int) : BitVec.ofInt n (z % (2 ^ n : Nat)) = BitVec.ofInt n z := by
  apply BitVec.eq_of_toInt_eq
  simp only [BitVec.toInt_ofInt]
  exact Int.emod_bmod _ _
theorem ofInt_wrap32 (z : Int) : BitVec.ofInt 32 (IntKind.u32.wrap z) = BitVec.ofInt 32 z := by
  rw [wrap_u32]; exact ofInt_emod (n := 32) z
theorem ofInt_wrap64 (z : Int) : BitVec.ofInt 64 (IntKind.u64.wrap z) = BitVec.ofInt 64 z := by
  rw [wrap_u64]; exact ofInt_emod (n := 64) z
theorem ofInt_sub0 {n : Nat} (z : Int) : BitVec.ofInt n (0 - z) = - BitVec.ofInt n z := by
  rw [Int.zero_sub]; exact BitVec.ofInt_neg
theorem fdiv_shift {n : Nat} (x : BitVec n) (k : Nat) : Int.fdiv (x.toNat : Int) (2 ^ k) = ((x >>> k).toNat : Int) := by
  rw [Int.fdiv_eq_ediv_of_nonneg _ (by exact Int.pow_nonneg (by decide))]
  rw [BitVec.toNat_ushiftRight, Nat.shiftRight_eq_div_pow]
  norm_cast
end Go.Dn
namespace Go.Dn
def Ret (Q : Value → World → Prop) : Ending → World → Prop := fun e w => ∃ v, e = .returned v ∧ Q v w
theorem IFB_dec {p : Prop} [Decidable p] {A B : Prop} (h1 : p → A) (h2 : ¬ p → B) : IFB (decide p) A B := by
  by_cases h : p
  · simp only [h, decide_true]; exact h1 h
  · simp only [h, decide_false]; exact h2 h
theorem IFB_of {b : Bool} {A B : Prop} (h1 : b = true → A) (h2 : b = false → B) : IFB b A B := by
  cases b
  · exact h2 rfl
  · exact h1 rfl
theorem IFB_eq {a b : Int} {A B : Prop} (h1 : a = b → A) (h2 : a ≠ b → B) : IFB (a == b) A B :=
  IFB_of (fun h => h1 (by simpa using h)) (fun h => h2 (by simpa using h))
theorem IFB_ne {a b : Int} {A B : Prop} (h1 : a ≠ b → A) (h2 : a = b → B) : IFB (a != b) A B :=
  IFB_of (fun h => h1 (by simpa using h)) (fun h => h2 (by simpa using h))
theorem IFB_not {b : Bool} {A B : Prop} (h : IFB b B A) : IFB (!b) A B := by cases b <;> exact h
theorem IFB_true {A B : Prop} (h : A) : IFB true A B := h
theorem IFB_false {A B : Prop} (h : B) : IFB false A B := h
theorem wrap_succ {k : Nat} (h : k < 9223372036854775807) : IntKind.i64.wrap ((k : Int) + 1) = ((k + 1 : Nat) : Int) := by
  rw [wrap_i64 (by omega) (by omega)]; omega
end Go.Dn

/-
  Numbers and texts as bytes: what the program's wire layer lays.
-/
namespace Go.Proofs.YtbkffpcgppecgaaGreat
open Go.Dn Go.Proofs
open Go.RowKit (Below)
set_option linter.unusedVariables false
set_option maxRecDepth 20000

theorem tbytes : bytesT Tryz.prog ty.string ty.L_uint8 = true := by kernel_rfl
theorem tB : slT Tryz.prog ty.L_uint8 = some (ty.uint8, 1, 1, .int .u8 0) := by kernel_rfl
theorem zB : (Value.int .u8 0).cells.size = 1 := rfl
theorem bytes_one (l : List UInt8) : ∀ u ∈ l.map byteV, u.oneCell' = true := by
  intro u hu
  obtain ⟨c, _, rfl⟩ := List.mem_map.1 hu
  exact byteV_one c

/-- a slice of bytes in new memory -/
structure NewB (w w' : World) (l : List UInt8) (a : Option Addr) (c : Nat) : Prop where
  row : Row w' ty.uint8 1 a l.length c (l.map byteV)
  new : ∀ k, rowB a = some k → w.heap.size ≤ k
  bel : Below w.heap.size w w'
theorem below_trans {a b c : World} (h : Below a.heap.size a b) (h' : Below b.heap.size b c) : Below a.heap.size a c := h.trans (h'.mono h.size)
theorem NewB.rd {w w' : World} {l : List UInt8} {a : Option Addr} {c : Nat} (h : NewB w w' l a c) : Rd w' a (l.map byteV) := h.row.rd
theorem NewB.grown {w w' w2 : World} {l : List UInt8} {a : Option Addr} {c : Nat} (h : NewB w w' l a c) (hb : Below w'.heap.size w' w2) : NewB w w2 l a c := ⟨h.row.grown hb, h.new, below_trans h.bel hb⟩
theorem NewB.before {w0 w w' : World} {l : List UInt8} {a : Option Addr} {c : Nat} (hb : Below w0.heap.size w0 w) (h : NewB w w' l a c) : NewB w0 w' l a c := ⟨h.row, fun k hk => Nat.le_trans hb.size (h.new k hk), below_trans hb h.bel⟩

/-- one byte onto a row -/
theorem append_byte {w : World} {a : Option Addr} {c : Nat} {l : List UInt8} (hr : Row w ty.uint8 1 a l.length c (l.map byteV)) (hl : l.length + 1 ≤ 140737488355328) {x : UInt8} {v : Value} (hv : v = byteV x) {b : Nat} {t : TypeId}
    (hb : w.heap[b]? = some (.cells #[v] t (0, 0))) {f : Value → World → Prop}
    (hf : ∀ a' c' w', Row w' ty.uint8 1 a' (l ++ [x]).length c' ((l ++ [x]).map byteV) → Keeps (fun k => rowB a = some k) w w' → (∀ k, rowB a' = some k → rowB a = some k ∨ w.heap.size ≤ k) → f (.slice a' (l ++ [x]).length c') w') :
    OPR Tryz.prog (Builtin.append_ #[ty.L_uint8, ty.L_uint8] ty.L_uint8 #[.slice a l.length c, .slice (some ⟨b, 0, none⟩) 1 1]) f w := by
  subst hv
  have hsrc : Rd w (some ⟨b, 0, none⟩) ([x].map byteV) := by
    have := Rd.of_block0 hb
    simpa using this
  obtain ⟨a', c', w', hrun, hrow, hk, hnew⟩ := append_row (ty := ty.L_uint8) (mc := 1) tB zB (by omega) (by omega) hr hsrc (m := 1) rfl (bytes_one _) (by omega)
  unfold OPR
  rw [hrun]
  have hlen : (l ++ [x]).length = l.length + 1 := by simp
  rw [← List.map_append, ← hlen] at hrow
  rw [← hlen]
  exact hf a' c' w' hrow hk hnew
/-- bytes onto a row -/
theorem append_bytes {w : World} {a : Option Addr} {c : Nat} {l : List UInt8} (hr : Row w ty.uint8 1 a l.length c (l.map byteV)) {m : List UInt8} {b : Option Addr} {mc : Nat} (hb : Rd w b (m.map byteV)) (hl : l.length + m.length ≤ 140737488355328) {f : Value → World → Prop}
    (hf : ∀ a' c' w', Row w' ty.uint8 1 a' (l ++ m).length c' ((l ++ m).map byteV) → Keeps (fun k => rowB a = some k) w w' → (∀ k, rowB a' = some k → rowB a = some k ∨ w.heap.size ≤ k) → f (.slice a' (l ++ m).length c') w') :
    OPR Tryz.prog (Builtin.append_ #[ty.L_uint8, ty.L_uint8] ty.L_uint8 #[.slice a l.length c, .slice b m.length mc]) f w := by
  obtain ⟨a', c', w', hrun, hrow, hk, hnew⟩ := append_row (ty := ty.L_uint8) (mc := mc) tB zB (by omega) (by omega) hr hb (m := m.length) (by simp) (bytes_one _) (by omega)
  unfold OPR
  rw [hrun]
  have hlen : (l ++ m).length = l.length + m.length := by simp
  rw [← List.map_append, ← hlen] at hrow
  rw [← hlen]
  exact hf a' c' w' hrow hk hnew
/-- a text onto a row -/
theorem append_text {w : World} {a : Option Addr} {c : Nat} {l : List UInt8} (hr : Row w ty.uint8 1 a l.length c (l.map byteV)) (s : ByteArray) (hl : l.length + s.size ≤ 140737488355328) {f : Value → World → Prop}
    (hf : ∀ a' c' w', Row w' ty.uint8 1 a' (l ++ bl s).length c' ((l ++ bl s).map byteV) → Keeps (fun k => rowB a = some k) w w' → (∀ k, rowB a' = some k → rowB a = some k ∨ w.heap.size ≤ k) → f (.slice a' (l ++ bl s).length c') w') :
    OPR Tryz.prog (Builtin.append_ #[ty.L_uint8, ty.string] ty.L_uint8 #[.slice a l.length c, .string s]) f w := by
  obtain ⟨a', c', w', hrun, hrow, hk, hnew⟩ := append_string (ty := ty.L_uint8) tB (show Tryz.prog.underlying ty.string = some .string by kernel_rfl) zB (by omega) hr s (by omega)
  unfold OPR
  rw [hrun]
  have hlen : (l ++ bl s).length = l.length + s.size := by rw [List.length_append, bl_length]
  rw [← List.map_append, ← hlen] at hrow
  rw [← hlen]
  exact hf a' c' w' hrow hk hnew

/-! ### digits -/
def digitsL (n : Nat) : List UInt8 := if h : n < 128 then [UInt8.ofNat n] else UInt8.ofNat (n % 128 + 128) :: digitsL (n / 128)
termination_by n
decreasing_by omega
theorem digitsL_pos (n : Nat) : digitsL n ≠ [] := by unfold digitsL; split <;> simp
theorem digitsL_len : ∀ (k n : Nat), n < 128 ^ (k + 1) → (digitsL n).length ≤ k + 1
  | 0, n, h => by unfold digitsL; rw [dif_pos (by simpa using h)]; simp
  | k + 1, n, h => by
    unfold digitsL
    split
    · simp
    · have := digitsL_len k (n / 128) (by rw [Nat.pow_succ] at h; exact Nat.div_lt_of_lt_mul (by rw [Nat.mul_comm]; exact h))
      simp only [List.length_cons]
      omega
theorem digitsL_len10 {n : Nat} (h : n < 18446744073709551616) : (digitsL n).length ≤ 10 := digitsL_len 9 n (Nat.lt_trans h (by decide))

theorem and127 {n : Nat} (h : n < 18446744073709551616) : (BitVec.ofInt 64 (n : Int) &&& BitVec.ofInt 64 127).toNat = n % 128 := by
  rw [BitVec.toNat_and, BitVec.ofInt_natCast, BitVec.toNat_ofNat, Nat.mod_eq_of_lt (by omega)]
  have := Nat.and_two_pow_sub_one_eq_mod n 7
  exact this
theorem low7 {n : Nat} (h : n < 18446744073709551616) : IntKind.u8.wrap (IntKind.u64.wrap (((BitVec.ofInt 64 (n : Int) &&& BitVec.ofInt 64 127).toNat : Int))) = ((n % 128 : Nat) : Int) := by
  rw [and127 h, wrap_u64_id (by omega) (by omega), wrap_u8_id (by omega) (by omega)]
theorem or128 {x : Nat} (h : x < 128) : IntKind.u8.wrap (((BitVec.ofInt 8 (x : Int) ||| BitVec.ofInt 8 128).toNat : Int)) = ((x + 128 : Nat) : Int) := by
  have e : (BitVec.ofInt 8 (x : Int) ||| BitVec.ofInt 8 128).toNat = x + 128 := by
    rw [BitVec.toNat_or, BitVec.ofInt_natCast, BitVec.toNat_ofNat, Nat.mod_eq_of_lt (by omega)]
    have := Nat.two_pow_add_eq_or_of_lt (i := 7) (b := x) (by omega) 1
    rw [Nat.or_comm]
    have h2 : (BitVec.ofInt 8 128).toNat = 128 := by decide
    rw [h2]
    have h3 : 2 ^ 7 * 1 ||| x = 2 ^ 7 * 1 + x := this.symm
    have h4 : (128 : Nat) ||| x = 128 + x := h3
    rw [h4]
    omega
  rw [e, wrap_u8_id (by omega) (by omega)]
theorem shr7 (n : Nat) : Int.fdiv (n : Int) (2 ^ (min 7 64)) = ((n / 128 : Nat) : Int) := by
  rw [Int.fdiv_eq_ediv_of_nonneg _ (by decide)]
  norm_cast

theorem byteV_of {x : Nat} (h : x < 256) : Value.int .u8 (x : Int) = byteV (UInt8.ofNat x) := by
  unfold byteV
  congr 1
  simp
  omega

theorem wire_digits_ok (w : World) (n : Nat) (hn : n < 18446744073709551616) : Calls Tryz.prog f.wire_digits #[.int .u64 (n : Int)] w (Ret fun v w' => ∃ a c, v = .slice a (digitsL n).length c ∧ NewB w w' (digitsL n) a c) := by
  apply R.wire_digits_calls
  unfold R.wire_digits
  refine ⟨fun s w1 => ∃ (m : Nat) (a : Option Addr) (c : Nat) (l : List UInt8), s = [.int .u64 (m : Int), .slice a l.length c] ∧ m < 18446744073709551616 ∧ l ++ digitsL m = digitsL n ∧ NewB w w1 l a c,
    fun s _ => match s with
      | [.int _ i, _] => i.toNat
      | _ => 0, ⟨n, none, 0, [], rfl, hn, rfl, Row.nil _ _ _, by simp [rowB], .refl _ _⟩, ?_⟩
  rintro _ a _ c w1 ⟨m, _, _, l, hs, hm, hl, h1⟩
  cases hs
  have hlen : l.length + 1 ≤ 140737488355328 := by
    have := digitsL_len10 hn
    rw [← hl] at this
    simp at this
    omega
  rw [shr7, low7 hm]
  refine IFB_eq (fun h0 => ?_) (fun h0 => ?_)
  · have hm0 : m < 128 := by omega
    refine (SH.start (fun _ => False) w1).newB fun b5 w2 hb5 B2 S2 => ?_
    refine append_byte (h1.grown B2).row hlen (x := UInt8.ofNat m) (by rw [Nat.mod_eq_of_lt hm0]; exact byteV_of (by omega)) (S2.get 0 rfl) fun a' c' w3 R3 K3 N3 => ⟨_, _, _, rfl, ?_⟩
    have e : l ++ [UInt8.ofNat m] = digitsL n := by rw [← hl]; conv => rhs; unfold digitsL; rw [dif_pos hm0]
    rw [e] at R3
    rw [e]
    refine ⟨a', c', rfl, R3, fun k hk => ?_, (h1.grown B2).bel.trans (K3.below (h1.grown B2).bel.size fun k hk he => by have := h1.new k he; omega)⟩
    rcases N3 k hk with h | h
    · exact h1.new k h
    · exact Nat.le_trans (h1.grown B2).bel.size h
  · have hm0 : ¬ m < 128 := by omega
    rw [or128 (Nat.mod_lt _ (by omega))]
    refine (SH.start (fun _ => False) w1).newB fun b5 w2 hb5 B2 S2 => ?_
    refine append_byte (h1.grown B2).row hlen (x := UInt8.ofNat (m % 128 + 128)) (byteV_of (by omega)) (S2.get 0 rfl) fun a' c' w3 R3 K3 N3 => ⟨_, _, _, rfl, ?_⟩
    refine ⟨⟨m / 128, a', c', _, rfl, by omega, ?_, R3, fun k hk => ?_, (h1.grown B2).bel.trans (K3.below (h1.grown B2).bel.size fun k hk he => by have := h1.new k he; omega)⟩, ?_⟩
    · rw [← hl]
      conv => rhs; rhs; unfold digitsL; rw [dif_neg hm0]
      simp
    · rcases N3 k hk with h | h
      · exact h1.new k h
      · exact Nat.le_trans (h1.grown B2).bel.size h
    · simp only [Int.toNat_natCast]
      omega

/-! ### Concat -/
abbrev PartB := Option Addr × Nat × List UInt8
def partV1 (p : PartB) : Value := .slice p.1 p.2.2.length p.2.1
def flatB (ps : List PartB) : List UInt8 := ps.flatMap (·.2.2)
theorem flatB_take (ps : List PartB) (k : Nat) (hk : k < ps.length) : flatB (ps.take (k + 1)) = flatB (ps.take k) ++ ps[k].2.2 := by
  unfold flatB
  rw [List.take_succ_eq_append_getElem hk, List.flatMap_append]
  simp
theorem flatB_le (ps : List PartB) (k : Nat) : (flatB (ps.take k)).length ≤ (flatB ps).length := by
  have : flatB ps = flatB (ps.take k) ++ flatB (ps.drop k) := by
    unfold flatB
    rw [← List.flatMap_append, List.take_append_drop]
  rw [this, List.length_append]
  omega

theorem slices_Grow_nil (w : World) (n : Nat) (hn : n ≤ 140737488355328) : Calls Tryz.prog f.slices_Grow_byte_byte #[.slice none 0 0, .int .i64 (n : Int)] w
    (Ret fun v w' => ∃ a c, v = .slice a 0 c ∧ n ≤ c ∧ Row w' ty.uint8 1 a 0 c [] ∧ (∀ k, rowB a = some k → w.heap.size ≤ k) ∧ Below w.heap.size w w') := by
  apply R.slices_Grow_byte_byte_calls
  unfold R.slices_Grow_byte_byte
  have e0 : IntKind.i64.wrap (((0 : Nat) : Int) - ((0 : Nat) : Int)) = 0 := by rw [wrap_i64 (by omega) (by omega)]; omega
  have e1 : IntKind.i64.wrap ((n : Int) - 0) = (n : Int) := by rw [wrap_i64 (by omega) (by omega)]; omega
  refine IFB_dec (fun h => by omega) (fun _ => ?_)
  rw [e0, e1]
  refine IFB_dec (fun hp => ⟨⟨by omega, by omega, by omega⟩, ?_⟩) (fun hp => ?_)
  · obtain ⟨c', w', hrun, hrow, hc, hb⟩ := append_zeros (u := ty.int) (ty := ty.L_uint8) tB (show Tryz.prog.underlying ty.int = some (.int .i64) by kernel_rfl) zB (by omega) (by omega) (w := w) (m := n) (by omega) (by omega)
    have hs : SLA none 0 0 1 = none := rfl
    unfold OPR
    rw [hs]
    simp only [Nat.sub_zero, hrun]
    refine ⟨_, _, _, rfl, ⟨by omega, by omega, by omega⟩, some ⟨w.heap.size, 0, none⟩, c', ?_, hc, hrow, fun k hk => by simp [rowB] at hk; omega, hb⟩
    have : SLA (some (⟨w.heap.size, 0, none⟩ : Addr)) 0 c' 1 = some ⟨w.heap.size, 0, none⟩ := by
      unfold SLA
      split
      · rfl
      · simp [addr_add_zero]
    rw [this]
  · have : n = 0 := by omega
    subst this
    exact ⟨none, 0, rfl, Nat.le_refl _, Row.nil _ _ _, by simp [rowB], .refl _ _⟩

theorem slices_Concat_ok {w : World} {a : Option Addr} {c : Nat} (ps : List PartB) (hp : Rd w a (ps.map partV1)) (hb : ∀ p ∈ ps, Rd w p.1 (p.2.2.map byteV)) (hn : ps.length < 9223372036854775807) (hl : (flatB ps).length ≤ 140737488355328) :
    Calls Tryz.prog f.slices_Concat_byte_byte #[.slice a ps.length c] w (Ret fun v w' => ∃ a c, v = .slice a (flatB ps).length c ∧ NewB w w' (flatB ps) a c) := by
  apply R.slices_Concat_byte_byte_calls
  unfold R.slices_Concat_byte_byte
  refine ⟨fun s w1 => ∃ k : Nat, s = [.int .i64 ((flatB (ps.take k)).length : Int), .int .i64 k] ∧ k ≤ ps.length ∧ w1 = w,
    fun s _ => match s with
      | [_, .int _ i] => ps.length - i.toNat
      | _ => 0, ⟨0, rfl, Nat.zero_le _, rfl⟩, ?_⟩
  rintro _ _ w1 ⟨k, hs, hk, rfl⟩
  cases hs
  refine IFB_dec (fun hlt => ⟨⟨by omega, hlt⟩, ?_⟩) (fun hge => ?_)
  · have hkl : k < ps.length := by omega
    obtain ⟨p, rfl, hc⟩ := hp k (partV1 ps[k]) (by simp [hkl])
    have h1 := flatB_le ps (k + 1)
    rw [flatB_take ps k hkl, List.length_append] at h1
    refine ⟨_, _, _, by rw [Int.toNat_natCast, Nat.mul_one]; exact hc, ?_⟩
    have e : IntKind.i64.wrap (((flatB (ps.take k)).length : Int) + (ps[k].2.2.length : Int)) = ((flatB (ps.take (k + 1))).length : Int) := by
      rw [flatB_take ps k hkl, List.length_append, wrap_i64 (by omega) (by omega)]; omega
    rw [e]
    refine IFB_dec (fun h => by omega) (fun _ => ?_)
    rw [wrap_succ (by omega)]
    refine ⟨⟨k + 1, rfl, by omega, rfl⟩, ?_⟩
    simp only [Int.toNat_natCast]
    omega
  · have hke : k = ps.length := by omega
    subst hke
    rw [List.take_length]
    refine (slices_Grow_nil w1 _ hl).mono ?_
    rintro _ w2 ⟨_, rfl, a2, c2, rfl, hc2, R2, N2, B2⟩
    refine ⟨_, _, _, rfl, ?_⟩
    refine ⟨fun s w3 => ∃ (k : Nat) (a3 : Option Addr) (c3 : Nat), s = [.slice a3 (flatB (ps.take k)).length c3, .int .i64 k] ∧ k ≤ ps.length ∧ NewB w1 w3 (flatB (ps.take k)) a3 c3,
      fun s _ => match s with
        | [_, .int _ i] => ps.length - i.toNat
        | _ => 0, ⟨0, a2, c2, rfl, Nat.zero_le _, R2, N2, B2⟩, ?_⟩
    rintro a3 _ c3 _ w3 ⟨k, _, _, hs, hk, h3⟩
    cases hs
    refine IFB_dec (fun hlt => ⟨⟨by omega, hlt⟩, ?_⟩) (fun hge => ?_)
    · have hkl : k < ps.length := by omega
      obtain ⟨p, rfl, hc⟩ := (hp.grown h3.bel) k (partV1 ps[k]) (by simp [hkl])
      have h1 := flatB_le ps (k + 1)
      rw [flatB_take ps k hkl, List.length_append] at h1
      refine ⟨_, _, _, by rw [Int.toNat_natCast, Nat.mul_one]; exact hc, ?_⟩
      refine append_bytes h3.row ((hb _ (List.getElem_mem hkl)).grown h3.bel) (by omega) fun a' c' w4 R4 K4 N4 => ⟨_, _, _, rfl, ?_⟩
      rw [← flatB_take ps k hkl] at R4 ⊢
      rw [wrap_succ (by omega)]
      refine ⟨⟨k + 1, a', c', rfl, by omega, R4, fun j hj => ?_, h3.bel.trans (K4.below h3.bel.size fun j hj he => by have := h3.new j he; omega)⟩, ?_⟩
      · rcases N4 j hj with h | h
        · exact h3.new j h
        · exact Nat.le_trans h3.bel.size h
      · simp only [Int.toNat_natCast]
        omega
    · have hke : k = ps.length := by omega
      subst hke
      rw [List.take_length] at h3 ⊢
      exact ⟨a3, c3, rfl, h3⟩
end Go.Proofs.YtbkffpcgppecgaaGreat

/-
  Numbers and texts as bytes, and out of bytes: both sides.
-/
namespace Go.Proofs.YtbkffpcgppecgaaGreat
open Go.Dn Go.Proofs
open Go.RowKit (Below)
set_option linter.unusedVariables false
set_option maxRecDepth 20000

theorem flat2 (a b : PartB) : flatB [a, b] = a.2.2 ++ b.2.2 := by simp [flatB]
theorem flat3 (a b c : PartB) : flatB [a, b, c] = a.2.2 ++ (b.2.2 ++ c.2.2) := by simp [flatB]
theorem wire_Number_ok {w : World} {a : Option Addr} {c : Nat} (l : List UInt8) (hl : Rd w a (l.map byteV)) (n : Nat) (hn : n < 18446744073709551616) (hs : l.length + 10 ≤ 140737488355328) :
    Calls Tryz.prog f.wire_Number #[.slice a l.length c, .int .u64 (n : Int)] w (Ret fun v w' => ∃ a c, v = .slice a (l ++ digitsL n).length c ∧ NewB w w' (l ++ digitsL n) a c) := by
  apply R.wire_Number_calls
  unfold R.wire_Number
  refine (wire_digits_ok w n hn).mono ?_
  rintro _ w1 ⟨_, rfl, a1, c1, rfl, h1⟩
  refine ⟨_, _, _, rfl, (SH.start (fun _ => False) w1).newB fun b5 w2 hb5 B2 S2 => ?_⟩
  have hd := digitsL_len10 hn
  have h2 := h1.grown B2
  refine (slices_Concat_ok [(a, c, l), (a1, c1, digitsL n)] (by have := Rd.of_block0 (S2.get 0 rfl); simpa [partV1] using this) (by
    intro p hp
    simp only [List.mem_cons, List.not_mem_nil, or_false] at hp
    rcases hp with rfl | rfl
    · exact hl.grown h2.bel
    · exact h2.rd) (by simp) (by rw [flat2]; simp; omega)).mono ?_
  rintro _ w3 ⟨_, rfl, a3, c3, rfl, h3⟩
  rw [flat2] at h3 ⊢
  exact ⟨_, _, _, rfl, a3, c3, rfl, h3.before h2.bel⟩
def textL (s : ByteArray) : List UInt8 := digitsL s.size ++ bl s
theorem wire_Text_ok {w : World} {a : Option Addr} {c : Nat} (l : List UInt8) (hl : Rd w a (l.map byteV)) (s : ByteArray) (hz : s.size ≤ 1048576) (hs : l.length + 10 + s.size ≤ 140737488355328) :
    Calls Tryz.prog f.wire_Text #[.slice a l.length c, .string s] w (Ret fun v w' => ∃ a c, v = .tuple #[.slice a (l ++ textL s).length c, .int .i64 0] ∧ NewB w w' (l ++ textL s) a c) := by
  apply R.wire_Text_calls
  unfold R.wire_Text
  refine IFB_dec (fun h => by omega) (fun _ => ?_)
  rw [wrap_u64_id (by omega) (by omega)]
  refine (wire_digits_ok w s.size (by omega)).mono ?_
  rintro _ w1 ⟨_, rfl, a1, c1, rfl, h1⟩
  have hd := digitsL_len10 (n := s.size) (by omega)
  refine ⟨_, _, _, rfl, bytes_of_string tbytes s w1 fun b c2 cs e w2 hb B2 hh hcs hsc htk => ⟨_, _, _, rfl, (SH.start (fun _ => False) w2).newB fun b7 w3 hb7 B3 S3 => ?_⟩⟩
  have hrd : Rd w2 (some ⟨b, 0, none⟩) ((bl s).map byteV) := by rw [← htk]; exact (Rd.of_block0 hh).take _
  have h3 := (h1.grown B2).grown B3
  have hbl := bl_length s
  refine (slices_Concat_ok [(a, c, l), (a1, c1, digitsL s.size), (some ⟨b, 0, none⟩, c2, bl s)] (by have := Rd.of_block0 (S3.get 0 rfl); simpa [partV1, hbl] using this) (by
    intro p hp
    simp only [List.mem_cons, List.not_mem_nil, or_false] at hp
    rcases hp with rfl | rfl | rfl
    · exact hl.grown h3.bel
    · exact h3.rd
    · exact hrd.grown B3) (by simp) (by rw [flat3]; simp; omega)).mono ?_
  rintro _ w4 ⟨_, rfl, a3, c3, rfl, h4⟩
  rw [flat3] at h4 ⊢
  exact ⟨_, _, _, rfl, a3, c3, rfl, h4.before h3.bel⟩
/-- a number out of bytes: it, and how many bytes it takes -/
def readN (i acc : Nat) : List UInt8 → Option (Nat × Nat)
  | [] => none
  | c :: r => if 9 < i ∨ (i = 9 ∧ c.toNat ≠ 1) then none else if c.toNat < 128 then (if c.toNat = 0 ∧ 0 < i then none else some (acc + c.toNat * 128 ^ i, i + 1)) else readN (i + 1) (acc + (c.toNat % 128) * 128 ^ i) r
def takeN (l : List UInt8) (at_ : Int) : Option (Nat × Nat) := if at_ < 0 then none else (readN 0 0 (l.drop at_.toNat)).map fun x => (x.1, at_.toNat + x.2)
def numV (o : Option (Nat × Nat)) : Value :=
  match o with
  | some x => .tuple #[.int .u64 (x.1 : Int), .int .i64 (x.2 : Int), .int .i64 0]
  | none => .tuple #[.int .u64 0, .int .i64 0, .int .i64 20]

theorem readN_bounds : ∀ (l : List UInt8) (i acc n k : Nat), acc < 128 ^ i → readN i acc l = some (n, k) → n < 18446744073709551616 ∧ i < k ∧ k ≤ i + l.length ∧ k ≤ 10 ∧ (0 < i → 128 ^ i ≤ n)
  | [], _, _, _, _, _, h => by simp [readN] at h
  | c :: r, i, acc, n, k, ha, h => by
    unfold readN at h
    split at h
    · cases h
    · rename_i hi
      split at h
      · rename_i hc
        split at h
        · cases h
        · rename_i hz
          simp only [Option.some.injEq, Prod.mk.injEq] at h
          obtain ⟨rfl, rfl⟩ := h
          refine ⟨?_, by omega, by simp, by omega, fun h0 => ?_⟩
          · by_cases h9 : i = 9
            · subst h9
              have : c.toNat = 1 := by omega
              rw [this]
              have : (128 : Nat) ^ 9 = 9223372036854775808 := by decide
              omega
            · have hp : (128 : Nat) ^ i ≤ 128 ^ 8 := Nat.pow_le_pow_right (by omega) (by omega)
              have : (128 : Nat) ^ 8 = 72057594037927936 := by decide
              have h3 : c.toNat * 128 ^ i ≤ 127 * 128 ^ i := Nat.mul_le_mul_right _ (by omega)
              omega
          · have h1 : 1 ≤ c.toNat := by omega
            have : 1 * 128 ^ i ≤ c.toNat * 128 ^ i := Nat.mul_le_mul_right _ h1
            omega
      · rename_i hc
        have hi8 : i ≤ 8 := by omega
        have hpow : (128 : Nat) ^ (i + 1) = 128 ^ i * 128 := Nat.pow_succ ..
        have h3 : (c.toNat % 128) * 128 ^ i ≤ 127 * 128 ^ i := Nat.mul_le_mul_right _ (by omega)
        obtain ⟨h1, h2, h4, h5, h6⟩ := readN_bounds r (i + 1) _ n k (by omega) h
        refine ⟨h1, by omega, by simp; omega, h5, fun _ => ?_⟩
        have := h6 (by omega)
        omega

theorem pow128 (i : Nat) : (128 : Nat) ^ i = 2 ^ (7 * i) := by rw [Nat.pow_mul]

/-- what a round adds: the program's way -/
theorem or_step {acc c i : Nat} (ha : acc < 128 ^ i) (hc : c < 128) (hi : i ≤ 9) (h9 : i = 9 → c ≤ 1) :
    acc + c * 128 ^ i < 18446744073709551616 ∧ (BitVec.ofInt 64 (acc : Int) ||| BitVec.ofInt 64 ((c * 128 ^ i : Nat) : Int)).toNat = acc + c * 128 ^ i := by
  have hb : acc + c * 128 ^ i < 18446744073709551616 := by
    by_cases h : i = 9
    · subst h
      have := h9 rfl
      have e : (128 : Nat) ^ 9 = 9223372036854775808 := by decide
      have : c * 128 ^ 9 ≤ 1 * 128 ^ 9 := Nat.mul_le_mul_right _ this
      omega
    · have hp : (128 : Nat) ^ i ≤ 128 ^ 8 := Nat.pow_le_pow_right (by omega) (by omega)
      have : (128 : Nat) ^ 8 = 72057594037927936 := by decide
      have h3 : c * 128 ^ i ≤ 127 * 128 ^ i := Nat.mul_le_mul_right _ (by omega)
      omega
  refine ⟨hb, ?_⟩
  rw [BitVec.toNat_or, BitVec.ofInt_natCast, BitVec.ofInt_natCast, BitVec.toNat_ofNat, BitVec.toNat_ofNat, Nat.mod_eq_of_lt (by omega), Nat.mod_eq_of_lt (by omega), pow128, Nat.or_comm]
  rw [pow128] at ha
  have := Nat.two_pow_add_eq_or_of_lt (i := 7 * i) (b := acc) ha c
  rw [Nat.mul_comm c, ← this]
  omega
theorem low7_8 {x : Nat} (h : x < 256) : IntKind.u8.wrap (((BitVec.ofInt 8 (x : Int) &&& BitVec.ofInt 8 127).toNat : Int)) = ((x % 128 : Nat) : Int) := by
  have : (BitVec.ofInt 8 (x : Int) &&& BitVec.ofInt 8 127).toNat = x % 128 := by
    rw [BitVec.toNat_and, BitVec.ofInt_natCast, BitVec.toNat_ofNat, Nat.mod_eq_of_lt (by omega)]
    exact Nat.and_two_pow_sub_one_eq_mod x 7
  rw [this, wrap_u8_id (by omega) (by omega)]
theorem shift_step {c i : Nat} (hc : c < 128) (hi : i ≤ 9) : IntKind.u64.wrap ((c : Int) * 2 ^ (min (IntKind.i64.wrap (7 * (i : Int))).toNat 64)) = ((c * 128 ^ i % 18446744073709551616 : Nat) : Int) := by
  have e : min (IntKind.i64.wrap (7 * (i : Int))).toNat 64 = 7 * i := by rw [wrap_i64 (by omega) (by omega)]; omega
  rw [e, wrap_u64, pow128]
  have : ((2 : Int) ^ (7 * i)) = ((2 ^ (7 * i) : Nat) : Int) := by norm_cast
  rw [this, ← Int.natCast_mul]
  omega

section
variable {w : World} {a : Option Addr} {c : Nat} {l : List UInt8}
theorem byte_at (hl : Rd w a (l.map byteV)) {i : Nat} (hi : i < l.length) : ∃ p, a = some p ∧ w.cell? (p.add (i * 1)) = some (.int .u8 (l[i].toNat : Int)) := by
  obtain ⟨p, hp, hc⟩ := hl i (byteV l[i]) (by simp [hi])
  exact ⟨p, hp, by rw [Nat.mul_one]; exact hc⟩
theorem drop_step {i : Nat} (hi : i < l.length) : l.drop i = l[i] :: l.drop (i + 1) := List.drop_eq_getElem_cons hi

theorem wire_TakeNumber_ok (hl : Rd w a (l.map byteV)) (hc : l.length ≤ c) (hs : l.length ≤ 9223372036854775807) (at_ : Int) : Calls Tryz.prog f.wire_TakeNumber #[.slice a l.length c, .int .i64 at_] w (Ret fun v w' => v = numV (takeN l at_) ∧ w' = w) := by
  apply R.wire_TakeNumber_calls
  unfold R.wire_TakeNumber
  refine IFB_dec (fun h => ⟨by simp [takeN, h, numV], rfl⟩) (fun h0 => IFB_dec (fun h => ⟨?_, rfl⟩) (fun h1 => ?_))
  · have : l.drop at_.toNat = [] := List.drop_eq_nil_of_le (by omega)
    simp [takeN, h0, this, readN, numV]
  obtain ⟨at_, rfl⟩ : ∃ k : Nat, at_ = k := ⟨at_.toNat, by omega⟩
  rw [Int.toNat_natCast]
  have hat : at_ ≤ l.length := by omega
  have ht : takeN l (at_ : Int) = (readN 0 0 (l.drop at_)).map fun x => (x.1, at_ + x.2) := by unfold takeN; rw [if_neg h0]; rfl
  refine ⟨⟨by omega, by omega, by omega⟩, ?_⟩
  refine ⟨fun s w1 => w1 = w ∧ ∃ i acc : Nat, s = [.int .u64 (acc : Int), .int .i64 (i : Int)] ∧ i ≤ 10 ∧ at_ + i ≤ l.length ∧ acc < 128 ^ i ∧ readN 0 0 (l.drop at_) = readN i acc (l.drop (at_ + i)),
    fun s _ => match s with
      | [_, .int _ i] => 10 - i.toNat
      | _ => 0, ⟨rfl, 0, 0, rfl, by omega, by omega, by simp, rfl⟩, ?_⟩
  rintro _ _ w1 ⟨rfl, i, acc, hs', hi, hle, hacc, hread⟩
  cases hs'
  have none_ : readN i acc (l.drop (at_ + i)) = none → (Value.tuple #[.int .u64 0, .int .i64 0, .int .i64 20] = numV (takeN l (at_ : Int)) ∧ w1 = w1) := by
    intro hn
    rw [ht, hread, hn]
    exact ⟨rfl, rfl⟩
  refine IFB_dec (fun hlt => ⟨⟨by omega, hlt⟩, ?_⟩) (fun hge => ?_)
  · have hil : at_ + i < l.length := by omega
    have hrd := (hl.sla at_ l.length c 1 hc)
    obtain ⟨p, hp, hcell⟩ := hrd i (byteV l[at_ + i]) (by
      rw [List.getElem?_take_of_lt (by omega), List.getElem?_drop, Nat.mul_one]
      simp [hil])
    rw [hp]
    refine ⟨_, by rw [Int.toNat_natCast, Nat.mul_one]; exact hcell, ?_⟩
    have hd := drop_step hil
    generalize hcc : l[at_ + i] = cc at hd
    have hc256 := cc.toNat_lt
    refine ⟨fun _ w2 => w2 = w1 ∧ ¬ (9 < i ∨ (i = 9 ∧ cc.toNat ≠ 1)), ?_, ?_⟩
    · refine IFB_dec (fun h => none_ (by rw [hd]; unfold readN; rw [if_pos (.inl (by omega))])) (fun h9 => IFB_eq (fun h => IFB_ne (fun h2 => none_ (by rw [hd]; unfold readN; rw [if_pos (.inr ⟨by omega, by omega⟩)])) (fun h2 => ⟨rfl, by omega⟩)) (fun h => ⟨rfl, by omega⟩))
    rintro w2 ⟨rfl, hno⟩
    have hi9 : i ≤ 9 := by omega
    have hm : cc.toNat % 128 < 128 := Nat.mod_lt _ (by omega)
    have h9 : i = 9 → cc.toNat % 128 ≤ 1 := by omega
    obtain ⟨hb, hor⟩ := or_step hacc hm hi9 h9
    have e1 : IntKind.u64.wrap (IntKind.u8.wrap (((BitVec.ofInt 8 (cc.toNat : Int) &&& BitVec.ofInt 8 127).toNat : Int))) = ((cc.toNat % 128 : Nat) : Int) := by rw [low7_8 hc256, wrap_u64_id (by omega) (by omega)]
    rw [e1, shift_step hm hi9, Nat.mod_eq_of_lt (by omega : cc.toNat % 128 * 128 ^ i < 18446744073709551616), hor, wrap_u64_id (by omega) (by omega)]
    refine ⟨by rw [wrap_i64 (by omega) (by omega)]; omega, ?_⟩
    have fin : cc.toNat < 128 → ¬ (cc.toNat = 0 ∧ 0 < i) → (Value.tuple #[.int .u64 ((acc + cc.toNat % 128 * 128 ^ i : Nat) : Int), .int .i64 (IntKind.i64.wrap (IntKind.i64.wrap ((at_ : Int) + (i : Int)) + 1)), .int .i64 0] = numV (takeN l (at_ : Int)) ∧ w2 = w2) := by
      intro hlt hz
      refine ⟨?_, rfl⟩
      rw [ht, hread, hd]
      unfold readN
      rw [if_neg hno, if_pos hlt, if_neg hz, Nat.mod_eq_of_lt hlt, wrap_i64 (n := (at_ : Int) + (i : Int)) (by omega) (by omega), wrap_i64 (by omega) (by omega)]
      simp only [Option.map_some, numV]
      congr 5
    refine IFB_dec (fun hlt => IFB_eq (fun hz => IFB_dec (fun h => none_ (by rw [hd]; unfold readN; rw [if_neg hno, if_pos (by omega), if_pos ⟨by omega, by omega⟩])) (fun h => fin (by omega) (by omega))) (fun hz => fin (by omega) (by omega))) (fun hge => ?_)
    rw [wrap_succ (by omega)]
    refine ⟨⟨rfl, i + 1, _, rfl, by omega, by omega, ?_, ?_⟩, ?_⟩
    · rw [Nat.pow_succ]
      have h3 : (cc.toNat % 128) * 128 ^ i ≤ 127 * 128 ^ i := Nat.mul_le_mul_right _ (by omega)
      omega
    · rw [hread, hd]
      conv => lhs; unfold readN
      rw [if_neg hno, if_neg (by omega)]
      rfl
    · simp only [Int.toNat_natCast]
      omega
  · refine none_ ?_
    rw [List.drop_eq_nil_of_le (by omega)]
    rfl

theorem ref_TakeNumber_ok (hl : Rd w a (l.map byteV)) (hs : l.length ≤ 9223372036854775807) (at_ : Int) (hat : at_ ≤ 9223372036854775807) : Calls Tryz.prog f.ref02_TakeNumber #[.slice a l.length c, .int .i64 at_] w (Ret fun v w' => v = numV (takeN l at_) ∧ w' = w) := by
  apply R.ref02_TakeNumber_calls
  unfold R.ref02_TakeNumber
  refine IFB_dec (fun h => ⟨by simp [takeN, h, numV], rfl⟩) (fun h0 => ?_)
  obtain ⟨at_, rfl⟩ : ∃ k : Nat, at_ = k := ⟨at_.toNat, by omega⟩
  have ht : takeN l (at_ : Int) = (readN 0 0 (l.drop at_)).map fun x => (x.1, at_ + x.2) := by unfold takeN; rw [if_neg h0]; rfl
  refine ⟨fun s w1 => w1 = w ∧ ∃ i acc : Nat, s = [.int .u64 (acc : Int), .int .i64 (i : Int)] ∧ i ≤ 10 ∧ acc < 128 ^ i ∧ readN 0 0 (l.drop at_) = readN i acc (l.drop (at_ + i)),
    fun s _ => match s with
      | [_, .int _ i] => 10 - i.toNat
      | _ => 0, ⟨rfl, 0, 0, rfl, by omega, by simp, rfl⟩, ?_⟩
  rintro _ _ w1 ⟨rfl, i, acc, hs', hi, hacc, hread⟩
  cases hs'
  have none_ : readN i acc (l.drop (at_ + i)) = none → (Value.tuple #[.int .u64 0, .int .i64 0, .int .i64 20] = numV (takeN l (at_ : Int)) ∧ w1 = w1) := by
    intro hn
    rw [ht, hread, hn]
    exact ⟨rfl, rfl⟩
  have nil_ : l.length ≤ at_ + i → readN i acc (l.drop (at_ + i)) = none := by
    intro h
    rw [List.drop_eq_nil_of_le h]
    rfl
  refine IFB_dec (fun hi10 => IFB_dec (fun hal => ?_) (fun h => none_ (nil_ (by omega)))) (fun h => none_ ?_)
  · have ew : IntKind.i64.wrap ((l.length : Int) - (at_ : Int)) = (l.length : Int) - (at_ : Int) := wrap_i64 (by omega) (by omega)
    rw [ew]
    refine IFB_dec (fun hil' => ?_) (fun h => none_ (nil_ (by omega)))
    have hil : at_ + i < l.length := by omega
    have ei : IntKind.i64.wrap ((at_ : Int) + (i : Int)) = ((at_ + i : Nat) : Int) := by rw [wrap_i64 (by omega) (by omega)]; omega
    rw [ei]
    refine ⟨⟨by omega, by omega⟩, ?_⟩
    obtain ⟨p, rfl, hcell⟩ := byte_at hl hil
    refine ⟨_, by rw [Int.toNat_natCast]; exact hcell, ?_⟩
    have hd := drop_step hil
    generalize hcc : l[at_ + i] = cc at hd
    have hc256 := cc.toNat_lt
    have hi9 : i ≤ 9 := by omega
    refine ⟨fun _ w2 => w2 = w1 ∧ ¬ (i = 9 ∧ 1 < cc.toNat), ?_, ?_⟩
    · refine IFB_eq (fun h => IFB_dec (fun h2 => none_ (by rw [hd]; unfold readN; rw [if_pos (.inr ⟨by omega, by omega⟩)])) (fun h2 => ⟨rfl, by omega⟩)) (fun h => ⟨rfl, by omega⟩)
    rintro w2 ⟨rfl, hno'⟩
    have hm : cc.toNat % 128 < 128 := Nat.mod_lt _ (by omega)
    have h9 : i = 9 → cc.toNat % 128 ≤ 1 := by omega
    obtain ⟨hb, _⟩ := or_step hacc hm hi9 h9
    have e1 : IntKind.u64.wrap (Int.tmod (cc.toNat : Int) 128) = ((cc.toNat % 128 : Nat) : Int) := by
      rw [Int.tmod_eq_emod_of_nonneg (by omega), wrap_u64_id (by omega) (by omega)]
      omega
    rw [e1, shift_step hm hi9, Nat.mod_eq_of_lt (by omega : cc.toNat % 128 * 128 ^ i < 18446744073709551616)]
    have e2 : IntKind.u64.wrap ((acc : Int) + ((cc.toNat % 128 * 128 ^ i : Nat) : Int)) = ((acc + cc.toNat % 128 * 128 ^ i : Nat) : Int) := by
      rw [wrap_u64_id (by omega) (by omega)]; omega
    rw [e2]
    refine ⟨by rw [wrap_i64 (by omega) (by omega)]; omega, ?_⟩
    have zero9 : i = 9 → cc.toNat = 0 → readN i acc (l.drop (at_ + i)) = none := by
      intro h h0
      rw [hd]
      unfold readN
      rw [if_pos (.inr ⟨h, by omega⟩)]
    have fin : cc.toNat < 128 → ¬ (cc.toNat = 0 ∧ 0 < i) → (Value.tuple #[.int .u64 ((acc + cc.toNat % 128 * 128 ^ i : Nat) : Int), .int .i64 (IntKind.i64.wrap (((at_ + i : Nat) : Int) + 1)), .int .i64 0] = numV (takeN l (at_ : Int)) ∧ w2 = w2) := by
      intro hlt hz
      refine ⟨?_, rfl⟩
      rw [ht, hread, hd]
      unfold readN
      rw [if_neg (by omega), if_pos hlt, if_neg hz, Nat.mod_eq_of_lt hlt, wrap_i64 (by omega) (by omega)]
      simp only [Option.map_some, numV]
      congr 5
    refine IFB_dec (fun hlt => IFB_eq (fun hz => IFB_dec (fun h => none_ ?_) (fun h => fin (by omega) (by omega))) (fun hz => fin (by omega) (by omega))) (fun hge => ?_)
    · by_cases hi9' : i = 9
      · exact zero9 hi9' (by omega)
      · rw [hd]; unfold readN; rw [if_neg (by omega), if_pos (by omega), if_pos ⟨by omega, by omega⟩]
    rw [wrap_succ (by omega)]
    refine ⟨⟨rfl, i + 1, _, rfl, by omega, ?_, ?_⟩, ?_⟩
    · rw [Nat.pow_succ]
      have h3 : (cc.toNat % 128) * 128 ^ i ≤ 127 * 128 ^ i := Nat.mul_le_mul_right _ (by omega)
      omega
    · rw [hread, hd]
      conv => lhs; unfold readN
      rw [if_neg (by omega), if_neg (by omega)]
      rfl
    · simp only [Int.toNat_natCast]
      omega
  · have h10 : i = 10 := by omega
    subst h10
    cases hh : l.drop (at_ + 10) with
    | nil => rfl
    | cons c r => unfold readN; rw [if_pos (.inl (by omega))]
end
theorem takeN_bounds {l : List UInt8} {at_ : Int} {n k : Nat} (h : takeN l at_ = some (n, k)) : n < 18446744073709551616 ∧ 0 ≤ at_ ∧ at_.toNat < k ∧ k ≤ l.length ∧ k ≤ at_.toNat + 10 := by
  unfold takeN at h
  split at h
  · cases h
  · obtain ⟨⟨x1, x2⟩, hx, he⟩ := Option.map_eq_some_iff.1 h
    simp only [Prod.mk.injEq] at he
    obtain ⟨rfl, rfl⟩ := he
    obtain ⟨h1, h2, h3, h4, _⟩ := readN_bounds _ 0 0 _ _ (by simp) hx
    rw [List.length_drop] at h3
    refine ⟨h1, by omega, by omega, by omega, by omega⟩
def takeT (l : List UInt8) (at_ : Int) (most : Nat) : Option (List UInt8 × Nat) :=
  match takeN l at_ with
  | some x => if 1048576 < x.1 ∨ most < x.1 ∨ l.length - x.2 < x.1 then none else some ((l.drop x.2).take x.1, x.2 + x.1)
  | none => none
def txtV (o : Option (List UInt8 × Nat)) : Value :=
  match o with
  | some x => .tuple #[.string (sof x.1), .int .i64 (x.2 : Int), .int .i64 0]
  | none => .tuple #[.string ⟨#[]⟩, .int .i64 0, .int .i64 20]
section
variable {w : World} {a : Option Addr} {c : Nat} {l : List UInt8}
theorem wire_TakeText_any (hl : Rd w a (l.map byteV)) (hc : l.length ≤ c) (hs : l.length ≤ 9223372036854775807) (at_ : Int) (most : Nat) : Calls Tryz.prog f.wire_TakeText #[.slice a l.length c, .int .i64 at_, .int .i64 (most : Int)] w (Ret fun v w' => v = txtV (takeT l at_ most) ∧ w' = w) := by
  apply R.wire_TakeText_calls
  unfold R.wire_TakeText
  refine (wire_TakeNumber_ok hl hc hs at_).mono ?_
  rintro _ w ⟨_, rfl, rfl, rfl⟩
  cases ho : takeN l at_ with
  | none => exact ⟨_, _, _, rfl, IFB_true ⟨by simp only [takeT, ho]; rfl, rfl⟩⟩
  | some x =>
    obtain ⟨n, k⟩ := x
    obtain ⟨h1, h2, h3, h4, h5⟩ := takeN_bounds ho
    have no : (1048576 < n ∨ most < n ∨ l.length - k < n) → (Value.tuple #[.string ⟨#[]⟩, .int .i64 0, .int .i64 20] = txtV (takeT l at_ most) ∧ w = w) := by
      intro h
      refine ⟨?_, rfl⟩
      simp only [takeT, ho]
      rw [if_pos h]
      rfl
    refine ⟨_, _, _, rfl, IFB_false (IFB_dec (fun h => no (.inl (by omega))) (fun hn1 => ?_))⟩
    rw [wrap_i64 (n := (n : Int)) (by omega) (by omega), wrap_i64 (n := (l.length : Int) - (k : Int)) (by omega) (by omega)]
    refine IFB_dec (fun h => no (.inr (.inl (by omega)))) (fun hn2 => IFB_dec (fun h => no (.inr (.inr (by omega)))) (fun hn3 => ?_))
    have e : IntKind.i64.wrap ((k : Int) + (n : Int)) = ((k + n : Nat) : Int) := by rw [wrap_i64 (by omega) (by omega)]; omega
    rw [e]
    refine ⟨⟨by omega, by omega, by omega⟩, ?_⟩
    rw [Int.toNat_natCast, Int.toNat_natCast, Nat.add_sub_cancel_left]
    have hsl := hl.sla k (k + n) c 1 (by omega)
    rw [Nat.mul_one, Nat.mul_one, Nat.add_sub_cancel_left, ← List.map_drop, ← List.map_take] at hsl
    have hlen : ((l.drop k).take n).length = n := by rw [List.length_take, List.length_drop]; omega
    refine string_of_bytes tbytes hlen.symm hsl ⟨_, rfl, ?_, rfl⟩
    simp only [takeT, ho]
    rw [if_neg (by omega)]
    rfl
theorem ref_TakeText_ok (hl : Rd w a (l.map byteV)) (hc : l.length ≤ c) (hs : l.length ≤ 9223372036854775807) (at_ : Int) (hat : at_ ≤ 9223372036854775807) (most : Nat) : Calls Tryz.prog f.ref02_TakeText #[.slice a l.length c, .int .i64 at_, .int .i64 (most : Int)] w (Ret fun v w' => v = txtV (takeT l at_ most) ∧ w' = w) := by
  apply R.ref02_TakeText_calls
  unfold R.ref02_TakeText
  refine (ref_TakeNumber_ok hl hs at_ hat).mono ?_
  rintro _ w ⟨_, rfl, rfl, rfl⟩
  cases ho : takeN l at_ with
  | none => exact ⟨_, _, _, rfl, IFB_true ⟨by simp only [takeT, ho]; rfl, rfl⟩⟩
  | some x =>
    obtain ⟨n, k⟩ := x
    obtain ⟨h1, h2, h3, h4, h5⟩ := takeN_bounds ho
    have no : (1048576 < n ∨ most < n ∨ l.length - k < n) → (Value.tuple #[.string ⟨#[]⟩, .int .i64 0, .int .i64 20] = txtV (takeT l at_ most) ∧ w = w) := by
      intro h
      refine ⟨?_, rfl⟩
      simp only [takeT, ho]
      rw [if_pos h]
      rfl
    refine ⟨_, _, _, rfl, IFB_false (IFB_dec (fun h => no (.inl (by omega))) (fun hn1 => ?_))⟩
    rw [wrap_i64 (n := (n : Int)) (by omega) (by omega), wrap_i64 (n := (l.length : Int) - (k : Int)) (by omega) (by omega)]
    refine IFB_dec (fun h => no (.inr (.inl (by omega)))) (fun hn2 => IFB_dec (fun h => no (.inr (.inr (by omega)))) (fun hn3 => ?_))
    have e : IntKind.i64.wrap ((k : Int) + (n : Int)) = ((k + n : Nat) : Int) := by rw [wrap_i64 (by omega) (by omega)]; omega
    rw [e]
    refine ⟨⟨by omega, by omega, by omega⟩, ?_⟩
    rw [Int.toNat_natCast, Int.toNat_natCast, Nat.add_sub_cancel_left]
    have hsl := hl.sla k (k + n) c 1 (by omega)
    rw [Nat.mul_one, Nat.mul_one, Nat.add_sub_cancel_left, ← List.map_drop, ← List.map_take] at hsl
    have hlen : ((l.drop k).take n).length = n := by rw [List.length_take, List.length_drop]; omega
    refine string_of_bytes tbytes hlen.symm hsl ⟨_, rfl, ?_, rfl⟩
    simp only [takeT, ho]
    rw [if_neg (by omega)]
    rfl
end
theorem NewB.appended {w w1 w2 w3 : World} {l m : List UInt8} {a a' : Option Addr} {c c' : Nat} (h : NewB w w1 l a c) (hb : Below w1.heap.size w1 w2) (R : Row w3 ty.uint8 1 a' m.length c' (m.map byteV)) (K : Keeps (fun k => rowB a = some k) w2 w3) (N : ∀ k, rowB a' = some k → rowB a = some k ∨ w2.heap.size ≤ k) : NewB w w3 m a' c' := by
  have h2 := h.grown hb
  refine ⟨R, fun k hk => ?_, h2.bel.trans (K.below h2.bel.size fun k hk he => by have := h2.new k he; omega)⟩
  rcases N k hk with hh | hh
  · exact h2.new k hh
  · exact Nat.le_trans h2.bel.size hh
section
variable {w : World} {a : Option Addr} {c : Nat}
theorem ref_Number_ok (l : List UInt8) (hl : Rd w a (l.map byteV)) (n : Nat) (hn : n < 18446744073709551616) (hs : l.length + 10 ≤ 140737488355328) :
    Calls Tryz.prog f.ref02_Number #[.slice a l.length c, .int .u64 (n : Int)] w (Ret fun v w' => ∃ a c, v = .slice a (l ++ digitsL n).length c ∧ NewB w w' (l ++ digitsL n) a c) := by
  apply R.ref02_Number_calls
  unfold R.ref02_Number
  have e : IntKind.i64.wrap ((l.length : Int) + 10) = ((l.length + 10 : Nat) : Int) := by rw [wrap_i64 (by omega) (by omega)]; omega
  rw [e]
  refine make_row0 tB (by omega) (by omega) fun b w1 hb B1 R1 => ⟨_, _, _, rfl, ?_⟩
  refine append_bytes (l := []) R1 (hl.grown B1) (by simp; omega) fun a2 c2 w2 R2 K2 N2 => ⟨_, _, _, rfl, ?_⟩
  have h1 : NewB w w1 [] (some ⟨b, 0, none⟩) (l.length + 10) := ⟨R1, fun k hk => by simp [rowB] at hk; omega, B1⟩
  have h2 : NewB w w2 l a2 c2 := h1.appended (.refl _ _) R2 K2 N2
  refine ⟨fun s w3 => ∃ (m : Nat) (a : Option Addr) (c : Nat) (l' : List UInt8), s = [.int .u64 (m : Int), .slice a l'.length c] ∧ m < 18446744073709551616 ∧ l' ++ digitsL m = l ++ digitsL n ∧ NewB w w3 l' a c,
    fun s _ => match s with
      | [.int _ i, _] => i.toNat
      | _ => 0, ⟨n, a2, c2, l, rfl, hn, rfl, h2⟩, ?_⟩
  rintro _ a3 _ c3 w3 ⟨m, _, _, l', hs', hm, hl', h3⟩
  cases hs'
  have hlen : l'.length + 1 ≤ 140737488355328 := by
    have h4 := digitsL_len10 hn
    have h5 := congrArg List.length hl'
    have h6 := digitsL_pos m
    have h7 : 0 < (digitsL m).length := List.length_pos_iff.2 h6
    simp only [List.length_append] at h5
    omega
  refine IFB_dec (fun h => ?_) (fun h => ?_)
  · have e1 : IntKind.u8.wrap (IntKind.u8.wrap (Int.tmod (m : Int) 128) + 128) = ((m % 128 + 128 : Nat) : Int) := by
      rw [Int.tmod_eq_emod_of_nonneg (by omega), wrap_u8_id (n := (m : Int) % 128) (by omega) (by omega), wrap_u8_id (by omega) (by omega)]
      omega
    have e2 : IntKind.u64.wrap (Int.tdiv (m : Int) 128) = ((m / 128 : Nat) : Int) := by rw [Int.tdiv_eq_ediv_of_nonneg (by omega), wrap_u64_id (by omega) (by omega)]; omega
    rw [e1, e2]
    refine (SH.start (fun _ => False) w3).newB fun b13 w6 hb13 B6 S6 => ?_
    refine append_byte (h3.grown B6).row hlen (x := UInt8.ofNat (m % 128 + 128)) (byteV_of (by omega)) (S6.get 0 rfl) fun a7 c7 w7 R7 K7 N7 => ⟨_, _, _, rfl, ⟨m / 128, a7, c7, _, rfl, by omega, ?_, h3.appended B6 R7 K7 N7⟩, ?_⟩
    · rw [← hl']
      conv => rhs; rhs; unfold digitsL; rw [dif_neg (by omega)]
      simp
    · simp only [Int.toNat_natCast]
      omega
  · have hm0 : m < 128 := by omega
    rw [wrap_u8_id (n := (m : Int)) (by omega) (by omega)]
    refine (SH.start (fun _ => False) w3).newB fun b13 w6 hb13 B6 S6 => ?_
    refine append_byte (h3.grown B6).row hlen (x := UInt8.ofNat m) (byteV_of (by omega)) (S6.get 0 rfl) fun a7 c7 w7 R7 K7 N7 => ⟨_, _, _, rfl, ?_⟩
    have e : l' ++ [UInt8.ofNat m] = l ++ digitsL n := by rw [← hl']; conv => rhs; rhs; unfold digitsL; rw [dif_pos hm0]
    have h7 := h3.appended B6 R7 K7 N7
    rw [e] at h7 ⊢
    exact ⟨a7, c7, rfl, h7⟩
theorem ref_Text_ok (l : List UInt8) (hl : Rd w a (l.map byteV)) (s : ByteArray) (hz : s.size ≤ 1048576) (hs : l.length + 10 + s.size ≤ 140737488355328) :
    Calls Tryz.prog f.ref02_Text #[.slice a l.length c, .string s] w (Ret fun v w' => ∃ a c, v = .tuple #[.slice a (l ++ textL s).length c, .int .i64 0] ∧ NewB w w' (l ++ textL s) a c) := by
  apply R.ref02_Text_calls
  unfold R.ref02_Text
  refine IFB_dec (fun h => by omega) (fun _ => ?_)
  rw [wrap_u64_id (by omega) (by omega)]
  refine (ref_Number_ok l hl s.size (by omega) (by omega)).mono ?_
  rintro _ w1 ⟨_, rfl, a1, c1, rfl, h1⟩
  have hd := digitsL_len10 (n := s.size) (by omega)
  refine ⟨_, _, _, rfl, append_text h1.row s (by simp only [List.length_append]; omega) fun a2 c2 w2 R2 K2 N2 => ⟨_, _, _, rfl, ?_⟩⟩
  have h2 := h1.appended (.refl _ _) R2 K2 N2
  have e : l ++ digitsL s.size ++ bl s = l ++ textL s := by rw [textL, List.append_assoc]
  rw [e] at h2 ⊢
  exact ⟨a2, c2, rfl, h2⟩
end
theorem ofNat_toNat8 {n : Nat} (h : n < 256) : (UInt8.ofNat n).toNat = n := by simp; omega
theorem digitsL_small {n : Nat} (h : n < 128) : digitsL n = [UInt8.ofNat n] := by unfold digitsL; rw [dif_pos h]
theorem digitsL_big {n : Nat} (h : ¬ n < 128) : digitsL n = UInt8.ofNat (n % 128 + 128) :: digitsL (n / 128) := by conv => lhs; unfold digitsL; rw [dif_neg h]
theorem readN_digits (n : Nat) : ∀ (i acc : Nat) (r : List UInt8), n * 128 ^ i < 18446744073709551616 → i ≤ 9 → (n = 0 → i = 0) → readN i acc (digitsL n ++ r) = some (acc + n * 128 ^ i, i + (digitsL n).length) := by
  induction n using Nat.strongRecOn with
  | _ n ih =>
    intro i acc r hn hi h0
    by_cases h : n < 128
    · rw [digitsL_small h]
      simp only [List.singleton_append, readN]
      rw [ofNat_toNat8 (by omega)]
      have e9 : i = 9 → n = 1 := by
        intro h9
        subst h9
        have : (128 : Nat) ^ 9 = 9223372036854775808 := by decide
        rw [this] at hn
        have : n ≠ 0 := fun h => by have := h0 h; omega
        omega
      rw [if_neg (by omega), if_pos h, if_neg (by omega)]
      rfl
    · rw [digitsL_big h]
      simp only [List.cons_append, readN]
      rw [ofNat_toNat8 (by omega)]
      have h8 : i ≤ 8 := by
        by_cases h9 : i = 9
        · subst h9
          have : (128 : Nat) ^ 9 = 9223372036854775808 := by decide
          rw [this] at hn
          omega
        · omega
      have ep : (128 : Nat) ^ (i + 1) = 128 * 128 ^ i := by rw [Nat.pow_succ, Nat.mul_comm]
      have key : n / 128 * 128 ^ (i + 1) + n % 128 * 128 ^ i = n * 128 ^ i := by
        rw [ep, ← Nat.mul_assoc, ← Nat.add_mul]
        congr 1
        omega
      rw [if_neg (by omega), if_neg (by omega), ih (n / 128) (by omega) (i + 1) _ r (by omega) (by omega) (by omega)]
      simp only [List.length_cons]
      have : (n % 128 + 128) % 128 = n % 128 := by omega
      rw [this]
      congr 2
      · omega
      · omega
theorem readN_conv : ∀ (l : List UInt8) (i acc n k : Nat), readN i acc l = some (n, k) → ∃ m, n = acc + m * 128 ^ i ∧ k = i + (digitsL m).length ∧ l = digitsL m ++ l.drop (digitsL m).length ∧ (0 < i → m ≠ 0)
  | [], _, _, _, _, h => by simp [readN] at h
  | c :: r, i, acc, n, k, h => by
    have hc := c.toNat_lt
    unfold readN at h
    split at h
    · cases h
    · split at h
      · rename_i hlt
        split at h
        · cases h
        · rename_i hz
          simp only [Option.some.injEq, Prod.mk.injEq] at h
          obtain ⟨rfl, rfl⟩ := h
          refine ⟨c.toNat, rfl, ?_, ?_, fun hi hh => hz ⟨hh, hi⟩⟩
          · rw [digitsL_small hlt]; rfl
          · rw [digitsL_small hlt]; simp
      · rename_i hge
        obtain ⟨m, e1, e2, e3, e4⟩ := readN_conv r (i + 1) _ n k h
        have hm := e4 (by omega)
        have hb : ¬ (c.toNat % 128 + 128 * m) < 128 := by omega
        have ed : digitsL (c.toNat % 128 + 128 * m) = c :: digitsL m := by
          rw [digitsL_big hb]
          have h1 : (c.toNat % 128 + 128 * m) % 128 + 128 = c.toNat := by omega
          have h2 : (c.toNat % 128 + 128 * m) / 128 = m := by omega
          rw [h1, h2]
          simp
        refine ⟨c.toNat % 128 + 128 * m, ?_, ?_, ?_, fun _ => by omega⟩
        · rw [e1, Nat.pow_succ, Nat.add_mul, Nat.add_assoc]
          congr 2
          rw [Nat.mul_comm (128 ^ i) 128, ← Nat.mul_assoc, Nat.mul_comm m 128]
        · rw [e2, ed]
          simp only [List.length_cons]
          omega
        · rw [ed]
          simp only [List.length_cons, List.drop_succ_cons, List.cons_append]
          rw [← e3]
end Go.Proofs.YtbkffpcgppecgaaGreat

/-
  How many bits a number needs; sizes and widths: both sides.
-/
namespace Go.Proofs.YtbkffpcgppecgaaGreat
open Go.Dn Go.Proofs
open Go.RowKit (Below)
set_option linter.unusedVariables false
set_option maxRecDepth 20000

def IsLen (x r : Nat) : Prop := x < 2 ^ r ∧ (r = 0 ∨ 2 ^ (r - 1) ≤ x)
theorem IsLen.one {x r s : Nat} (h : IsLen x r) (h' : IsLen x s) : r = s := by
  have key : ∀ {a b : Nat}, IsLen x a → IsLen x b → a ≤ b := by
    intro a b ha hb
    rcases ha.2 with h0 | h0
    · omega
    · rcases Nat.lt_or_ge b a with hlt | hge
      · have : 2 ^ b ≤ 2 ^ (a - 1) := Nat.pow_le_pow_right (by omega) (by omega)
        have := hb.1
        omega
      · exact hge
  exact Nat.le_antisymm (key h h') (key h' h)
theorem IsLen.le {x r w : Nat} (h : IsLen x r) : r ≤ w ↔ x < 2 ^ w := by
  constructor
  · intro hle
    exact Nat.lt_of_lt_of_le h.1 (Nat.pow_le_pow_right (by omega) hle)
  · intro hlt
    rcases h.2 with h0 | h0
    · omega
    · rcases Nat.lt_or_ge w r with hlt2 | hge
      · have : 2 ^ w ≤ 2 ^ (r - 1) := Nat.pow_le_pow_right (by omega) (by omega)
        omega
      · exact hge
theorem IsLen.of_le {x r : Nat} (h : ∀ w, r ≤ w ↔ x < 2 ^ w) : IsLen x r := by
  refine ⟨(h r).1 (Nat.le_refl _), ?_⟩
  rcases Nat.eq_zero_or_pos r with h0 | h0
  · exact .inl h0
  · right
    rcases Nat.lt_or_ge x (2 ^ (r - 1)) with hlt | hge
    · have := (h (r - 1)).2 hlt
      omega
    · exact hge
theorem IsLen.shift {x r s : Nat} (h : IsLen (x / 2 ^ s) r) (hx : 2 ^ s ≤ x) : IsLen x (r + s) := by
  have hp : 0 < 2 ^ s := Nat.two_pow_pos s
  have h1 : 1 ≤ x / 2 ^ s := (Nat.le_div_iff_mul_le hp).2 (by omega)
  have hr : r ≠ 0 := by
    rintro rfl
    have := h.1
    simp at this
    omega
  refine ⟨?_, .inr ?_⟩
  · rw [Nat.pow_add]
    exact (Nat.div_lt_iff_lt_mul hp).1 h.1
  · rcases h.2 with h0 | h0
    · exact absurd h0 hr
    · rw [show r + s - 1 = (r - 1) + s by omega, Nat.pow_add]
      exact (Nat.le_div_iff_mul_le hp).1 h0

def lenT : ByteArray := ⟨#[0, 1, 2, 2, 3, 3, 3, 3, 4, 4, 4, 4, 4, 4, 4, 4, 5, 5, 5, 5, 5, 5, 5, 5, 5, 5, 5, 5, 5, 5, 5, 5, 6, 6, 6, 6, 6, 6, 6, 6, 6, 6, 6, 6, 6, 6, 6, 6, 6, 6, 6, 6, 6, 6, 6, 6, 6, 6, 6, 6, 6, 6, 6, 6, 7, 7, 7, 7, 7, 7, 7, 7, 7, 7, 7, 7, 7, 7, 7, 7, 7, 7, 7, 7, 7, 7, 7, 7, 7, 7, 7, 7, 7, 7, 7, 7, 7, 7, 7, 7, 7, 7, 7, 7, 7, 7, 7, 7, 7, 7, 7, 7, 7, 7, 7, 7, 7, 7, 7, 7, 7, 7, 7, 7, 7, 7, 7, 7, 8, 8, 8, 8, 8, 8, 8, 8, 8, 8, 8, 8, 8, 8, 8, 8, 8, 8, 8, 8, 8, 8, 8, 8, 8, 8, 8, 8, 8, 8, 8, 8, 8, 8, 8, 8, 8, 8, 8, 8, 8, 8, 8, 8, 8, 8, 8, 8, 8, 8, 8, 8, 8, 8, 8, 8, 8, 8, 8, 8, 8, 8, 8, 8, 8, 8, 8, 8, 8, 8, 8, 8, 8, 8, 8, 8, 8, 8, 8, 8, 8, 8, 8, 8, 8, 8, 8, 8, 8, 8, 8, 8, 8, 8, 8, 8, 8, 8, 8, 8, 8, 8, 8, 8, 8, 8, 8, 8, 8, 8, 8, 8, 8, 8, 8, 8, 8, 8, 8, 8, 8, 8, 8, 8, 8, 8, 8, 8]⟩
theorem lenT_size : lenT.size = 256 := by decide
theorem lenT_all : ((List.range 256).all fun i => decide (i < 2 ^ (sget lenT i).toNat) && ((sget lenT i).toNat == 0 || decide (2 ^ ((sget lenT i).toNat - 1) ≤ i)) && decide ((sget lenT i).toNat ≤ 8)) = true := by decide +kernel
theorem lenT_is {i : Nat} (h : i < 256) : IsLen i (sget lenT i).toNat ∧ (sget lenT i).toNat ≤ 8 := by
  have := List.all_eq_true.1 lenT_all i (List.mem_range.2 h)
  simp only [Bool.and_eq_true, decide_eq_true_eq, Bool.or_eq_true, beq_iff_eq] at this
  exact ⟨⟨this.1.1, this.1.2⟩, this.2⟩

theorem fdiv_pow (x s : Nat) : Int.fdiv (x : Int) (2 ^ s) = ((x / 2 ^ s : Nat) : Int) := by
  rw [Int.fdiv_eq_ediv_of_nonneg _ (Int.le_of_lt (Int.pow_pos (by omega)))]
  norm_cast
theorem Len64_ok (w : World) (x : Nat) (hx : x < 18446744073709551616) : Calls Tryz.prog f.math_bits_Len64 #[.int .u64 (x : Int)] w (Ret fun v w' => ∃ r : Nat, v = .int .i64 (r : Int) ∧ IsLen x r ∧ r ≤ 64 ∧ w' = w) := by
  apply R.math_bits_Len64_calls
  unfold R.math_bits_Len64
  refine ⟨fun st w1 => w1 = w ∧ ∃ y n : Nat, st = [.int .u64 (y : Int), .int .i64 (n : Int)] ∧ y < 4294967296 ∧ n ≤ 32 ∧ (∀ r, IsLen y r → r ≤ 32 → IsLen x (r + n) ∨ (n = 0 ∧ x = y)), ?_, ?_⟩
  · refine IFB_dec (fun h => ⟨rfl, x / 2 ^ 32, 32, ?_, ?_, by omega, fun r hr _ => .inl (hr.shift (by omega))⟩) (fun h => ⟨rfl, x, 0, rfl, by omega, by omega, fun r _ _ => .inr ⟨rfl, rfl⟩⟩)
    · rw [show min 32 64 = 32 from rfl, fdiv_pow]
      rfl
    · omega
  rintro _ _ w1 ⟨rfl, y, n, hst, hy, hn, hyx⟩
  cases hst
  refine ⟨fun st w2 => w2 = w1 ∧ ∃ z m : Nat, st = [.int .u64 (z : Int), .int .i64 (m : Int)] ∧ z < 65536 ∧ m ≤ 48 ∧ (∀ r, IsLen z r → r ≤ 16 → IsLen x (r + m)), ?_, ?_⟩
  · have fin : ∀ r, IsLen y r → r ≤ 32 → IsLen x (r + n) := by
      intro r hr h32
      rcases hyx r hr h32 with h | ⟨rfl, rfl⟩
      · exact h
      · exact hr
    refine IFB_dec (fun h => ⟨rfl, y / 2 ^ 16, n + 16, ?_, by omega, by omega, fun r hr h16 => ?_⟩) (fun h => ⟨rfl, y, n, rfl, by omega, by omega, fun r hr h16 => fin r hr (by omega)⟩)
    · rw [show min 16 64 = 16 from rfl, fdiv_pow, wrap_i64 (by omega) (by omega)]
      rfl
    · have := fin _ (hr.shift (s := 16) (by omega)) (by omega)
      rwa [Nat.add_assoc, Nat.add_comm 16] at this
  rintro _ _ w2 ⟨rfl, z, m, hst, hz, hm, hzx⟩
  cases hst
  have e256 : ((ByteArray.size lenT : Nat) : Int) = 256 := by rw [lenT_size]; rfl
  refine IFB_dec (fun h => ?_) (fun h => ?_)
  · rw [show min 8 64 = 8 from rfl, fdiv_pow, wrap_u8_id (by omega) (by omega)]
    have hlt : z / 2 ^ 8 < 256 := by omega
    have ht := lenT_is hlt
    refine ⟨⟨by omega, by show _ < ((ByteArray.size lenT : Nat) : Int); omega⟩, (sget lenT (z / 2 ^ 8)).toNat + 8 + m, ?_, ?_, by omega, rfl⟩
    · have hT : ∀ i, (sget lenT i).toNat < 256 := fun i => UInt8.toNat_lt _
      show Value.int .i64 (IntKind.i64.wrap (IntKind.i64.wrap ((m : Int) + 8) + IntKind.i64.wrap ((sget lenT ((z / 2 ^ 8 : Nat) : Int).toNat).toNat : Int))) = _
      rw [Int.toNat_natCast, wrap_i64 (n := (m : Int) + 8) (by omega) (by omega), wrap_i64 (n := ((sget lenT (z / 2 ^ 8)).toNat : Int)) (by omega) (by omega), wrap_i64 (by omega) (by omega)]
      congr 1
      omega
    · exact hzx _ (ht.1.shift (s := 8) (by omega)) (by omega)
  · have hlt : z < 256 := by omega
    have ht := lenT_is hlt
    rw [wrap_u8_id (by omega) (by omega)]
    refine ⟨⟨by omega, by show _ < ((ByteArray.size lenT : Nat) : Int); omega⟩, (sget lenT z).toNat + m, ?_, ?_, by omega, rfl⟩
    · show Value.int .i64 (IntKind.i64.wrap ((m : Int) + IntKind.i64.wrap ((sget lenT ((z : Nat) : Int).toNat).toNat : Int))) = _
      rw [Int.toNat_natCast, wrap_i64 (n := ((sget lenT z).toNat : Int)) (by omega) (by omega), wrap_i64 (by omega) (by omega)]
      congr 1
      omega
    · exact hzx _ ht.1 (by omega)
end Go.Proofs.YtbkffpcgppecgaaGreat

/-
  Sizes and widths of lists of numbers: both sides.
-/
namespace Go.Proofs.YtbkffpcgppecgaaGreat
open Go.Dn Go.Proofs
open Go.RowKit (Below)
set_option linter.unusedVariables false
set_option maxRecDepth 20000

def u64V (x : Nat) : Value := .int .u64 (x : Int)
def orL (xs : List Nat) : Nat := xs.foldl (· ||| ·) 0
theorem or_lt {a b w : Nat} : a ||| b < 2 ^ w ↔ a < 2 ^ w ∧ b < 2 ^ w :=
  ⟨fun h => ⟨Nat.lt_of_le_of_lt Nat.left_le_or h, Nat.lt_of_le_of_lt Nat.right_le_or h⟩, fun h => Nat.or_lt_two_pow h.1 h.2⟩
theorem foldl_or (xs : List Nat) (a w : Nat) : xs.foldl (· ||| ·) a < 2 ^ w ↔ a < 2 ^ w ∧ ∀ x ∈ xs, x < 2 ^ w := by
  induction xs generalizing a with
  | nil => simp
  | cons x xs ih => rw [List.foldl_cons, ih, or_lt]; simp [and_assoc]
theorem orL_lt (xs : List Nat) (w : Nat) : orL xs < 2 ^ w ↔ ∀ x ∈ xs, x < 2 ^ w := by
  unfold orL
  rw [foldl_or]
  simp [Nat.two_pow_pos]
theorem orL_take {xs : List Nat} {k : Nat} (hk : k < xs.length) : orL (xs.take (k + 1)) = orL (xs.take k) ||| xs[k] := by
  unfold orL
  rw [List.take_succ_eq_append_getElem hk, List.foldl_append]
  rfl
theorem or64 {a b : Nat} (ha : a < 18446744073709551616) (hb : b < 18446744073709551616) : IntKind.u64.wrap (((BitVec.ofInt 64 (a : Int) ||| BitVec.ofInt 64 (b : Int)).toNat : Int)) = ((a ||| b : Nat) : Int) := by
  have e : (BitVec.ofInt 64 (a : Int) ||| BitVec.ofInt 64 (b : Int)).toNat = a ||| b := by
    rw [BitVec.toNat_or, BitVec.ofInt_natCast, BitVec.ofInt_natCast, BitVec.toNat_ofNat, BitVec.toNat_ofNat, Nat.mod_eq_of_lt (by omega), Nat.mod_eq_of_lt (by omega)]
  have := (or_lt (w := 64)).2 ⟨ha, hb⟩
  rw [e, wrap_u64_id (by omega) (by omega)]
theorem num_at {w : World} {a : Option Addr} {xs : List Nat} (hl : Rd w a (xs.map u64V)) {i : Nat} (hi : i < xs.length) : ∃ p, a = some p ∧ w.cell? (p.add (i * 1)) = some (.int .u64 (xs[i] : Int)) := by
  obtain ⟨p, hp, hc⟩ := hl i (u64V xs[i]) (by simp [hi])
  exact ⟨p, hp, by rw [Nat.mul_one]; exact hc⟩

section
variable {w : World} {a : Option Addr} {c : Nat} {xs : List Nat}
theorem pack_Width_ok (hl : Rd w a (xs.map u64V)) (hn : xs.length ≤ 140737488355328) (hx : ∀ x ∈ xs, x < 18446744073709551616) :
    Calls Tryz.prog f.pack_Width #[.slice a xs.length c] w (Ret fun v w' => ∃ r : Nat, v = .int .i64 (r : Int) ∧ IsLen (orL xs) r ∧ r ≤ 64 ∧ w' = w) := by
  apply R.pack_Width_calls
  unfold R.pack_Width
  refine ⟨fun s w1 => w1 = w ∧ ∃ k : Nat, k ≤ xs.length ∧ s = [.int .u64 (orL (xs.take k) : Int), .int .i64 (k : Int)], fun s _ => match s with
      | [_, .int _ i] => xs.length - i.toNat
      | _ => 0, ⟨rfl, 0, by omega, rfl⟩, ?_⟩
  rintro _ _ w1 ⟨rfl, k, hk, hs⟩
  cases hs
  have hall : orL (xs.take k) < 18446744073709551616 := (orL_lt (xs.take k) 64).2 fun x h => hx x (List.mem_of_mem_take h)
  refine IFB_dec (fun hlt => ⟨⟨by omega, hlt⟩, ?_⟩) (fun hge => ?_)
  · have hkl : k < xs.length := by omega
    obtain ⟨p, rfl, hc⟩ := num_at hl hkl
    refine ⟨_, by rw [Int.toNat_natCast]; exact hc, ?_⟩
    have hxk := hx _ (List.getElem_mem hkl)
    rw [or64 hall hxk, wrap_succ (by omega), ← orL_take hkl]
    refine ⟨⟨rfl, k + 1, by omega, rfl⟩, ?_⟩
    simp only [Int.toNat_natCast]
    omega
  · have hkk : xs.take k = xs := List.take_of_length_le (by omega)
    rw [hkk] at hall ⊢
    refine (Len64_ok w1 (orL xs) hall).mono ?_
    rintro _ w2 ⟨_, rfl, r, rfl, h1, h2, rfl⟩
    exact ⟨_, rfl, r, rfl, h1, h2, rfl⟩
end

theorem pack_Size_ok (w : World) (n wd : Int) : Calls Tryz.prog f.pack_Size #[.int .i64 n, .int .i64 wd] w (Ret fun v w' => w' = w ∧ v = (if 0 ≤ n ∧ n ≤ 4096 ∧ 0 ≤ wd ∧ wd ≤ 64 then .tuple #[.int .i64 ((n * wd + 7) / 8), .int .i64 0] else .tuple #[.int .i64 0, .int .i64 2])) := by
  apply R.pack_Size_calls
  unfold R.pack_Size
  refine IFB_dec (fun h => ⟨rfl, by rw [if_neg (by omega)]⟩) (fun h1 => IFB_dec (fun h => ⟨rfl, by rw [if_neg (by omega)]⟩) (fun h2 => IFB_dec (fun h => ⟨rfl, by rw [if_neg (by omega)]⟩) (fun h3 => IFB_dec (fun h => ⟨rfl, by rw [if_neg (by omega)]⟩) (fun h4 => ⟨rfl, ?_⟩))))
  have hm : 0 ≤ n * wd := Int.mul_nonneg (by omega) (by omega)
  have hm2 : n * wd ≤ 4096 * 64 := Int.mul_le_mul (by omega) (by omega) (by omega) (by omega)
  rw [if_pos (by omega), wrap_i64 (n := n * wd) (by omega) (by omega), wrap_i64 (n := n * wd + 7) (by omega) (by omega), Int.tdiv_eq_ediv_of_nonneg (by omega), wrap_i64 (by omega) (by omega)]
theorem ref_Size_ok (w : World) (n wd : Int) : Calls Tryz.prog f.ref01_Size #[.int .i64 n, .int .i64 wd] w (Ret fun v w' => w' = w ∧ v = (if 0 ≤ n ∧ n ≤ 4096 ∧ 0 ≤ wd ∧ wd ≤ 64 then .tuple #[.int .i64 ((n * wd + 7) / 8), .int .i64 0] else .tuple #[.int .i64 0, .int .i64 2])) := by
  apply R.ref01_Size_calls
  unfold R.ref01_Size
  have hw : Calls Tryz.prog f.ref01_isWidth #[.int .i64 wd] w (Ret fun v w' => w' = w ∧ v = .bool (decide (0 ≤ wd ∧ wd ≤ 64))) := by
    apply R.ref01_isWidth_calls
    unfold R.ref01_isWidth
    refine IFB_dec (fun h => ⟨rfl, ?_⟩) (fun h => ⟨rfl, ?_⟩)
    · congr 1
      simp
      omega
    · congr 1
      simp
      omega
  refine hw.mono ?_
  rintro _ w1 ⟨_, rfl, rfl, rfl⟩
  refine ⟨_, rfl, IFB_not (IFB_dec (fun h0 => ?_) (fun h => ⟨rfl, by rw [if_neg (by omega)]⟩))⟩
  refine IFB_dec (fun h => ⟨rfl, by rw [if_neg (by omega)]⟩) (fun h1 => IFB_dec (fun h => ⟨rfl, by rw [if_neg (by omega)]⟩) (fun h2 => ⟨rfl, ?_⟩))
  have hm : 0 ≤ n * wd := Int.mul_nonneg (by omega) (by omega)
  have hm2 : n * wd ≤ 4096 * 64 := Int.mul_le_mul (by omega) (by omega) (by omega) (by omega)
  rw [if_pos (by omega), wrap_i64 (n := n * wd) (by omega) (by omega), wrap_i64 (n := n * wd + 7) (by omega) (by omega), Int.tdiv_eq_ediv_of_nonneg (by omega), wrap_i64 (by omega) (by omega)]

theorem ref_Of_ok (w : World) (x wd : Nat) (hx : x < 18446744073709551616) (hw : wd ≤ 64) : Calls Tryz.prog f.ref01_Of #[.int .u64 (x : Int), .int .i64 (wd : Int)] w (Ret fun v w' => w' = w ∧ v = .bool (decide (x < 2 ^ wd))) := by
  apply R.ref01_Of_calls
  unfold R.ref01_Of
  refine ⟨fun s w1 => w1 = w ∧ ∃ k : Nat, k ≤ wd ∧ s = [.int .u64 ((x / 2 ^ k : Nat) : Int), .int .i64 (k : Int)], fun s _ => match s with
      | [_, .int _ i] => wd - i.toNat
      | _ => 0, ⟨rfl, 0, by omega, by simp⟩, ?_⟩
  rintro _ _ w1 ⟨rfl, k, hk, hs⟩
  cases hs
  have hle : x / 2 ^ k ≤ x := Nat.div_le_self _ _
  refine IFB_dec (fun hlt => ?_) (fun hge => ⟨rfl, ?_⟩)
  · have e : IntKind.u64.wrap (Int.tdiv ((x / 2 ^ k : Nat) : Int) 2) = ((x / 2 ^ k / 2 : Nat) : Int) := by
      generalize x / 2 ^ k = y at hle
      rw [Int.tdiv_eq_ediv_of_nonneg (by omega), wrap_u64_id (by omega) (by omega)]
      omega
    rw [e, wrap_succ (by omega)]
    refine ⟨⟨rfl, k + 1, by omega, ?_⟩, ?_⟩
    · rw [Nat.pow_succ, ← Nat.div_div_eq_div_mul]
    · simp only [Int.toNat_natCast]
      omega
  · have : k = wd := by omega
    subst this
    congr 1
    rw [Bool.eq_iff_iff]
    simp only [beq_iff_eq, decide_eq_true_eq]
    have hp : 0 < 2 ^ k := Nat.two_pow_pos k
    constructor
    · intro h
      have h0 : x / 2 ^ k = 0 := by omega
      exact (Nat.div_eq_zero_iff_lt hp).1 h0
    · intro h
      have h0 := (Nat.div_eq_zero_iff_lt hp).2 h
      omega

section
variable {w : World} {a : Option Addr} {c : Nat} {xs : List Nat}
theorem ref_Width_ok (hl : Rd w a (xs.map u64V)) (hn : xs.length ≤ 140737488355328) (hx : ∀ x ∈ xs, x < 18446744073709551616) :
    Calls Tryz.prog f.ref01_Width #[.slice a xs.length c] w (Ret fun v w' => ∃ r : Nat, v = .int .i64 (r : Int) ∧ IsLen (orL xs) r ∧ r ≤ 64 ∧ w' = w) := by
  apply R.ref01_Width_calls
  unfold R.ref01_Width
  refine ⟨fun s w1 => w1 = w ∧ ∃ k r : Nat, k ≤ xs.length ∧ r ≤ 64 ∧ IsLen (orL (xs.take k)) r ∧ s = [.int .i64 (r : Int), .int .i64 (k : Int)], fun s _ => match s with
      | [_, .int _ i] => xs.length - i.toNat
      | _ => 0, ⟨rfl, 0, 0, by omega, by omega, ⟨by simp [orL], .inl rfl⟩, rfl⟩, ?_⟩
  rintro _ _ w1 ⟨rfl, k, r, hk, hr, hlen, hs⟩
  cases hs
  refine IFB_dec (fun hlt => ⟨⟨by omega, hlt⟩, ?_⟩) (fun hge => ?_)
  · have hkl : k < xs.length := by omega
    have hxk := hx _ (List.getElem_mem hkl)
    obtain ⟨p, rfl, hc⟩ := num_at hl hkl
    refine ⟨_, by rw [Int.toNat_natCast]; exact hc, (ref_Of_ok w1 xs[k] r hxk hr).mono ?_⟩
    rintro _ w2 ⟨_, rfl, rfl, rfl⟩
    refine ⟨_, rfl, ?_⟩
    refine ⟨fun s w3 => w3 = w2 ∧ ∃ q : Nat, r ≤ q ∧ q ≤ 64 ∧ (q = r ∨ ¬ xs[k] < 2 ^ (q - 1)) ∧ s = [.int .i64 (q : Int), .bool (decide (xs[k] < 2 ^ q))], fun s _ => match s with
        | [.int _ i, _] => 64 - i.toNat
        | _ => 0, ⟨rfl, r, by omega, by omega, .inl rfl, rfl⟩, ?_⟩
    rintro _ _ w3 ⟨rfl, q, hq1, hq2, hq3, hs⟩
    cases hs
    refine IFB_not (IFB_dec (fun hok => ?_) (fun hno => ⟨⟨by omega, hlt⟩, _, by rw [Int.toNat_natCast]; exact hc, ?_⟩))
    · rw [wrap_succ (by omega)]
      refine ⟨⟨rfl, k + 1, q, by omega, hq2, ?_, rfl⟩, ?_⟩
      · rw [orL_take hkl]
        refine IsLen.of_le fun wd => ?_
        rw [or_lt, ← hlen.le (w := wd)]
        constructor
        · intro h
          exact ⟨by omega, Nat.lt_of_lt_of_le hok (Nat.pow_le_pow_right (by omega) h)⟩
        · rintro ⟨h1, h2⟩
          rcases hq3 with h | h
          · omega
          · rcases Nat.lt_or_ge wd q with hlt2 | hge
            · exact absurd (Nat.lt_of_lt_of_le h2 (Nat.pow_le_pow_right (by omega) (by omega))) h
            · exact hge
      · simp only [Int.toNat_natCast]
        omega
    · have hq64 : q < 64 := by
        rcases Nat.lt_or_ge q 64 with h | h
        · exact h
        · have : q = 64 := by omega
          subst this
          exact absurd hxk hno
      rw [wrap_succ (by omega)]
      refine (ref_Of_ok w3 xs[k] (q + 1) hxk (by omega)).mono ?_
      rintro _ w4 ⟨_, rfl, rfl, rfl⟩
      refine ⟨_, rfl, ⟨rfl, q + 1, by omega, by omega, .inr hno, rfl⟩, ?_⟩
      simp only [Int.toNat_natCast]
      omega
  · have hkk : xs.take k = xs := List.take_of_length_le (by omega)
    rw [hkk] at hlen
    exact ⟨r, rfl, hlen, hr, rfl⟩
end
end Go.Proofs.YtbkffpcgppecgaaGreat

/-
  Numbers of few bits as bytes: both sides.
-/
namespace Go.Proofs.YtbkffpcgppecgaaGreat
open Go.Dn Go.Proofs
open Go.RowKit (Below)
set_option linter.unusedVariables false
set_option maxRecDepth 20000

theorem keeps_putObj (w : World) (l : Nat) (o : Obj) : Keeps (· = l) w (w.putObj l o) :=
  ⟨rfl, rfl, rfl, by simp, fun k _ hn => World.putObj_heap_other hn⟩

/-- the bytes behind t bits -/
def stB (f : Nat → Bool) : Nat → Nat → Nat
  | 0, _ => 0
  | t + 1, j => if j = t / 8 ∧ f t = true then stB f t j ||| 2 ^ (t % 8) else stB f t j
theorem stB_lt (f : Nat → Bool) (t j : Nat) : stB f t j < 256 := by
  induction t with
  | zero => simp [stB]
  | succ t ih =>
    unfold stB
    split
    · exact (or_lt (w := 8)).2 ⟨ih, Nat.pow_lt_pow_right (by omega) (by omega)⟩
    · exact ih
def bitA (xs : List Nat) (w t : Nat) : Bool := (xs.getD (t / w) 0).testBit (t % w)
def sizeN (n w : Nat) : Nat := (n * w + 7) / 8
def packL (xs : List Nat) (w : Nat) : List UInt8 := (List.range (sizeN xs.length w)).map fun j => UInt8.ofNat (stB (bitA xs w) (xs.length * w) j)
theorem packL_len (xs : List Nat) (w : Nat) : (packL xs w).length = sizeN xs.length w := by simp [packL]
def rowC (f : Nat → Bool) (m t : Nat) : Array Value := ⟨(List.range m).map fun j => .int .u8 (stB f t j : Int)⟩
theorem rowC_size (f : Nat → Bool) (m t : Nat) : (rowC f m t).size = m := by simp [rowC]
theorem rowC_get {f : Nat → Bool} {m t j : Nat} (h : j < m) : (rowC f m t)[j]? = some (.int .u8 (stB f t j : Int)) := by simp [rowC, h]
theorem rowC_set {f : Nat → Bool} {m t : Nat} (v : Nat) (hv : v = stB f (t + 1) (t / 8)) : (rowC f m t).setIfInBounds (t / 8) (.int .u8 (v : Int)) = rowC f m (t + 1) := by
  apply Array.ext'
  apply List.ext_getElem?
  intro i
  simp only [Array.toList_setIfInBounds, rowC, List.getElem?_set, List.length_map, List.length_range]
  by_cases h : t / 8 = i
  · subst h
    by_cases h2 : t / 8 < m
    · simp [h2, hv]
    · simp [h2]
  · have e : stB f (t + 1) i = stB f t i := by
      conv => lhs; unfold stB
      rw [if_neg (by omega)]
    by_cases h2 : i < m
    · simp [h, h2, e]
    · simp [h, h2]
theorem rowC_zero (f : Nat → Bool) (m : Nat) : madeCells (Value.int .u8 0).cells (m * 1) = rowC f m 0 := by
  apply Array.ext'
  rw [madeCells_one _ rfl]
  simp [rowC, stB, List.map_const']
theorem rowC_end (xs : List Nat) (w : Nat) : (rowC (bitA xs w) (sizeN xs.length w) (xs.length * w)).toList = (packL xs w).map byteV := by
  simp only [rowC, packL, List.map_map]
  apply List.map_congr_left
  intro j _
  have := stB_lt (bitA xs w) (xs.length * w) j
  exact byteV_of this

/-! ### words of the program -/
theorem bit_prog {x k : Nat} (hx : x < 18446744073709551616) (hk : k < 64) : IntKind.u8.wrap (IntKind.u64.wrap (((BitVec.ofInt 64 (Int.fdiv (x : Int) (2 ^ (min k 64))) &&& BitVec.ofInt 64 1).toNat : Int))) = ((x.testBit k).toNat : Int) := by
  rw [show min k 64 = k by omega, fdiv_pow]
  have hle : x / 2 ^ k ≤ x := Nat.div_le_self _ _
  have e : (BitVec.ofInt 64 ((x / 2 ^ k : Nat) : Int) &&& BitVec.ofInt 64 1).toNat = x / 2 ^ k % 2 := by
    rw [BitVec.toNat_and, BitVec.ofInt_natCast, BitVec.toNat_ofNat, Nat.mod_eq_of_lt (by omega)]
    exact Nat.and_two_pow_sub_one_eq_mod _ 1
  rw [e]
  have hm : x / 2 ^ k % 2 < 2 := Nat.mod_lt _ (by omega)
  rw [Nat.testBit_eq_decide_div_mod_eq]
  generalize x / 2 ^ k % 2 = y at hm
  rw [wrap_u64_id (by omega) (by omega), wrap_u8_id (by omega) (by omega)]
  rcases (by omega : y = 0 ∨ y = 1) with rfl | rfl <;> rfl
theorem and7 {t : Nat} (ht : t < 9223372036854775808) : IntKind.i64.wrap (((BitVec.ofInt 64 (t : Int) &&& BitVec.ofInt 64 7).toNat : Int)) = ((t % 8 : Nat) : Int) := by
  have e : (BitVec.ofInt 64 (t : Int) &&& BitVec.ofInt 64 7).toNat = t % 8 := by
    rw [BitVec.toNat_and, BitVec.ofInt_natCast, BitVec.toNat_ofNat, Nat.mod_eq_of_lt (by omega)]
    exact Nat.and_two_pow_sub_one_eq_mod _ 3
  rw [e, wrap_i64 (by omega) (by omega)]
theorem or8 {a b : Nat} (ha : a < 256) (hb : b < 256) : IntKind.u8.wrap (((BitVec.ofInt 8 (a : Int) ||| BitVec.ofInt 8 (b : Int)).toNat : Int)) = ((a ||| b : Nat) : Int) := by
  have e : (BitVec.ofInt 8 (a : Int) ||| BitVec.ofInt 8 (b : Int)).toNat = a ||| b := by
    rw [BitVec.toNat_or, BitVec.ofInt_natCast, BitVec.ofInt_natCast, BitVec.toNat_ofNat, BitVec.toNat_ofNat, Nat.mod_eq_of_lt (by omega), Nat.mod_eq_of_lt (by omega)]
  have := (or_lt (w := 8)).2 ⟨ha, hb⟩
  rw [e, wrap_u8_id (by omega) (by omega)]
theorem shl_bit {b : Bool} {s : Nat} (hs : s < 8) : IntKind.u8.wrap ((b.toNat : Int) * 2 ^ (min s 8)) = ((b.toNat * 2 ^ s : Nat) : Int) := by
  have hp : 2 ^ s < 2 ^ 8 := Nat.pow_lt_pow_right (by omega) hs
  rw [show min s 8 = s by omega]
  have e : ((b.toNat : Int) * 2 ^ s) = ((b.toNat * 2 ^ s : Nat) : Int) := by norm_cast
  rw [e]
  cases b
  · simp; decide
  · simp only [Bool.toNat_true, Nat.one_mul]
    generalize 2 ^ s = y at hp
    rw [wrap_u8_id (by omega) (by omega)]
theorem stB_step (f : Nat → Bool) (t : Nat) : stB f t (t / 8) ||| (f t).toNat * 2 ^ (t % 8) = stB f (t + 1) (t / 8) := by
  conv => rhs; unfold stB
  cases h : f t
  · simp
  · simp

/-! ### the iterator -/
theorem pack_places_ok (w : World) (n wd : Int) : Calls Tryz.prog f.pack_places #[.int .i64 n, .int .i64 wd] w (Ret fun v w' => ∃ b1 b2, v = .func (.func f.pack_places_c1) #[] #[.pointer (some ⟨b1, 0, none⟩), .pointer (some ⟨b2, 0, none⟩)] ∧ SH (fun _ => False) w w' [(b2, #[.int .i64 wd], ty.int), (b1, #[.int .i64 n], ty.int)]) := by
  apply R.pack_places_calls
  unfold R.pack_places
  exact (SH.start (fun _ => False) w).newB fun b1 w1 _ _ S1 => S1.newB fun b2 w2 _ _ S2 => ⟨b1, b2, rfl, S2⟩
theorem places_ok {n wd l b1 b2 : Nat} (hn : n ≤ 4096) (hw : wd ≤ 64) (J : Nat → World → Prop)
    (hcell : ∀ t w, J t w → w.cell? ⟨b1, 0, none⟩ = some (.int .i64 (n : Int)) ∧ w.cell? ⟨b2, 0, none⟩ = some (.int .i64 (wd : Int))) (hdrew : ∀ t w, J t w → J t w.drew)
    (hstep : ∀ t, t < n * wd → ∀ w, J t w → YLD Tryz.prog l #[.int .i64 ((t / wd : Nat) : Int), .int .i64 ((t % wd : Nat) : Int)] (fun y w' => y = true ∧ J (t + 1) w') w)
    {w : World} (h0 : J 0 w) : Calls Tryz.prog f.pack_places_c1 #[.func (.yield l) #[] #[], .pointer (some ⟨b1, 0, none⟩), .pointer (some ⟨b2, 0, none⟩)] w (Ret fun _ w' => J (n * wd) w') := by
  have hm : n * wd ≤ 4096 * 64 := Nat.mul_le_mul hn hw
  apply R.pack_places_c1_calls
  unfold R.pack_places_c1
  refine ⟨fun s w1 => ∃ t : Nat, t ≤ n * wd ∧ s = [.int .i64 (t : Int)] ∧ J t w1, fun s _ => match s with
      | [.int _ i] => n * wd - i.toNat
      | _ => 0, ⟨0, by omega, rfl, h0⟩, ?_⟩
  rintro _ w1 ⟨t, ht, hs, hj⟩
  cases hs
  obtain ⟨c1, c2⟩ := hcell t w1 hj
  refine ⟨_, c1, _, c2, ?_⟩
  have em : IntKind.i64.wrap ((n : Int) * (wd : Int)) = ((n * wd : Nat) : Int) := by rw [← Int.natCast_mul, wrap_i64 (by omega) (by omega)]
  rw [em]
  refine IFB_dec (fun hlt => ?_) (fun hge => ?_)
  · have hlt' : t < n * wd := by omega
    have hw0 : wd ≠ 0 := by rintro rfl; simp at hlt'
    have hj2 := hdrew t w1 hj
    obtain ⟨d1, d2⟩ := hcell t _ hj2
    refine ⟨_, d2, by omega, _, d2, by omega, ?_⟩
    have e1 : IntKind.i64.wrap (Int.tdiv (t : Int) (wd : Int)) = ((t / wd : Nat) : Int) := by
      have hle : t / wd ≤ t := Nat.div_le_self _ _
      have : Int.tdiv (t : Int) (wd : Int) = ((t / wd : Nat) : Int) := by rw [Int.tdiv_eq_ediv_of_nonneg (by omega)]; norm_cast
      rw [this]
      generalize t / wd = q at hle
      rw [wrap_i64 (by omega) (by omega)]
    have e2 : Int.tmod (t : Int) (wd : Int) = ((t % wd : Nat) : Int) := by rw [Int.tmod_eq_emod_of_nonneg (by omega)]; norm_cast
    rw [e1, e2]
    obtain ⟨fn, tm, asg, bo, hy, hr⟩ := hstep t hlt' _ hj2
    refine ⟨fn, tm, asg, bo, hy, hr.mono ?_⟩
    rintro e w3 ⟨y, he, rfl, hj3⟩
    refine ⟨true, he, IFB_false ?_⟩
    rw [wrap_succ (by omega)]
    refine ⟨⟨t + 1, by omega, rfl, hj3⟩, ?_⟩
    simp only [Int.toNat_natCast]
    omega
  · have : t = n * wd := by omega
    rw [this] at hj
    exact hj
end Go.Proofs.YtbkffpcgppecgaaGreat

/-
  Pack, by the program.
-/
namespace Go.Proofs.YtbkffpcgppecgaaGreat
open Go.Dn Go.Proofs
open Go.RowKit (Below)
set_option linter.unusedVariables false
set_option maxRecDepth 20000

theorem rr_eta {rr : Loop} (h1 : rr.state = .ready) (h2 : rr.pending = none) : ({ rr with state := if (none : Option Code).isNone then .ready else .done, pending := none } : Loop) = rr := by
  cases rr
  simp_all
section
variable {w : World} {a : Option Addr} {c : Nat} {xs : List Nat}
theorem pack_Pack_ok (hl : Rd w a (xs.map u64V)) (hn : xs.length ≤ 4096) {wd : Nat} (hw : wd ≤ 64) (hx : ∀ x ∈ xs, x < 2 ^ wd) :
    Calls Tryz.prog f.pack_Pack #[.int .i64 (wd : Int), .slice a xs.length c] w (Ret fun v w' => ∃ a' c', v = .tuple #[.slice a' (packL xs wd).length c', .int .i64 0] ∧ NewB w w' (packL xs wd) a' c') := by
  have h64 : (2 : Nat) ^ wd ≤ 2 ^ 64 := Nat.pow_le_pow_right (by omega) hw
  have hx64 : ∀ x ∈ xs, x < 18446744073709551616 := fun x h => Nat.lt_of_lt_of_le (hx x h) h64
  have hm : xs.length * wd ≤ 4096 * 64 := Nat.mul_le_mul hn hw
  obtain ⟨m, hmd⟩ : ∃ m, m = sizeN xs.length wd := ⟨_, rfl⟩
  have hmv : m = (xs.length * wd + 7) / 8 := hmd
  apply R.pack_Pack_calls
  unfold R.pack_Pack
  refine (SH.start (fun _ => False) w).newB fun b3 w1 hb3 B1 S1 => S1.newB fun b4 w2 hb4 B2 S2 => ⟨_, _, _, S2.cell 0 rfl rfl, _, S2.cell 1 rfl rfl, (pack_Size_ok w2 (xs.length : Int) (wd : Int)).mono ?_⟩
  rintro _ w3 ⟨_, rfl, rfl, rfl⟩
  rw [if_pos ⟨by omega, by omega, by omega, by omega⟩]
  refine ⟨_, _, rfl, S2.drawB fun w4 B4 S4 => IFB_ne (fun h => absurd rfl h) (fun _ => ⟨_, _, _, S4.cell 0 rfl rfl, _, S4.cell 1 rfl rfl, (pack_Width_ok (hl.grown S4.below) (by omega) hx64).mono ?_⟩)⟩
  rintro _ w5 ⟨_, rfl, r, rfl, hr, hr64, rfl⟩
  have hrw : r ≤ wd := hr.le.2 ((orL_lt xs wd).2 hx)
  refine ⟨_, rfl, S4.cell 1 rfl rfl, IFB_dec (fun h => by omega) (fun _ => ?_)⟩
  have em : ((xs.length : Int) * (wd : Int) + 7) / 8 = (m : Int) := by
    rw [hmv]
    have : ((xs.length : Int) * (wd : Int)) = ((xs.length * wd : Nat) : Int) := by norm_cast
    rw [this]
    omega
  rw [em]
  refine make_new tB (l := (m : Int)) (c := (m : Int)) (by omega) (by omega) (by omega) (by omega) fun bo w6 hbo B6 hO6 => ?_
  rw [Int.toNat_natCast, rowC_zero (bitA xs wd) m] at hO6
  rw [Int.toNat_natCast]
  have S6 := S4.grown B6
  refine ⟨_, _, _, rfl, S6.newB fun b16 w7 hb16 B7 S7 => S7.stoK 0 rfl (show 0 < 1 by decide) fun w8 K8 S8 => ⟨_, _, _, S8.cell 1 rfl rfl, _, S8.cell 2 rfl rfl, (pack_places_ok w8 (xs.length : Int) (wd : Int)).mono ?_⟩⟩
  rintro _ w9 ⟨_, rfl, b1, b2, rfl, P9⟩
  have S9 := S8.grown P9.below
  have hbo6 : bo < w6.heap.size := (Array.getElem?_eq_some_iff.1 hO6).1
  have hO7 := (Keeps.of_below (F := fun _ => False) B7).at hO6 (by simp)
  have hO8 := K8.at hO7 (show ¬ bo = b16 by omega)
  have hO9 := (Keeps.of_below (F := fun _ => False) P9.below).at hO8 (by simp)
  have hbo0 : w.heap.size ≤ bo := Nat.le_trans S4.below.size hbo
  have hbo9 : bo < w9.heap.size := (Array.getElem?_eq_some_iff.1 hO9).1
  have hb49 := S9.lt (x := (b4, _, _)) (List.mem_cons_of_mem _ (List.mem_cons_self ..))
  have hb39 := S9.lt (x := (b3, _, _)) (List.mem_cons_of_mem _ (List.mem_cons_of_mem _ (List.mem_cons_self ..)))
  have hb169 := S9.lt (x := (b16, _, _)) (List.mem_cons_self ..)
  have hb28 := P9.own (b2, _, _) (List.mem_cons_self ..)
  have hb18 := P9.own (b1, _, _) (List.mem_cons_of_mem _ (List.mem_cons_self ..))
  have hb29 := P9.lt (x := (b2, _, _)) (List.mem_cons_self ..)
  have hb19 := P9.lt (x := (b1, _, _)) (List.mem_cons_of_mem _ (List.mem_cons_self ..))
  refine ⟨_, _, _, rfl, by kernel_rfl, fun rr hst hpe hy => ?_⟩
  obtain ⟨W1, hW1⟩ : ∃ W1, W1 = (w9.alloc (.deferred (some []))).alloc (.loop rr) := ⟨_, rfl⟩
  rw [← hW1]
  have B91 : Below w9.heap.size w9 W1 := by rw [hW1]; exact (((Below.refl _ w9).alloc (Nat.le_refl _) _).alloc (by simp) _)
  have sz1 : W1.heap.size = w9.heap.size + 2 := by rw [hW1]; simp
  have hL1 : W1.heap[w9.heap.size + 1]? = some (.loop rr) := by
    rw [hW1]; have := World.alloc_heap_new (w9.alloc (.deferred (some []))) (.loop rr); rwa [World.size_alloc] at this
  have hD1 : W1.heap[w9.heap.size]? = some (.deferred (some [])) := by
    rw [hW1]; exact (Below.heap_alloc _ _ _ (by simp)).trans (World.alloc_heap_new w9 _)
  have K91 := Keeps.of_below (F := fun _ => False) B91
  have hO1 := K91.at hO9 (by simp)
  obtain ⟨L, hLd⟩ : ∃ L, L = w9.heap.size + 1 := ⟨_, rfl⟩
  rw [← hLd] at hL1 hy ⊢
  have Bw1 : Below w.heap.size w W1 := S9.below.trans (B91.mono S9.below.size)
  have w09 := S9.below.size
  -- what holds through the rounds
  have low : ∀ {w' : World}, Keeps (fun k => k = bo ∨ k = L) W1 w' → Below w.heap.size w w' := fun K => Bw1.trans (K.below Bw1.size fun k hk h => by omega)
  have hc3 : ∀ {w' : World}, Keeps (fun k => k = bo ∨ k = L) W1 w' → w'.cell? ⟨b3, 0, none⟩ = some (.int .i64 (wd : Int)) := fun K => K.cell (K91.cell (S9.cell 2 rfl rfl) (by simp)) (by
    have := S6.lt (x := (b3, _, _)) (List.mem_cons_of_mem _ (List.mem_cons_self ..))
    have h4 := S4.lt (x := (b3, _, _)) (List.mem_cons_of_mem _ (List.mem_cons_self ..))
    show ¬ (b3 = bo ∨ b3 = L)
    omega)
  have hc4 : ∀ {w' : World}, Keeps (fun k => k = bo ∨ k = L) W1 w' → w'.cell? ⟨b4, 0, none⟩ = some (.slice a xs.length c) := fun K => K.cell (K91.cell (S9.cell 1 rfl rfl) (by simp)) (by
    have h4 := S4.lt (x := (b4, _, _)) (List.mem_cons_self ..)
    show ¬ (b4 = bo ∨ b4 = L)
    omega)
  have hc16 : ∀ {w' : World}, Keeps (fun k => k = bo ∨ k = L) W1 w' → w'.cell? ⟨b16, 0, none⟩ = some (.slice (some ⟨bo, 0, none⟩) m m) := fun K => K.cell (K91.cell (S9.cell 0 rfl rfl) (by simp)) (by
    show ¬ (b16 = bo ∨ b16 = L)
    omega)
  have hbo8 : bo < w8.heap.size := (Array.getElem?_eq_some_iff.1 hO8).1
  have e18 : w8.heap.size ≤ b1 := by simpa using hb18
  have e28 : w8.heap.size ≤ b2 := by simpa using hb28
  have hb1 : ∀ {w' : World}, Keeps (fun k => k = bo ∨ k = L) W1 w' → w'.cell? ⟨b1, 0, none⟩ = some (.int .i64 (xs.length : Int)) ∧ w'.cell? ⟨b2, 0, none⟩ = some (.int .i64 (wd : Int)) := fun K =>
    ⟨K.cell (K91.cell (P9.cell 1 rfl rfl) (by simp)) (by show ¬ (b1 = bo ∨ b1 = L); omega), K.cell (K91.cell (P9.cell 0 rfl rfl) (by simp)) (by show ¬ (b2 = bo ∨ b2 = L); omega)⟩
  have hyp : ∀ t, t < xs.length * wd → ∀ wx, (Keeps (fun k => k = bo ∨ k = L) W1 wx ∧ wx.heap[bo]? = some (.cells (rowC (bitA xs wd) m t) ty.uint8 (0, 0)) ∧ wx.heap[L]? = some (.loop rr)) →
      YLD Tryz.prog L #[.int .i64 ((t / wd : Nat) : Int), .int .i64 ((t % wd : Nat) : Int)] (fun y w' => y = true ∧ (Keeps (fun k => k = bo ∨ k = L) W1 w' ∧ w'.heap[bo]? = some (.cells (rowC (bitA xs wd) m (t + 1)) ty.uint8 (0, 0)) ∧ w'.heap[L]? = some (.loop rr))) wx := by
    rintro t ht wx ⟨K, hO, hL⟩
    have hw0 : 0 < wd := Nat.pos_of_ne_zero (by rintro rfl; simp at ht)
    have hti : t / wd < xs.length := (Nat.div_lt_iff_lt_mul hw0).2 ht
    have htk : t % wd < wd := Nat.mod_lt _ hw0
    have htm : t / 8 < m := by omega
    refine hy _ _ _ wx hL ⟨hL, ?_⟩
    obtain ⟨w11, hw11⟩ : ∃ w11, w11 = wx.putObj L (.loop { rr with state := .busy }) := ⟨_, rfl⟩
    rw [← hw11]
    have hLlt : L < wx.heap.size := (Array.getElem?_eq_some_iff.1 hL).1
    have K11 : Keeps (fun k => k = L) wx w11 := by rw [hw11]; exact keeps_putObj _ _ _
    have hL11 : w11.heap[L]? = some (.loop { rr with state := .busy }) := by rw [hw11]; exact World.putObj_heap_same hLlt
    have K2 : Keeps (fun k => k = bo ∨ k = L) W1 w11.drew := (K.trans K11 (fun k _ h => .inr h)).drew
    have hO12 : w11.drew.heap[bo]? = some (.cells (rowC (bitA xs wd) m t) ty.uint8 (0, 0)) := K11.at hO (by show ¬ bo = L; omega)
    refine ⟨_, hc3 (K.trans K11 (fun k _ h => .inr h)), ?_⟩
    unfold DRAW
    have et : IntKind.i64.wrap (IntKind.i64.wrap (((t / wd : Nat) : Int) * (wd : Int)) + ((t % wd : Nat) : Int)) = (t : Int) := by
      have h1 : ((t / wd : Nat) : Int) * (wd : Int) = ((t / wd * wd : Nat) : Int) := by rw [Int.natCast_mul]
      have h2 := Nat.div_add_mod t wd
      rw [Nat.mul_comm] at h2
      rw [h1]
      generalize t / wd * wd = q at h2
      generalize t % wd = r' at h2
      rw [wrap_i64 (n := (q : Int)) (by omega) (by omega), wrap_i64 (by omega) (by omega)]
      omega
    have ed : Int.fdiv (t : Int) (2 ^ (min 3 64)) = ((t / 8 : Nat) : Int) := fdiv_pow t 3
    rw [et, ed]
    refine ⟨_, _, _, hc16 K2, ⟨by omega, by omega⟩, ?_⟩
    rw [Int.toNat_natCast]
    have ea : (⟨bo, 0, none⟩ : Addr).add (t / 8 * 1) = ⟨bo, t / 8, none⟩ := by rw [addr_add_blk]; simp
    obtain ⟨p, rfl, hc⟩ := num_at (hl.grown (low K2)) hti
    show ∃ n : Int, w11.drew.cell? ((⟨bo, 0, none⟩ : Addr).add (t / 8 * 1)) = some (.int .u8 n) ∧ _
    rw [ea]
    have hcell : w11.drew.cell? ⟨bo, t / 8, none⟩ = some (.int .u8 (stB (bitA xs wd) t (t / 8) : Int)) := by
      simp only [World.cell?, hO12]
      simpa using rowC_get htm
    refine ⟨_, hcell, _, _, _, hc4 K2, ⟨Int.natCast_nonneg _, by exact_mod_cast hti⟩, _, by rw [Int.toNat_natCast]; exact hc, Int.natCast_nonneg _, ?_⟩
    rw [and7 (by omega), Int.toNat_natCast, Int.toNat_natCast, bit_prog (hx64 _ (List.getElem_mem hti)) (by omega), shl_bit (Nat.mod_lt _ (by omega))]
    have hbit : xs[t / wd].testBit (t % wd) = bitA xs wd t := by simp [bitA, List.getD, hti]
    rw [hbit]
    have hsh : (bitA xs wd t).toNat * 2 ^ (t % 8) < 256 := by
      have : 2 ^ (t % 8) < 2 ^ 8 := Nat.pow_lt_pow_right (by omega) (Nat.mod_lt _ (by omega))
      cases bitA xs wd t
      · simp
      · simpa using this
    rw [or8 (stB_lt _ _ _) hsh, stB_step]
    refine ⟨by omega, ⟨by omega, by omega⟩, ?_⟩
    show STO ((⟨bo, 0, none⟩ : Addr).add (t / 8 * 1)) _ _ _
    rw [ea]
    refine sto_blk hO12 (by rw [rowC_size]; exact htm) fun w13 K13 hO13 => ?_
    have hL13 : w13.heap[L]? = some (.loop { rr with state := .busy }) := K13.at (show w11.drew.heap[L]? = _ from hL11) (by show ¬ L = bo; omega)
    refine ⟨hL13, rfl, ?_⟩
    rw [rr_eta hst hpe]
    rw [rowC_set _ rfl] at hO13
    have hlt13 : L < w13.heap.size := (Array.getElem?_eq_some_iff.1 hL13).1
    refine ⟨(K2.trans K13 (fun k _ h => .inl h)).trans (keeps_putObj _ _ _) (fun k _ h => .inr h), ?_, World.putObj_heap_same hlt13⟩
    exact (World.putObj_heap_other (by omega)).trans hO13
  refine (places_ok (l := L) (b1 := b1) (b2 := b2) hn hw (fun t wx => Keeps (fun k => k = bo ∨ k = L) W1 wx ∧ wx.heap[bo]? = some (.cells (rowC (bitA xs wd) m t) ty.uint8 (0, 0)) ∧ wx.heap[L]? = some (.loop rr))
    (fun t wx hj => hb1 hj.1) (fun t wx hj => ⟨hj.1.drew, hj.2.1, hj.2.2⟩) hyp ⟨.refl _ _, hO1, hL1⟩).mono ?_
  rintro _ w14 ⟨_, rfl, K14, hO14, hL14⟩
  have hlt14 : L < w14.heap.size := (Array.getElem?_eq_some_iff.1 hL14).1
  refine ⟨⟨_, rfl⟩, none, by rw [rr_eta hst hpe]; exact hL14, rfl, ?_⟩
  obtain ⟨w15, hw15⟩ : ∃ w15, w15 = w14.putObj L (.loop { rr with state := .exhausted, pending := none }) := ⟨_, rfl⟩
  rw [← hw15]
  have K15 : Keeps (fun k => k = bo ∨ k = L) W1 w15 := by rw [hw15]; exact K14.trans (keeps_putObj _ _ _) (fun k _ h => .inr h)
  have hO15 : w15.heap[bo]? = some (.cells (rowC (bitA xs wd) m (xs.length * wd)) ty.uint8 (0, 0)) := by rw [hw15]; exact (World.putObj_heap_other (by omega)).trans hO14
  have hD15 : w15.heap[w9.heap.size]? = some (.deferred (some [])) := K15.at hD1 (by show ¬ (w9.heap.size = bo ∨ w9.heap.size = L); omega)
  have B15 := low K15
  refine ⟨_, _, _, hc16 K15, hD15, some ⟨bo, 0, none⟩, m, ?_, ?_⟩
  · rw [packL_len, ← hmd]
  · refine ⟨⟨by simp, .inr ⟨bo, rowC (bitA xs wd) m (xs.length * wd), rfl, (World.putObj_heap_other (by omega)).trans hO15, ?_, by omega, by rw [rowC_size]; omega, ?_⟩⟩, fun k hk => ?_, B15.trans ((keeps_putObj w15 w9.heap.size _).below B15.size fun k hk he => by omega)⟩
    · rw [packL_len, ← hmd]; exact Nat.le_refl _
    · have e := rowC_end xs wd
      rw [← hmd] at e
      rw [e, Nat.mul_one, ← List.length_map (f := byteV), List.take_length]
    · cases hk
      exact hbo0
end
end Go.Proofs.YtbkffpcgppecgaaGreat
