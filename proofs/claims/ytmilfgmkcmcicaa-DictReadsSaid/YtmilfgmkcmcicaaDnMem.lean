/-
  Memory as a list of blocks that are known whole, and what stays as it was.
-/
import Derived.Test.YtmilfgmkcmcicaaDnMain
import Derived.Below
import Derived.Laws.MakeOwn
import Derived.Laws.BytesString
import Derived.Laws.NewBlocks
namespace Go.Dn
open Go.RowKit (Below)

/-! ## What stays -/
/-- w' is w with new blocks, and with changes of blocks in F alone -/
structure Keeps (F : Nat → Prop) (w w' : World) : Prop where
  os : w'.os = w.os
  tape : w'.tape = w.tape
  output : w'.output = w.output
  size : w.heap.size ≤ w'.heap.size
  block : ∀ k, k < w.heap.size → ¬ F k → w'.heap[k]? = w.heap[k]?
theorem Keeps.refl (F : Nat → Prop) (w : World) : Keeps F w w := ⟨rfl, rfl, rfl, Nat.le_refl _, fun _ _ _ => rfl⟩
theorem Keeps.trans {F G : Nat → Prop} {a b c : World} (h : Keeps F a b) (h' : Keeps G b c) (hs : ∀ k, k < a.heap.size → G k → F k) : Keeps F a c :=
  ⟨h'.os.trans h.os, h'.tape.trans h.tape, h'.output.trans h.output, Nat.le_trans h.size h'.size,
    fun k hk hn => (h'.block k (Nat.lt_of_lt_of_le hk h.size) fun hg => hn (hs k hk hg)).trans (h.block k hk hn)⟩
theorem Keeps.mono {F G : Nat → Prop} {a b : World} (h : Keeps F a b) (hs : ∀ k, k < a.heap.size → F k → G k) : Keeps G a b :=
  ⟨h.os, h.tape, h.output, h.size, fun k hk hn => h.block k hk fun hf => hn (hs k hk hf)⟩
theorem Keeps.of_below {F : Nat → Prop} {a b : World} (h : Below a.heap.size a b) : Keeps F a b := ⟨h.os, h.tape, h.output, h.size, fun k hk _ => h.block k hk⟩
theorem Keeps.below {F : Nat → Prop} {a b : World} {B : Nat} (h : Keeps F a b) (hB : B ≤ a.heap.size) (hs : ∀ k, k < B → ¬ F k) : Below B a b :=
  ⟨h.os, h.tape, h.output, h.size, fun k hk => h.block k (Nat.lt_of_lt_of_le hk hB) (hs k hk)⟩
theorem Keeps.alloc {F : Nat → Prop} {a w : World} (h : Keeps F a w) (o : Obj) : Keeps F a (w.alloc o) :=
  ⟨h.os, h.tape, h.output, Nat.le_trans h.size (by simp), fun k hk hn => (Below.heap_alloc w o k (Nat.lt_of_lt_of_le hk h.size)).trans (h.block k hk hn)⟩
theorem Keeps.drew {F : Nat → Prop} {a w : World} (h : Keeps F a w) : Keeps F a w.drew := ⟨h.os, h.tape, h.output, h.size, h.block⟩
theorem Keeps.setCell {F : Nat → Prop} {a w : World} (h : Keeps F a w) {p : Addr} (hp : F p.block ∨ a.heap.size ≤ p.block) (v : Value) : Keeps F a (w.setCell p v) :=
  ⟨h.os, h.tape, h.output, by simpa using h.size, fun k hk hn => by
    rw [Below.heap_setCell w p v k (by rintro rfl; rcases hp with hp | hp; exact hn hp; omega)]
    exact h.block k hk hn⟩
theorem Keeps.cell {F : Nat → Prop} {a b : World} (h : Keeps F a b) {p : Addr} {v : Value} (hc : a.cell? p = some v) (hn : ¬ F p.block) : b.cell? p = some v :=
  (World.cell?_of_block (w := a) (h.block p.block (World.block_lt_of_cell? a p hc) hn)).trans hc
theorem Keeps.at {F : Nat → Prop} {a b : World} (h : Keeps F a b) {k : Nat} {o : Obj} (hc : a.heap[k]? = some o) (hn : ¬ F k) : b.heap[k]? = some o :=
  (h.block k (Array.getElem?_eq_some_iff.1 hc).1 hn).trans hc

/-! ## Known blocks -/
abbrev Ent := Nat × Array Value × TypeId
/-- world w grew out of w0 by changes in F and new blocks; the blocks of H hold these cells, none of them frozen -/
structure SH (F : Nat → Prop) (w0 w : World) (H : List Ent) : Prop where
  keeps : Keeps F w0 w
  mem : ∀ x ∈ H, w.heap[x.1]? = some (.cells x.2.1 x.2.2 (0, 0))
  nodup : (H.map (·.1)).Nodup
  own : ∀ x ∈ H, F x.1 ∨ w0.heap.size ≤ x.1
section
variable {F : Nat → Prop} {w0 w : World} {H : List Ent}
theorem SH.lt (S : SH F w0 w H) {x : Ent} (hx : x ∈ H) : x.1 < w.heap.size := (Array.getElem?_eq_some_iff.1 (S.mem x hx)).1
theorem SH.start (F : Nat → Prop) (w : World) : SH F w w [] := ⟨.refl F w, by simp, by simp, by simp⟩
theorem SH.alloc (S : SH F w0 w H) (cs : Array Value) (t : TypeId) : SH F w0 (w.alloc (.cells cs t)) ((w.heap.size, cs, t) :: H) where
  keeps := S.keeps.alloc _
  mem := by
    intro x hx
    rcases List.mem_cons.1 hx with rfl | hx
    · exact heap_alloc_new w _
    · rw [Below.heap_alloc w _ x.1 (S.lt hx)]; exact S.mem x hx
  nodup := by
    simp only [List.map_cons, List.nodup_cons]
    refine ⟨fun hm => ?_, S.nodup⟩
    obtain ⟨x, hx, he⟩ := List.mem_map.1 hm
    have := S.lt hx
    omega
  own := by
    intro x hx
    rcases List.mem_cons.1 hx with rfl | hx
    · exact .inr S.keeps.size
    · exact S.own x hx
theorem SH.new (S : SH F w0 w H) {cs : Array Value} {t : TypeId} {k : Nat → World → Prop} (hk : ∀ b w', w.heap.size ≤ b → SH F w0 w' ((b, cs, t) :: H) → k b w') : NEWB cs t k w :=
  hk _ _ (Nat.le_refl _) (S.alloc cs t)
theorem SH.drew (S : SH F w0 w H) : SH F w0 w.drew H := ⟨S.keeps.drew, S.mem, S.nodup, S.own⟩
theorem SH.draw (S : SH F w0 w H) {k : World → Prop} (hk : ∀ w', SH F w0 w' H → k w') : DRAW k w := hk _ S.drew
theorem SH.get (S : SH F w0 w H) (n : Nat) {b : Nat} {cs : Array Value} {t : TypeId} (hn : H[n]? = some (b, cs, t)) : w.heap[b]? = some (.cells cs t (0, 0)) :=
  S.mem _ (List.mem_of_getElem? hn)
theorem SH.cell (S : SH F w0 w H) (n : Nat) {b : Nat} {cs : Array Value} {t : TypeId} (hn : H[n]? = some (b, cs, t)) {i : Nat} {v : Value} (hv : cs[i]? = some v) : w.cell? ⟨b, i, none⟩ = some v := by
  have := S.get n hn
  simp [World.cell?, this, hv]
theorem SH.free (S : SH F w0 w H) (n : Nat) {b : Nat} {cs : Array Value} {t : TypeId} (hn : H[n]? = some (b, cs, t)) (i : Nat) : w.frozen? ⟨b, i, none⟩ = false := by
  have := S.get n hn
  simp [World.frozen?, this]
theorem nodup_ne {α : Type} {l : List α} (h : l.Nodup) {i j : Nat} {x y : α} (hi : l[i]? = some x) (hj : l[j]? = some y) (hne : i ≠ j) : x ≠ y := by
  obtain ⟨h1, rfl⟩ := List.getElem?_eq_some_iff.1 hi
  obtain ⟨h2, rfl⟩ := List.getElem?_eq_some_iff.1 hj
  intro he
  rcases Nat.lt_or_gt_of_ne hne with hlt | hlt
  · exact (List.pairwise_iff_getElem.1 h) i j h1 h2 hlt he
  · exact (List.pairwise_iff_getElem.1 h) j i h2 h1 hlt he.symm
theorem SH.setAt (S : SH F w0 w H) (n : Nat) {b : Nat} {cs : Array Value} {t : TypeId} (hn : H[n]? = some (b, cs, t)) {w' : World} {cs' : Array Value} (hk : Keeps (· = b) w w')
    (hb : w'.heap[b]? = some (.cells cs' t (0, 0))) : SH F w0 w' (H.set n (b, cs', t)) where
  keeps := S.keeps.trans hk fun k hlt he => by
    subst he
    rcases S.own _ (List.mem_of_getElem? hn) with h | h
    · exact h
    · exact absurd hlt (Nat.not_lt.2 h)
  mem := by
    intro x hx
    obtain ⟨i, hi⟩ := List.mem_iff_getElem?.1 hx
    by_cases hin : n = i
    · subst hin
      have hlt := (List.getElem?_eq_some_iff.1 hn).1
      rw [List.getElem?_set_self hlt] at hi
      cases hi
      exact hb
    · rw [List.getElem?_set_ne hin] at hi
      have hne : x.1 ≠ b := by
        refine nodup_ne S.nodup (i := i) (j := n) ?_ ?_ (Ne.symm hin)
        · simp [hi]
        · simp [hn]
      exact hk.at (S.mem x (List.mem_of_getElem? hi)) hne
  nodup := by
    have : (H.set n (b, cs', t)).map (·.1) = H.map (·.1) := by
      apply List.ext_getElem?
      intro i
      simp only [List.getElem?_map]
      by_cases hin : n = i
      · subst hin
        have hlt := (List.getElem?_eq_some_iff.1 hn).1
        rw [List.getElem?_set_self hlt, hn]
        rfl
      · rw [List.getElem?_set_ne hin]
    rw [this]
    exact S.nodup
  own := by
    intro x hx
    obtain ⟨i, hi⟩ := List.mem_iff_getElem?.1 hx
    by_cases hin : n = i
    · subst hin
      have hlt := (List.getElem?_eq_some_iff.1 hn).1
      rw [List.getElem?_set_self hlt] at hi
      cases hi
      exact S.own (b, cs, t) (List.mem_of_getElem? hn)
    · rw [List.getElem?_set_ne hin] at hi
      exact S.own x (List.mem_of_getElem? hi)
theorem keeps_setCell (w : World) (b i : Nat) (v : Value) : Keeps (· = b) w (w.setCell ⟨b, i, none⟩ v) := Keeps.setCell (F := (· = b)) (Keeps.refl _ w) (p := ⟨b, i, none⟩) (.inl rfl) v
theorem heap_setCell_at {w : World} {b i : Nat} {cs : Array Value} {t : TypeId} {f : Nat × Nat} (h : w.heap[b]? = some (.cells cs t f)) (v : Value) :
    (w.setCell ⟨b, i, none⟩ v).heap[b]? = some (.cells (cs.setIfInBounds i v) t f) := by
  simp [World.setCell, Array.getElem?_modify, h]
theorem SH.sto (S : SH F w0 w H) (n : Nat) {b : Nat} {cs : Array Value} {t : TypeId} (hn : H[n]? = some (b, cs, t)) {i : Nat} {v : Value} {k : World → Prop} (hi : i < cs.size)
    (hk : ∀ w', SH F w0 w' (H.set n (b, cs.setIfInBounds i v, t)) → k w') : STO ⟨b, i, none⟩ v k w := by
  refine ⟨?_, S.free n hn i, hk _ (S.setAt n hn (keeps_setCell w b i v) (heap_setCell_at (S.get n hn) v))⟩
  rw [S.cell n hn (Array.getElem?_eq_getElem hi)]
  rfl
/-- a call that changes nothing that was there -/
theorem SH.grown (S : SH F w0 w H) {w' : World} (h : Below w.heap.size w w') : SH F w0 w' H where
  keeps := S.keeps.trans (Keeps.of_below (F := fun _ => False) h) (by simp)
  mem := fun x hx => (h.block x.1 (S.lt hx)).trans (S.mem x hx)
  nodup := S.nodup
  own := S.own
/-- a change of blocks that are not in H -/
theorem SH.kept (S : SH F w0 w H) {G : Nat → Prop} {w' : World} (h : Keeps G w w') (hd : ∀ x ∈ H, ¬ G x.1) (hF : ∀ k, k < w0.heap.size → G k → F k) : SH F w0 w' H where
  keeps := S.keeps.trans h hF
  mem := fun x hx => h.at (S.mem x hx) (hd x hx)
  nodup := S.nodup
  own := S.own
theorem SH.drop (S : SH F w0 w H) (n : Nat) : SH F w0 w (H.drop n) :=
  ⟨S.keeps, fun x hx => S.mem x (List.mem_of_mem_drop hx), by rw [List.map_drop]; exact S.nodup.sublist (List.drop_sublist _ _), fun x hx => S.own x (List.mem_of_mem_drop hx)⟩
end
end Go.Dn
