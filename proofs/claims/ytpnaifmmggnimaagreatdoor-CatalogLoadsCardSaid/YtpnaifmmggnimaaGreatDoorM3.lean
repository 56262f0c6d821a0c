/-
  Texts of this claim, laid one behind the other by a program of mine (install.py): Dn.Mem, Dn.Laws, Dn.Str, Dn.Laws2, Dn.Laws3, Dn.Laws4, Dn.Arr, G.Hash1, G.Hash2, Dn.Arr2, G.Hash3, G.Wire, G.Wire2, G.Hash4, G.Hash5, G.Hash6, G.Hash7, G.Hash8, G.Hash9, G.Hash10, G.Hash11, G.Sch1.
-/
import Derived.Test.YtpnaifmmggnimaaGreatDoorM2
import Derived.Below
import Derived.Laws.MakeOwn
import Derived.Laws.BytesString
import Derived.Laws.NewBlocks
import Derived.Laws.OwnMore
import Derived.Laws.StructEq
import Derived.Laws.Strings2
import Derived.Laws.BytesArg
import Derived.Test.YtpnaifmmggnimaaGreatDoorRead
import Derived.Test.YtpnaifmmggnimaaGreatDoorM1
import Derived.Laws.CopyRow
import Derived.Laws.IdiomCopy
namespace Go.Dn
set_option linter.unusedVariables false
set_option maxRecDepth 100000
open Go.RowKit (Below)
/-! ## What stays -/
structure Keeps (F : Nat → Prop) (w w' : World) : Prop where
  os : w'.os = w.os
  tape : w'.tape = w.tape
  output : w'.output = w.output
  size : w.heap.size ≤ w'.heap.size
  block : ∀ k, k < w.heap.size → ¬ F k → w'.heap[k]? = w.heap[k]?
theorem Keeps.refl (F : Nat → Prop) (w : World) : Keeps F w w := ⟨rfl, rfl, rfl, Nat.le_refl _, fun _ _ _ => rfl⟩
theorem Keeps.trans {F G : Nat → Prop} {a b c : World} (h : Keeps F a b) (h' : Keeps G b c) (hs : ∀ k, k < a.heap.size → G k → F k) : Keeps F a c :=
  ⟨h'.os.trans h.os, h'.tape.trans h.tape, h'.output.trans h.output, Nat.le_trans h.size h'.size,
    fun k hk hn => (h'.block k (Nat.lt_of_lt_of_le hk h.size) fun hg => hn (hs k hk hg)).trans (h.block k hk hn)⟩
theorem Keeps.mono {F G : Nat → Prop} {a b : World} (h : Keeps F a b) (hs : ∀ k, k < a.heap.size → F k → G k) : Keeps G a b :=
  ⟨h.os, h.tape, h.output, h.size, fun k hk hn => h.block k hk fun hf => hn (hs k hk hf)⟩
theorem Keeps.of_below {F : Nat → Prop} {a b : World} (h : Below a.heap.size a b) : Keeps F a b := ⟨h.os, h.tape, h.output, h.size, fun k hk _ => h.block k hk⟩
theorem Keeps.below {F : Nat → Prop} {a b : World} {B : Nat} (h : Keeps F a b) (hB : B ≤ a.heap.size) (hs : ∀ k, k < B → ¬ F k) : Below B a b :=
  ⟨h.os, h.tape, h.output, h.size, fun k hk => h.block k (Nat.lt_of_lt_of_le hk hB) (hs k hk)⟩
theorem Keeps.alloc {F : Nat → Prop} {a w : World} (h : Keeps F a w) (o : Obj) : Keeps F a (w.alloc o) :=
  ⟨h.os, h.tape, h.output, Nat.le_trans h.size (by simp), fun k hk hn => (Below.heap_alloc w o k (Nat.lt_of_lt_of_le hk h.size)).trans (h.block k hk hn)⟩
theorem Keeps.drew {F : Nat → Prop} {a w : World} (h : Keeps F a w) : Keeps F a w.drew := ⟨h.os, h.tape, h.output, h.size, h.block⟩
theorem Keeps.setCell {F : Nat → Prop} {a w : World} (h : Keeps F a w) {p : Addr} (hp : F p.block ∨ a.heap.size ≤ p.block) (v : Value) : Keeps F a (w.setCell p v) :=
  ⟨h.os, h.tape, h.output, by simpa using h.size, fun k hk hn => by
    rw [Below.heap_setCell w p v k (by rintro rfl; rcases hp with hp | hp; exact hn hp; omega)]
    exact h.block k hk hn⟩
theorem Keeps.cell {F : Nat → Prop} {a b : World} (h : Keeps F a b) {p : Addr} {v : Value} (hc : a.cell? p = some v) (hn : ¬ F p.block) : b.cell? p = some v :=
  (World.cell?_of_block (w := a) (h.block p.block (World.block_lt_of_cell? a p hc) hn)).trans hc
theorem Keeps.at {F : Nat → Prop} {a b : World} (h : Keeps F a b) {k : Nat} {o : Obj} (hc : a.heap[k]? = some o) (hn : ¬ F k) : b.heap[k]? = some o :=
  (h.block k (Array.getElem?_eq_some_iff.1 hc).1 hn).trans hc
/-! ## Known blocks -/
abbrev Ent := Nat × Array Value × TypeId
structure SH (F : Nat → Prop) (w0 w : World) (H : List Ent) : Prop where
  keeps : Keeps F w0 w
  mem : ∀ x ∈ H, w.heap[x.1]? = some (.cells x.2.1 x.2.2 (0, 0))
  nodup : (H.map (·.1)).Nodup
  own : ∀ x ∈ H, F x.1 ∨ w0.heap.size ≤ x.1
section
variable {F : Nat → Prop} {w0 w : World} {H : List Ent}
theorem SH.lt (S : SH F w0 w H) {x : Ent} (hx : x ∈ H) : x.1 < w.heap.size := (Array.getElem?_eq_some_iff.1 (S.mem x hx)).1
theorem SH.start (F : Nat → Prop) (w : World) : SH F w w [] := ⟨.refl F w, by simp, by simp, by simp⟩
theorem SH.alloc (S : SH F w0 w H) (cs : Array Value) (t : TypeId) : SH F w0 (w.alloc (.cells cs t)) ((w.heap.size, cs, t) :: H) where
  keeps := S.keeps.alloc _
  mem := by
    intro x hx
    rcases List.mem_cons.1 hx with rfl | hx
    · exact heap_alloc_new w _
    · rw [Below.heap_alloc w _ x.1 (S.lt hx)]; exact S.mem x hx
  nodup := by
    simp only [List.map_cons, List.nodup_cons]
    refine ⟨fun hm => ?_, S.nodup⟩
    obtain ⟨x, hx, he⟩ := List.mem_map.1 hm
    have := S.lt hx
    omega
  own := by
    intro x hx
    rcases List.mem_cons.1 hx with rfl | hx
    · exact .inr S.keeps.size
    · exact S.own x hx
theorem SH.drew (S : SH F w0 w H) : SH F w0 w.drew H := ⟨S.keeps.drew, S.mem, S.nodup, S.own⟩
theorem SH.draw (S : SH F w0 w H) {k : World → Prop} (hk : ∀ w', SH F w0 w' H → k w') : DRAW k w := hk _ S.drew
theorem SH.get (S : SH F w0 w H) (n : Nat) {b : Nat} {cs : Array Value} {t : TypeId} (hn : H[n]? = some (b, cs, t)) : w.heap[b]? = some (.cells cs t (0, 0)) :=
  S.mem _ (List.mem_of_getElem? hn)
theorem SH.cell (S : SH F w0 w H) (n : Nat) {b : Nat} {cs : Array Value} {t : TypeId} (hn : H[n]? = some (b, cs, t)) {i : Nat} {v : Value} (hv : cs[i]? = some v) : w.cell? ⟨b, i, none⟩ = some v := by
  have := S.get n hn
  simp [World.cell?, this, hv]
theorem SH.free (S : SH F w0 w H) (n : Nat) {b : Nat} {cs : Array Value} {t : TypeId} (hn : H[n]? = some (b, cs, t)) (i : Nat) : w.frozen? ⟨b, i, none⟩ = false := by
  have := S.get n hn
  simp [World.frozen?, this]
theorem nodup_ne {α : Type} {l : List α} (h : l.Nodup) {i j : Nat} {x y : α} (hi : l[i]? = some x) (hj : l[j]? = some y) (hne : i ≠ j) : x ≠ y := by
  obtain ⟨h1, rfl⟩ := List.getElem?_eq_some_iff.1 hi
  obtain ⟨h2, rfl⟩ := List.getElem?_eq_some_iff.1 hj
  intro he
  rcases Nat.lt_or_gt_of_ne hne with hlt | hlt
  · exact (List.pairwise_iff_getElem.1 h) i j h1 h2 hlt he
  · exact (List.pairwise_iff_getElem.1 h) j i h2 h1 hlt he.symm
theorem SH.setAt (S : SH F w0 w H) (n : Nat) {b : Nat} {cs : Array Value} {t : TypeId} (hn : H[n]? = some (b, cs, t)) {w' : World} {cs' : Array Value} (hk : Keeps (· = b) w w')
    (hb : w'.heap[b]? = some (.cells cs' t (0, 0))) : SH F w0 w' (H.set n (b, cs', t)) where
  keeps := S.keeps.trans hk fun k hlt he => by
    subst he
    rcases S.own _ (List.mem_of_getElem? hn) with h | h
    · exact h
    · exact absurd hlt (Nat.not_lt.2 h)
  mem := by
    intro x hx
    obtain ⟨i, hi⟩ := List.mem_iff_getElem?.1 hx
    by_cases hin : n = i
    · subst hin
      have hlt := (List.getElem?_eq_some_iff.1 hn).1
      rw [List.getElem?_set_self hlt] at hi
      cases hi
      exact hb
    · rw [List.getElem?_set_ne hin] at hi
      have hne : x.1 ≠ b := by
        refine nodup_ne S.nodup (i := i) (j := n) ?_ ?_ (Ne.symm hin)
        · simp [hi]
        · simp [hn]
      exact hk.at (S.mem x (List.mem_of_getElem? hi)) hne
  nodup := by
    have : (H.set n (b, cs', t)).map (·.1) = H.map (·.1) := by
      apply List.ext_getElem?
      intro i
      simp only [List.getElem?_map]
      by_cases hin : n = i
      · subst hin
        have hlt := (List.getElem?_eq_some_iff.1 hn).1
        rw [List.getElem?_set_self hlt, hn]
        rfl
      · rw [List.getElem?_set_ne hin]
    rw [this]
    exact S.nodup
  own := by
    intro x hx
    obtain ⟨i, hi⟩ := List.mem_iff_getElem?.1 hx
    by_cases hin : n = i
    · subst hin
      have hlt := (List.getElem?_eq_some_iff.1 hn).1
      rw [List.getElem?_set_self hlt] at hi
      cases hi
      exact S.own (b, cs, t) (List.mem_of_getElem? hn)
    · rw [List.getElem?_set_ne hin] at hi
      exact S.own x (List.mem_of_getElem? hi)
theorem keeps_setCell (w : World) (b i : Nat) (v : Value) : Keeps (· = b) w (w.setCell ⟨b, i, none⟩ v) := Keeps.setCell (F := (· = b)) (Keeps.refl _ w) (p := ⟨b, i, none⟩) (.inl rfl) v
theorem heap_setCell_at {w : World} {b i : Nat} {cs : Array Value} {t : TypeId} {f : Nat × Nat} (h : w.heap[b]? = some (.cells cs t f)) (v : Value) :
    (w.setCell ⟨b, i, none⟩ v).heap[b]? = some (.cells (cs.setIfInBounds i v) t f) := by
  simp [World.setCell, Array.getElem?_modify, h]
theorem SH.sto (S : SH F w0 w H) (n : Nat) {b : Nat} {cs : Array Value} {t : TypeId} (hn : H[n]? = some (b, cs, t)) {i : Nat} {v : Value} {k : World → Prop} (hi : i < cs.size)
    (hk : ∀ w', SH F w0 w' (H.set n (b, cs.setIfInBounds i v, t)) → k w') : STO ⟨b, i, none⟩ v k w := by
  refine ⟨?_, S.free n hn i, hk _ (S.setAt n hn (keeps_setCell w b i v) (heap_setCell_at (S.get n hn) v))⟩
  rw [S.cell n hn (Array.getElem?_eq_getElem hi)]
  rfl
theorem SH.grown (S : SH F w0 w H) {w' : World} (h : Below w.heap.size w w') : SH F w0 w' H where
  keeps := S.keeps.trans (Keeps.of_below (F := fun _ => False) h) (by simp)
  mem := fun x hx => (h.block x.1 (S.lt hx)).trans (S.mem x hx)
  nodup := S.nodup
  own := S.own
theorem SH.kept (S : SH F w0 w H) {G : Nat → Prop} {w' : World} (h : Keeps G w w') (hd : ∀ x ∈ H, ¬ G x.1) (hF : ∀ k, k < w0.heap.size → G k → F k) : SH F w0 w' H where
  keeps := S.keeps.trans h hF
  mem := fun x hx => h.at (S.mem x hx) (hd x hx)
  nodup := S.nodup
  own := S.own
theorem SH.drop (S : SH F w0 w H) (n : Nat) : SH F w0 w (H.drop n) :=
  ⟨S.keeps, fun x hx => S.mem x (List.mem_of_mem_drop hx), by rw [List.map_drop]; exact S.nodup.sublist (List.drop_sublist _ _), fun x hx => S.own x (List.mem_of_mem_drop hx)⟩
end
end Go.Dn
namespace Go.Dn
set_option linter.unusedVariables false
set_option maxRecDepth 100000
open Go.RowKit (Below)
theorem addr_add_add (p : Addr) (x y : Nat) : (p.add x).add y = p.add (x + y) := by
  unfold Addr.add
  by_cases hx : x = 0
  · subst hx; simp
  · by_cases hy : y = 0
    · subst hy; simp
    · simp [hx, hy, Nat.add_assoc]
theorem addr_add_zero (p : Addr) : p.add 0 = p := by simp [Addr.add]
theorem addr_add_blk (b i j : Nat) : (⟨b, i, none⟩ : Addr).add j = ⟨b, i + j, none⟩ := by
  unfold Addr.add
  by_cases hj : j = 0
  · subst hj; simp
  · simp [hj]
theorem addr_add_block (p : Addr) (x : Nat) : (p.add x).block = p.block := by
  unfold Addr.add
  split <;> rfl
def Rd (w : World) (a : Option Addr) (vs : List Value) : Prop := ∀ j v, vs[j]? = some v → ∃ p, a = some p ∧ w.cell? (p.add j) = some v
theorem Rd.nil (w : World) (a : Option Addr) : Rd w a [] := by intro j v h; simp at h
theorem Rd.keeps {F : Nat → Prop} {w w' : World} {a : Option Addr} {vs : List Value} (h : Rd w a vs) (hk : Keeps F w w') (hn : ∀ p, a = some p → ¬ F p.block) : Rd w' a vs := by
  intro j v hv
  obtain ⟨p, hp, hc⟩ := h j v hv
  exact ⟨p, hp, hk.cell hc (by rw [addr_add_block]; exact hn p hp)⟩
theorem Rd.grown {w w' : World} {a : Option Addr} {vs : List Value} (h : Rd w a vs) (hk : Below w.heap.size w w') : Rd w' a vs :=
  h.keeps (F := fun _ => False) (Keeps.of_below hk) (by simp)
theorem Rd.take {w : World} {a : Option Addr} {vs : List Value} (h : Rd w a vs) (n : Nat) : Rd w a (vs.take n) := by
  intro j v hv
  rw [List.getElem?_take] at hv
  split at hv
  · exact h j v hv
  · cases hv
theorem Rd.drop {w : World} {p : Addr} {vs : List Value} (h : Rd w (some p) vs) (n : Nat) : Rd w (some (p.add n)) (vs.drop n) := by
  intro j v hv
  rw [List.getElem?_drop] at hv
  obtain ⟨q, hq, hc⟩ := h _ v hv
  cases hq
  exact ⟨_, rfl, by rw [addr_add_add]; exact hc⟩
theorem Rd.sla {w : World} {a : Option Addr} {vs : List Value} (h : Rd w a vs) (l hh m sz : Nat) (h2 : hh ≤ m) : Rd w (SLA a l m sz) ((vs.drop (l * sz)).take ((hh - l) * sz)) := by
  unfold SLA
  split
  · have : hh - l = 0 := by omega
    rw [this]
    simp [Rd]
  · cases a with
    | none =>
      intro j v hv
      rw [List.getElem?_take] at hv
      split at hv
      · rw [List.getElem?_drop] at hv
        obtain ⟨p, hp, _⟩ := h _ v hv
        cases hp
      · cases hv
    | some p => exact (h.drop (l * sz)).take _
theorem Rd.of_block {w : World} {b : Nat} {cs : Array Value} {t : TypeId} {f : Nat × Nat} (h : w.heap[b]? = some (.cells cs t f)) (i : Nat) : Rd w (some ⟨b, i, none⟩) (cs.toList.drop i) := by
  intro j v hv
  refine ⟨_, rfl, ?_⟩
  rw [addr_add_blk]
  rw [List.getElem?_drop] at hv
  simp [World.cell?, h]
  simpa using hv
theorem Rd.of_block0 {w : World} {b : Nat} {cs : Array Value} {t : TypeId} {f : Nat × Nat} (h : w.heap[b]? = some (.cells cs t f)) : Rd w (some ⟨b, 0, none⟩) cs.toList := by
  have := Rd.of_block h 0
  simpa using this
def rowB (a : Option Addr) : Option Nat := a.map (·.block)
def Row (w : World) (e : TypeId) (sz : Nat) (a : Option Addr) (n c : Nat) (xs : List Value) : Prop :=
  xs.length = n * sz ∧ ((a = none ∧ n = 0 ∧ c = 0) ∨
    ∃ g cur, a = some ⟨g, 0, none⟩ ∧ w.heap[g]? = some (.cells cur e (0, 0)) ∧ n ≤ c ∧ c ≤ 9223372036854775807 ∧ cur.size = c * sz ∧ cur.toList.take (n * sz) = xs)
theorem Row.nil (w : World) (e : TypeId) (sz : Nat) : Row w e sz none 0 0 [] := ⟨by simp, .inl ⟨rfl, rfl, rfl⟩⟩
theorem Row.rd {w : World} {e : TypeId} {sz : Nat} {a : Option Addr} {n c : Nat} {xs : List Value} (h : Row w e sz a n c xs) : Rd w a xs := by
  rcases h with ⟨hl, ⟨rfl, rfl, rfl⟩ | ⟨g, cur, rfl, hg, _, _, _, rfl⟩⟩
  · have : xs = [] := List.eq_nil_of_length_eq_zero (by simpa using hl)
    subst this
    exact Rd.nil _ _
  · exact (Rd.of_block0 hg).take _
theorem Row.le {w : World} {e : TypeId} {sz : Nat} {a : Option Addr} {n c : Nat} {xs : List Value} (h : Row w e sz a n c xs) : n ≤ c := by
  rcases h with ⟨_, ⟨_, rfl, rfl⟩ | ⟨_, _, _, _, h, _⟩⟩
  · exact Nat.le_refl _
  · exact h
theorem Row.lt {w : World} {e : TypeId} {sz : Nat} {a : Option Addr} {n c : Nat} {xs : List Value} (h : Row w e sz a n c xs) {k : Nat} (hk : rowB a = some k) : k < w.heap.size := by
  rcases h with ⟨_, ⟨rfl, _⟩ | ⟨g, cur, rfl, hg, _⟩⟩
  · cases hk
  · cases hk; exact (Array.getElem?_eq_some_iff.1 hg).1
theorem Row.keeps {F : Nat → Prop} {w w' : World} {e : TypeId} {sz : Nat} {a : Option Addr} {n c : Nat} {xs : List Value} (h : Row w e sz a n c xs) (hk : Keeps F w w') (hn : ∀ k, rowB a = some k → ¬ F k) : Row w' e sz a n c xs := by
  refine ⟨h.1, ?_⟩
  rcases h.2 with h | ⟨g, cur, rfl, hg, r⟩
  · exact .inl h
  · exact .inr ⟨g, cur, rfl, hk.at hg (hn g rfl), r⟩
theorem Row.grown {w w' : World} {e : TypeId} {sz : Nat} {a : Option Addr} {n c : Nat} {xs : List Value} (h : Row w e sz a n c xs) (hk : Below w.heap.size w w') : Row w' e sz a n c xs :=
  h.keeps (F := fun _ => False) (Keeps.of_below hk) (by simp)
def slT (P : Program) (t : TypeId) : Option (TypeId × Nat × Nat × Value) :=
  match P.underlying t with
  | some (.slice e) =>
    (match P.info? e with
    | some i => (match i.zero with
      | some z => some (e, i.size, i.bytes, z)
      | none => none)
    | none => none)
  | _ => none
theorem slT_out {P : Program} {t e : TypeId} {sz by_ : Nat} {z : Value} (h : slT P t = some (e, sz, by_, z)) : P.underlying t = some (.slice e) ∧ ∃ i, P.info? e = some i ∧ i.zero = some z ∧ i.size = sz ∧ i.bytes = by_ := by
  unfold slT at h
  split at h
  · rename_i e' hu
    split at h
    · rename_i i hi
      split at h
      · rename_i z' hz
        simp only [Option.some.injEq, Prod.mk.injEq] at h
        obtain ⟨rfl, rfl, rfl, rfl⟩ := h
        exact ⟨hu, i, hi, hz, rfl, rfl⟩
      · cases h
    · cases h
  · cases h
theorem keeps_setRow (w : World) (g : Nat) (cs : Array Value) : Keeps (· = g) w (w.setRow g cs) :=
  ⟨rfl, rfl, rfl, by simp [World.setRow], fun k _ hn => by simp only [World.setRow, Array.getElem?_modify]; rw [if_neg (fun h => hn h.symm)]⟩
theorem heap_setRow {w : World} {g : Nat} {cur cs : Array Value} {t : TypeId} {f : Nat × Nat} (h : w.heap[g]? = some (.cells cur t f)) : (w.setRow g cs).heap[g]? = some (.cells cs t f) := by
  simp [World.setRow, Array.getElem?_modify, h]
theorem append_row {P : Program} {t ty e : TypeId} {sz bytes : Nat} {z : Value} (hT : slT P t = some (e, sz, bytes, z)) (hz : z.cells.size = sz) (hsz : 0 < sz) (hb0 : 0 < bytes)
    {w : World} {a : Option Addr} {n c : Nat} {xs : List Value} (hr : Row w e sz a n c xs) {b : Option Addr} {m mc : Nat} {news : List Value} (hs : Rd w b news) (hl : news.length = m * sz)
    (h1 : ∀ u ∈ news, u.oneCell' = true) (hby : (n + m) * bytes ≤ 140737488355328) :
    ∃ a' c' w', (Builtin.append_ #[t, t] ty #[.slice a n c, .slice b m mc]).run P w = .ok (.slice a' (n + m) c') w' ∧ Row w' e sz a' (n + m) c' (xs ++ news) ∧
      Keeps (fun k => rowB a = some k) w w' ∧ (∀ k, rowB a' = some k → rowB a = some k ∨ w.heap.size ≤ k) := by
  obtain ⟨hu, i, hi, hiz, rfl, rfl⟩ := slT_out hT
  have hnm : n + m ≤ 140737488355328 := Nat.le_trans (Nat.le_mul_of_pos_right _ hb0) hby
  have hlen : (xs ++ news).length = (n + m) * i.size := by rw [List.length_append, hr.1, hl, Nat.add_mul]
  -- a grown row
  have grown : ∀ (old : Nat), old < n + m → Row (w.drew.alloc (.cells (xs.toArray ++ news.toArray ++ Builtin.zeroCells z.cells (grownCap w (n + m) old e - (n + m))) e)) e i.size
      (some ⟨w.heap.size, 0, none⟩) (n + m) (grownCap w (n + m) old e) (xs ++ news) := by
    intro old ho
    have hge := grownCap_ge w (n + m) old e
    have hcm : grownCap w (n + m) old e ≤ maxLen := grownCap_le_maxLen w (n + m) old e (by unfold maxLen; omega)
    refine ⟨hlen, .inr ⟨w.heap.size, _, rfl, heap_alloc_new w.drew _, hge, by unfold maxLen at hcm; omega, ?_, ?_⟩⟩
    · simp only [Array.size_append, List.size_toArray, size_zeroCells, hz, hr.1, hl, ← Nat.add_mul]
      congr 1
      omega
    · simp only [Array.toList_append, List.append_assoc]
      rw [← List.append_assoc, ← hlen]
      exact List.take_left
  have gkeeps : ∀ (cs : Array Value) (row : Nat → Prop), Keeps row w (w.drew.alloc (.cells cs e)) := fun cs row => (Keeps.refl row w).drew.alloc _
  have src : 0 < m → ∃ p, b = some p ∧ ∀ j u, news[j]? = some u → w.cell? (p.add j) = some u := by
    intro hm
    have h0 : 0 < news.length := by rw [hl]; exact Nat.mul_pos hm hsz
    obtain ⟨p, hp, _⟩ := hs 0 news[0] (List.getElem?_eq_getElem h0)
    refine ⟨p, hp, fun j u hu => ?_⟩
    obtain ⟨q, hq, hc⟩ := hs j u hu
    rw [hp] at hq
    cases hq
    exact hc
  have none0 : m = 0 → news = [] := fun hm => List.eq_nil_of_length_eq_zero (by rw [hl, hm]; simp)
  rcases hr.2 with ⟨rfl, rfl, rfl⟩ | ⟨g, cur, rfl, hg, hnc, hcm, hcs, htake⟩
  · have hx : xs = [] := List.eq_nil_of_length_eq_zero (by simpa using hr.1)
    subst hx
    by_cases hm : m = 0
    · have hn := none0 hm
      subst hm hn
      refine ⟨none, 0, w, ?_, by simpa using Row.nil w e i.size, .refl _ _, by simp [rowB]⟩
      cases b <;> simp [Builtin.append_, run_underlying hu, sizeOf, typeInfo, hi, Builtin.lenOf, Builtin.firstCells, loadCells, loadCellsFrom]
    · obtain ⟨p, rfl, hp⟩ := src (by omega)
      have hrun := run_append_nil (P := P) w t ty e i z hu hi hiz p m mc news hl hp (by omega) (by omega) (by simp only [Nat.zero_add] at hby; omega)
      have hrow := grown 0 (by omega)
      simp only [Nat.zero_add] at hrow hrun ⊢
      refine ⟨_, _, _, hrun, ?_, gkeeps _ _, fun k hk => .inr ?_⟩
      · simpa using hrow
      · simp [rowB] at hk; omega
  · by_cases hroom : n + m ≤ c
    · by_cases hm : m = 0
      · have hn := none0 hm
        subst hm hn
        refine ⟨some ⟨g, 0, none⟩, c, w, ?_, by simpa using hr, .refl _ _, fun k hk => .inl hk⟩
        cases b <;> simp [Builtin.append_, run_underlying hu, sizeOf, typeInfo, hi, Builtin.lenOf, Builtin.firstCells, loadCells, loadCellsFrom, hnc, storeCells]
      · obtain ⟨p, rfl, hp⟩ := src (by omega)
        have hfit : n * i.size + news.length ≤ cur.size := by rw [hl, hcs, ← Nat.add_mul]; exact Nat.mul_le_mul_right _ hroom
        have hrun := run_append_room (P := P) w t ty e i hu hi g n c cur hg p m mc news hl hp h1 hroom hfit
        have hxl : (List.take (n * i.size) cur.toList) = xs := htake
        refine ⟨_, _, _, hrun, ⟨hlen, .inr ⟨g, _, rfl, heap_setRow hg, hroom, hcm, ?_, ?_⟩⟩, (keeps_setRow w g _).mono (fun k _ h => by subst h; rfl), fun k hk => .inl hk⟩
        · simp only [List.size_toArray, List.length_append, List.length_take, List.length_drop, Array.length_toList]
          omega
        · rw [hxl]
          rw [← hlen]
          exact List.take_left
    · obtain ⟨p, rfl, hp⟩ := src (by omega)
      have hold : ∀ j v, xs[j]? = some v → w.cell? ((⟨g, 0, none⟩ : Addr).add j) = some v := by
        intro j v hv
        obtain ⟨q, hq, hc⟩ := hr.rd j v hv
        cases hq
        exact hc
      have hrun := run_append_grow (P := P) w t ty e i z hu hi hiz ⟨g, 0, none⟩ n c xs hr.1 hold p m mc news hl hp (by omega) (by omega) (growslice_fits (by omega) hby)
      refine ⟨_, _, _, hrun, grown c (by omega), gkeeps _ _, fun k hk => .inr ?_⟩
      simp [rowB] at hk
      omega
def bl (s : ByteArray) : List UInt8 := s.data.toList
def sof (l : List UInt8) : ByteArray := ⟨l.toArray⟩
def byteV (c : UInt8) : Value := .int .u8 (c.toNat : Int)
theorem bl_sof (l : List UInt8) : bl (sof l) = l := by simp [bl, sof]
theorem sof_bl (s : ByteArray) : sof (bl s) = s := by cases s; simp [bl, sof]
theorem bl_length (s : ByteArray) : (bl s).length = s.size := Array.length_toList
theorem size_sof (l : List UInt8) : (sof l).size = l.length := by simp [sof, ByteArray.size]
theorem bl_inj {s t : ByteArray} (h : bl s = bl t) : s = t := by rw [← sof_bl s, ← sof_bl t, h]
theorem extract_eq (s : ByteArray) (a b : Nat) : s.extract a b = sof (((bl s).drop a).take (b - a)) := by
  have h := ByteArray.extract_mk (bl s) a b
  have e : (ByteArray.mk (bl s).toArray) = s := sof_bl s
  rw [e] at h
  exact h
theorem bytesEq_iff (a b : ByteArray) : bytesEq a b = decide (a = b) := by
  unfold bytesEq
  rw [ByteArray.toList_eq, ByteArray.toList_eq]
  have : (a = b) ↔ a.data.toList = b.data.toList := ⟨fun h => by rw [h], fun h => bl_inj h⟩
  rw [Bool.eq_iff_iff]
  simp [this]
theorem beq_str (a b : ByteArray) : (a == b) = decide (a = b) := by
  rw [beq_toListBytes]
  exact bytesEq_iff a b
theorem sget_eq (s : ByteArray) (i : Nat) : sget s i = (bl s).getD i 0 := rfl
theorem byteV_one (c : UInt8) : (byteV c).oneCell' = true := rfl
def bytesT (P : Program) (st bt : TypeId) : Bool :=
  match P.underlying st, P.underlying bt with
  | some .string, some (.slice e) => (match P.underlying e with
    | some (.int .u8) => true
    | _ => false)
  | _, _ => false
theorem bytesT_out {P : Program} {st bt : TypeId} (h : bytesT P st bt = true) : P.underlying st = some .string ∧ ∃ e, P.underlying bt = some (.slice e) ∧ P.underlying e = some (.int .u8) := by
  unfold bytesT at h
  split at h
  · rename_i e hs hb
    split at h
    · rename_i he; exact ⟨hs, e, hb, he⟩
    · cases h
  · cases h
theorem freeze_keeps (F : Nat → Prop) (w : World) (p : Addr) (n : Nat) (hp : F p.block) : Keeps F w (w.freeze p n) := by
  unfold World.freeze
  split
  · exact .refl _ _
  · refine ⟨rfl, rfl, rfl, by simp, fun k _ hn => ?_⟩
    simp only [Array.getElem?_modify]
    rw [if_neg (fun h => hn (by rw [← h]; exact hp))]
theorem bytes_of_string {P : Program} {st bt : TypeId} (hT : bytesT P st bt = true) (s : ByteArray) (w : World) {f : Value → World → Prop}
    (hf : ∀ (b c : Nat) (cs : Array Value) (e : TypeId) (w' : World), b = w.heap.size → Below w.heap.size w w' → w'.heap[b]? = some (.cells cs e (cs.size, cs.size + 1)) → cs.size = c → s.size ≤ c →
      cs.toList.take s.size = (bl s).map byteV → f (.slice (some ⟨b, 0, none⟩) s.size c) w') : OPR P (convert st bt (.string s)) f w := by
  obtain ⟨hs, e, hb, he⟩ := bytesT_out hT
  let cap := grownCap w s.size 0 e
  let cs : Array Value := (s.data.map fun b => Value.int .u8 b.toNat) ++ Array.replicate (cap - s.size) (.int .u8 0)
  have hge : s.size ≤ cap := grownCap_ge w s.size 0 e
  have hsz : cs.size = cap := by
    have : s.data.size = s.size := rfl
    simp [cs, this]
    omega
  let w1 : World := w.drew.alloc (.cells cs e)
  have hw1 : w1.heap[w.heap.size]? = some (.cells cs e (0, 0)) := heap_alloc_new w.drew _
  have hshape : w1.shape? w.heap.size = some (e, cs.size) := by simp [World.shape?, hw1]
  have hrun : (convert st bt (.string s)).run P w = .ok (.slice (some ⟨w.heap.size, 0, none⟩) s.size cap) (w1.freeze ⟨w.heap.size, cs.size, none⟩ 1) := by
    have hq : (Question.appendCap s.size 0 e).forced = false := rfl
    have hnew : (newRow e cs).run P w.drew = .ok ⟨w.heap.size, 0, none⟩ w1 := rfl
    have hch : (choose (.appendCap s.size 0 e)).run P w = .ok cap w.drew := by
      rw [run_choose]
      simp [hq, cap, grownCap]
    have hmark : (markStringish ⟨w.heap.size, 0, none⟩).run P w1 = .ok () (w1.freeze ⟨w.heap.size, cs.size, none⟩ 1) := by
      simp [markStringish, hshape]
    simp only [convert, Sem.run_bind, run_underlying hs, run_underlying hb, run_underlying he, Result.andThen_ok, Conv.stringToBytes, hch, Sem.run_pure]
    simp only [cs] at hnew
    rw [hnew]
    simp only [Result.andThen_ok, hmark]
  unfold OPR
  rw [hrun]
  have hheap : (w1.freeze ⟨w.heap.size, cs.size, none⟩ 1).heap[w.heap.size]? = some (.cells cs e (cs.size, cs.size + 1)) := by
    unfold World.freeze
    simp [Array.getElem?_modify, hw1]
  refine hf _ _ cs e _ rfl ?_ hheap hsz hge ?_
  · have h1 : Keeps (fun k => k = w.heap.size) w w1 := (Keeps.refl _ w).drew.alloc _
    have h2 := freeze_keeps (fun k => k = w.heap.size) w1 ⟨w.heap.size, cs.size, none⟩ 1 rfl
    exact (h1.trans h2 (fun _ _ h => h)).below (Nat.le_refl _) (fun k hk he => by omega)
  · have hl : s.size = ((s.data.map fun b => Value.int .u8 b.toNat)).toList.length := by rw [Array.length_toList, Array.size_map]; rfl
    simp only [cs, Array.toList_append]
    rw [hl, List.take_left]
    simp [bl, byteV]
theorem push_bytes (l : List UInt8) : (l.map fun c => ((c.toNat : Nat) : Int)).foldl (fun r n => r.push (UInt8.ofNat n.toNat)) ByteArray.empty = sof l := by
  rw [foldl_push_bytes]
  apply bl_inj
  rw [bl_sof]
  show (ByteArray.empty.data ++ _).toList = l
  have h0 : ByteArray.empty.data.toList = [] := rfl
  rw [Array.toList_append, h0, List.nil_append, List.map_map, List.toList_toArray]
  have : ((fun n : Int => UInt8.ofNat n.toNat) ∘ fun c : UInt8 => ((c.toNat : Nat) : Int)) = id := by
    funext c
    simp
  rw [this, List.map_id]
theorem string_of_bytes {P : Program} {st bt : TypeId} (hT : bytesT P st bt = true) {w : World} {a : Option Addr} {l : List UInt8} {n c : Nat} (hn : n = l.length) (hr : Rd w a (l.map byteV)) {f : Value → World → Prop}
    (hf : f (.string (sof l)) w) : OPR P (convert bt st (.slice a n c)) f w := by
  obtain ⟨hs, e, hb, he⟩ := bytesT_out hT
  unfold OPR
  rw [run_convert_bytes_string w bt st e a n c hb he hs]
  cases a with
  | none =>
    have hl : l = [] := by
      cases l with
      | nil => rfl
      | cons x r =>
        obtain ⟨p, hp, _⟩ := hr 0 (byteV x) (by simp)
        cases hp
    subst hl
    have : sof [] = ByteArray.empty := rfl
    rw [this] at hf
    simpa [Conv.bytesToString] using hf
  | some p =>
    have hld : (loadCells p n).run P w = .ok ((l.map fun c => ((c.toNat : Nat) : Int)).map (Value.int .u8)).toArray w := by
      have := run_loadCells_list (P := P) w p (l.map byteV) (fun j v hv => by
        obtain ⟨q, hq, hc⟩ := hr j v hv
        cases hq
        exact hc)
      rw [List.length_map, ← hn] at this
      rw [this]
      congr 1
      simp [byteV, Function.comp_def]
    rw [run_bytesToString w p n c _ hld, push_bytes]
    exact hf
end Go.Dn
namespace Go.Dn
open Go.RowKit (Below)
theorem SH.below {w0 w : World} {H : List Ent} (S : SH (fun _ => False) w0 w H) : Below w0.heap.size w0 w := S.keeps.below (Nat.le_refl _) (by simp)
end Go.Dn
namespace Go.Dn
open Go.RowKit (Below)
section
variable {F : Nat → Prop} {w0 w : World} {H : List Ent}
theorem SH.newB (S : SH F w0 w H) {cs : Array Value} {t : TypeId} {k : Nat → World → Prop} (hk : ∀ b w', w.heap.size ≤ b → Below w.heap.size w w' → SH F w0 w' ((b, cs, t) :: H) → k b w') : NEWB cs t k w :=
  hk _ _ (Nat.le_refl _) ((Below.refl _ w).alloc (Nat.le_refl _) _) (S.alloc cs t)
theorem SH.drawB (S : SH F w0 w H) {k : World → Prop} (hk : ∀ w', Below w.heap.size w w' → SH F w0 w' H → k w') : DRAW k w := hk _ ((Below.refl _ w).drew) S.drew
theorem SH.stoK (S : SH F w0 w H) (n : Nat) {b : Nat} {cs : Array Value} {t : TypeId} (hn : H[n]? = some (b, cs, t)) {i : Nat} {v : Value} {k : World → Prop} (hi : i < cs.size)
    (hk : ∀ w', Keeps (· = b) w w' → SH F w0 w' (H.set n (b, cs.setIfInBounds i v, t)) → k w') : STO ⟨b, i, none⟩ v k w := by
  refine ⟨?_, S.free n hn i, hk _ (keeps_setCell w b i v) (S.setAt n hn (keeps_setCell w b i v) (heap_setCell_at (S.get n hn) v))⟩
  rw [S.cell n hn (Array.getElem?_eq_getElem hi)]
  rfl
theorem SH.sto3K (S : SH F w0 w H) (n : Nat) {b : Nat} {x0 x1 x2 v0 v1 v2 : Value} {t : TypeId} (hn : H[n]? = some (b, #[x0, x1, x2], t)) {k : World → Prop}
    (hk : ∀ w', Keeps (· = b) w w' → SH F w0 w' (H.set n (b, #[v0, v1, v2], t)) → k w') : STO ⟨b, 0, none⟩ v0 (fun w => STO ⟨b, 1, none⟩ v1 (fun w => STO ⟨b, 2, none⟩ v2 k w) w) w := by
  have hlt := (List.getElem?_eq_some_iff.1 hn).1
  refine S.stoK n hn (by simp) fun w1 K1 S1 => S1.stoK n (List.getElem?_set_self hlt) (by simp) fun w2 K2 S2 => S2.stoK n (cs := #[v0, v1, x2]) (t := t) ?_ (by simp) fun w3 K3 S3 => hk w3 ((K1.trans K2 (fun _ _ h => h)).trans K3 (fun _ _ h => h)) ?_
  · rw [List.set_set, List.getElem?_set_self hlt]
    rfl
  · have e : ((H.set n (b, #[x0, x1, x2].setIfInBounds 0 v0, t)).set n (b, (#[x0, x1, x2].setIfInBounds 0 v0).setIfInBounds 1 v1, t)).set n (b, #[v0, v1, x2].setIfInBounds 2 v2, t) = H.set n (b, #[v0, v1, v2], t) := by
      rw [List.set_set, List.set_set]
      rfl
    rw [← e]
    exact S3
theorem SH.ne (S : SH F w0 w H) (i j : Nat) {x y : Ent} (hi : H[i]? = some x) (hj : H[j]? = some y) (hne : i ≠ j) : x.1 ≠ y.1 :=
  nodup_ne S.nodup (by simp [hi]) (by simp [hj]) hne
end
theorem madeCells_size (z : Array Value) (n : Nat) : (madeCells z n).size = n := by simp [madeCells]
theorem madeCells_one (z : Value) (h : z.cells = #[z]) (n : Nat) : (madeCells z.cells n).toList = List.replicate n z := by
  rw [h]
  apply List.ext_getElem
  · simp [madeCells]
  · intro i h1 h2
    simp [madeCells, Nat.mod_one]
theorem make_new {P : Program} {t e : TypeId} {sz bytes : Nat} {z : Value} (hT : slT P t = some (e, sz, bytes, z)) {w : World} {l c : Int} (h0 : 0 ≤ l) (hlc : l ≤ c) (hb : (bytes : Int) * c ≤ 281474976710656) (hc : c ≤ 9223372036854775807)
    {f : Value → World → Prop} {kl kc : IntKind} (hf : ∀ b w', w.heap.size ≤ b → Below w.heap.size w w' → w'.heap[b]? = some (.cells (madeCells z.cells (c.toNat * sz)) e (0, 0)) → f (.slice (some ⟨b, 0, none⟩) l.toNat c.toNat) w') :
    OPR P (Instr.makeSlice t (.int kl l) (.int kc c)) f w := by
  obtain ⟨hu, i, hi, hiz, rfl, rfl⟩ := slT_out hT
  unfold OPR
  rw [run_make w t e i z hu hi hiz kl kc l c h0 hlc hb hc]
  exact hf _ _ (Nat.le_refl _) ((Below.refl _ w).alloc (Nat.le_refl _) _) (heap_alloc_new w _)
theorem make_row0 {P : Program} {t e : TypeId} {sz bytes : Nat} {z : Value} (hT : slT P t = some (e, sz, bytes, z)) {w : World} {c : Nat} (hb : bytes * c ≤ 281474976710656) (hc : c ≤ 9223372036854775807)
    {f : Value → World → Prop} {kl kc : IntKind} (hf : ∀ b w', w.heap.size ≤ b → Below w.heap.size w w' → Row w' e sz (some ⟨b, 0, none⟩) 0 c [] → f (.slice (some ⟨b, 0, none⟩) 0 c) w') :
    OPR P (Instr.makeSlice t (.int kl 0) (.int kc (c : Int))) f w := by
  refine make_new hT (l := 0) (c := (c : Int)) (by omega) (by omega) ?_ (by omega) fun b w' h1 h2 h3 => ?_
  · rw [← Int.natCast_mul]
    omega
  · rw [Int.toNat_natCast] at h3 ⊢
    exact hf b w' h1 h2 ⟨by simp, .inr ⟨b, _, rfl, h3, by omega, hc, by rw [madeCells_size], by simp⟩⟩
theorem sto_blk {w : World} {b : Nat} {cs : Array Value} {t : TypeId} (hb : w.heap[b]? = some (.cells cs t (0, 0))) {i : Nat} {v : Value} {k : World → Prop} (hi : i < cs.size)
    (hk : ∀ w', Keeps (· = b) w w' → w'.heap[b]? = some (.cells (cs.setIfInBounds i v) t (0, 0)) → k w') : STO ⟨b, i, none⟩ v k w := by
  refine ⟨?_, ?_, hk _ (keeps_setCell w b i v) (heap_setCell_at hb v)⟩
  · simp [World.cell?, hb, hi]
  · simp [World.frozen?, hb]
section
variable {F : Nat → Prop} {w0 w : World} {H : List Ent}
theorem SH.lit3 (S : SH F w0 w H) {z0 z1 z2 v0 v1 v2 : Value} {t : TypeId} {k : Nat → World → Prop} (hk : ∀ b w', w.heap.size ≤ b → Below w.heap.size w w' → SH F w0 w' ((b, #[v0, v1, v2], t) :: H) → k b w') :
    NEWB #[z0, z1, z2] t (fun b w => STO ⟨b, 0, none⟩ v0 (fun w => STO ⟨b, 1, none⟩ v1 (fun w => STO ⟨b, 2, none⟩ v2 (fun w => k b w) w) w) w) w := by
  refine S.newB fun b w1 hb B1 S1 => S1.sto3K 0 rfl fun w2 K2 S2 => hk b w2 hb (B1.trans (K2.below B1.size fun k hk he => by omega)) S2
end
theorem first_string {P : Program} {w : World} (s : ByteArray) : (Builtin.firstCells 1 s.size (.string s)).run P w = .ok ((bl s).map byteV).toArray w := by
  simp only [Builtin.firstCells, Sem.run_pure]
  congr 1
  apply Array.ext'
  have : s.extract 0 s.size = s := by rw [extract_eq]; apply bl_inj; rw [bl_sof, List.drop_zero, Nat.sub_zero, List.take_of_length_le (by rw [bl_length]; omega)]
  rw [this]
  simp [bl, byteV]
theorem append_string {P : Program} {t u ty e : TypeId} {bytes : Nat} {z : Value} (hT : slT P t = some (e, 1, bytes, z)) (hu' : P.underlying u = some .string) (hz : z.cells.size = 1) (hb0 : 0 < bytes)
    {w : World} {a : Option Addr} {n c : Nat} {xs : List Value} (hr : Row w e 1 a n c xs) (s : ByteArray) (hby : (n + s.size) * bytes ≤ 140737488355328) :
    ∃ a' c' w', (Builtin.append_ #[t, u] ty #[.slice a n c, .string s]).run P w = .ok (.slice a' (n + s.size) c') w' ∧ Row w' e 1 a' (n + s.size) c' (xs ++ (bl s).map byteV) ∧
      Keeps (fun k => rowB a = some k) w w' ∧ (∀ k, rowB a' = some k → rowB a = some k ∨ w.heap.size ≤ k) := by
  obtain ⟨hu, i, hi, hiz, hi1, rfl⟩ := slT_out hT
  have hnm : n + s.size ≤ 140737488355328 := Nat.le_trans (Nat.le_mul_of_pos_right _ hb0) hby
  have hl : ((bl s).map byteV).length = s.size := by rw [List.length_map, bl_length]
  have hlen : (xs ++ (bl s).map byteV).length = (n + s.size) * 1 := by rw [List.length_append, hr.1, hl]; omega
  have h1 : ∀ u ∈ (bl s).map byteV, u.oneCell' = true := by
    intro u hu
    obtain ⟨c, _, rfl⟩ := List.mem_map.1 hu
    exact byteV_one c
  have grown : ∀ (old : Nat), old < n + s.size → Row (w.drew.alloc (.cells (xs.toArray ++ ((bl s).map byteV).toArray ++ Builtin.zeroCells z.cells (grownCap w (n + s.size) old e - (n + s.size))) e)) e 1
      (some ⟨w.heap.size, 0, none⟩) (n + s.size) (grownCap w (n + s.size) old e) (xs ++ (bl s).map byteV) := by
    intro old ho
    have hge := grownCap_ge w (n + s.size) old e
    have hcm : grownCap w (n + s.size) old e ≤ maxLen := grownCap_le_maxLen w (n + s.size) old e (by unfold maxLen; omega)
    refine ⟨hlen, .inr ⟨w.heap.size, _, rfl, heap_alloc_new w.drew _, hge, by unfold maxLen at hcm; omega, ?_, ?_⟩⟩
    · simp only [Array.size_append, List.size_toArray, size_zeroCells, hz, hr.1, hl]
      omega
    · simp only [Array.toList_append, List.append_assoc]
      rw [← List.append_assoc, ← hlen]
      exact List.take_left
  have gkeeps : ∀ (cs : Array Value) (row : Nat → Prop), Keeps row w (w.drew.alloc (.cells cs e)) := fun cs row => (Keeps.refl row w).drew.alloc _
  have grow : ∀ (old : Nat) (olds : Value), (∀ w', w'.heap = w.heap → (Builtin.firstCells 1 n olds).run P w' = .ok xs.toArray w') → old < n + s.size → (∃ b0, olds = .slice b0 n old) →
      (Builtin.append_ #[t, u] ty #[olds, .string s]).run P w = .ok (.slice (some ⟨w.heap.size, 0, none⟩) (n + s.size) (grownCap w (n + s.size) old e))
        (w.drew.alloc (.cells (xs.toArray ++ ((bl s).map byteV).toArray ++ Builtin.zeroCells z.cells (grownCap w (n + s.size) old e - (n + s.size))) e)) := by
    rintro old _ hf ho ⟨b0, rfl⟩
    have hn : ¬ (n + s.size ≤ old) := by omega
    have h63' : ¬ (9223372036854775807 < ((n : Int) + (s.size : Int))) := by omega
    have h48' : ¬ (281474976710656 < Builtin.nextslicecap (n + s.size) old * i.bytes) := by have := growslice_fits (old := old) (need := n + s.size) ho hby; omega
    have hf' := hf w.drew rfl
    simp [Builtin.append_, run_underlying hu, run_underlying hu', sizeOf, typeInfo, zeroValue, hi, hiz, hi1, Builtin.lenOf, hn, h63', h48', Question.forced, hf', first_string, newRow, grownCap]
    congr 2
    apply Array.ext'
    simp [List.append_assoc]
  rcases hr.2 with ⟨rfl, rfl, rfl⟩ | ⟨g, cur, rfl, hg, hnc, hcm, hcs, htake⟩
  · have hx : xs = [] := List.eq_nil_of_length_eq_zero (by simpa using hr.1)
    subst hx
    by_cases hm : s.size = 0
    · have hn : (bl s).map byteV = [] := List.eq_nil_of_length_eq_zero (by rw [hl, hm])
      refine ⟨none, 0, w, ?_, by rw [hm, hn]; exact Row.nil w e 1, .refl _ _, by simp [rowB]⟩
      have := first_string (P := P) (w := w) s
      rw [hm] at this
      simp [Builtin.append_, run_underlying hu, run_underlying hu', sizeOf, typeInfo, hi, hi1, Builtin.lenOf, hm, this]
    · exact ⟨_, _, _, grow 0 (.slice none 0 0) (fun w' _ => by simp [Builtin.firstCells]) (by omega) ⟨_, rfl⟩, grown 0 (by omega), gkeeps _ _, fun k hk => .inr (by simp [rowB] at hk; omega)⟩
  · by_cases hroom : n + s.size ≤ c
    · have hfit : n + ((bl s).map byteV).length ≤ cur.size := by rw [hl, hcs]; omega
      have hst := run_storeCells_at P g n e ((bl s).map byteV) 0 cur w hg (by simpa using hfit) h1
      simp only [Nat.add_zero] at hst
      refine ⟨some ⟨g, 0, none⟩, c, _, ?_, ⟨hlen, .inr ⟨g, _, rfl, heap_setRow hg, hroom, hcm, ?_, ?_⟩⟩, (keeps_setRow w g (cur.toList.take n ++ (bl s).map byteV ++ cur.toList.drop (n + ((bl s).map byteV).length)).toArray).mono (fun k _ h => by subst h; rfl), fun k hk => .inl hk⟩
      · simp [Builtin.append_, run_underlying hu, run_underlying hu', sizeOf, typeInfo, hi, hi1, Builtin.lenOf, hroom, first_string, Addr.add_lit]
        rw [hst]
        simp
      · simp only [List.size_toArray, List.length_append, List.length_take, List.length_drop, Array.length_toList]
        omega
      · have hxl : cur.toList.take n = xs := by rw [← htake]; simp
        rw [hxl, ← hlen]
        exact List.take_left
    · have hold : ∀ w', w'.heap = w.heap → (Builtin.firstCells 1 n (.slice (some ⟨g, 0, none⟩) n c)).run P w' = .ok xs.toArray w' := by
        intro w' hw'
        refine run_firstCells_some (P := P) w' 1 n ⟨g, 0, none⟩ n c xs hr.1 fun j v hv => ?_
        obtain ⟨q, hq, hc⟩ := hr.rd j v hv
        cases hq
        have : w'.cell? ((⟨g, 0, none⟩ : Addr).add j) = w.cell? ((⟨g, 0, none⟩ : Addr).add j) := by unfold World.cell?; rw [hw']
        rw [this]
        exact hc
      exact ⟨_, _, _, grow c _ hold (by omega) ⟨_, rfl⟩, grown c (by omega), gkeeps _ _, fun k hk => .inr (by simp [rowB] at hk; omega)⟩
theorem append_zeros {P : Program} {t u ty e : TypeId} {sz bytes : Nat} {z : Value} (hT : slT P t = some (e, sz, bytes, z)) (hu' : P.underlying u = some (.int .i64)) (hz : z.cells.size = sz) (hsz : 0 < sz) (hb0 : 0 < bytes)
    {w : World} {m : Nat} (hm : 0 < m) (hby : m * bytes ≤ 140737488355328) :
    ∃ c' w', (Builtin.append_ #[t, u] ty #[.slice none 0 0, .int .i64 (m : Int)]).run P w = .ok (.slice (some ⟨w.heap.size, 0, none⟩) m c') w' ∧ Row w' e sz (some ⟨w.heap.size, 0, none⟩) 0 c' [] ∧ m ≤ c' ∧ Below w.heap.size w w' := by
  obtain ⟨hu, i, hi, hiz, rfl, rfl⟩ := slT_out hT
  have hnm : m ≤ 140737488355328 := Nat.le_trans (Nat.le_mul_of_pos_right _ hb0) hby
  have hge := grownCap_ge w m 0 e
  have hcm : grownCap w m 0 e ≤ maxLen := grownCap_le_maxLen w m 0 e (by unfold maxLen; omega)
  have hw : IntKind.i64.wrap (m : Int) = m := by rw [IntKind.wrap_i64]; omega
  have h1 : ¬ ((m : Int) < 0) := by omega
  have h2 : ¬ (281474976710656 < (m : Int) * (i.bytes : Int)) := by rw [← Int.natCast_mul]; omega
  have h3 : ¬ (m * i.size = 0) := by have := Nat.mul_pos hm hsz; omega
  have h4 : ¬ (m ≤ 0) := by omega
  have h5 : ¬ (9223372036854775807 < (m : Int)) := by omega
  have h6 : ¬ (281474976710656 < Builtin.nextslicecap m 0 * i.bytes) := by rw [nextslicecap_zero hm]; omega
  have h7 : ¬ (m = 0) := by omega
  have h8 : ¬ (i.size = 0) := by omega
  refine ⟨grownCap w m 0 e, w.drew.alloc (.cells (Builtin.zeroCells z.cells m ++ Builtin.zeroCells z.cells (grownCap w m 0 e - m)) e), ?_, ?_, hge, ((Below.refl _ w).drew).alloc (Nat.le_refl _) _⟩
  · simp [Builtin.append_, run_underlying hu, run_underlying hu', sizeOf, typeInfo, zeroValue, hi, hiz, asInt, asIntOf, hw, h1, h2, h5, h6, h7, Question.forced, Builtin.firstCells, newRow, grownCap]
    intro h
    exact absurd h h3
  · refine ⟨by simp, .inr ⟨w.heap.size, _, rfl, heap_alloc_new w.drew _, by omega, by unfold maxLen at hcm; omega, ?_, by simp⟩⟩
    rw [Array.size_append, size_zeroCells, size_zeroCells, hz, ← Nat.add_mul]
    congr 1
    omega
theorem LIKEL_ints (kd : IntKind) : ∀ (us : List Int) {n : Nat} {f : List Value → Prop}, us.length = n → f (us.map (.int kd)) → LIKEL (List.replicate n (.int kd 0)) f
  | [], _, _, hn, h => by subst hn; exact h
  | u :: us, _, _, hn, h => by subst hn; exact ⟨u, LIKEL_ints kd us rfl h⟩
theorem LOADC_ints (kd : IntKind) : ∀ (us : List Int) {n : Nat} {a : Addr} {i : Nat} {k : List Value → Prop} {w : World}, us.length = n → (∀ j u, us[j]? = some u → w.cell? (a.add (i + j)) = some (.int kd u)) →
    k (us.map (.int kd)) → LOADC (List.replicate n (.int kd 0)) a i k w
  | [], _, _, _, _, _, hn, _, h => by subst hn; exact h
  | u :: us, _, a, i, k, w, hn, hc, h => by
    subst hn
    exact ⟨u, hc 0 u rfl, LOADC_ints kd us rfl (fun j x hj => by have := hc (j + 1) x (by simpa using hj); rwa [show i + (j + 1) = i + 1 + j by omega] at this) h⟩
theorem LOADC_rd (kd : IntKind) (us : List Int) {n : Nat} {a : Addr} {k : List Value → Prop} {w : World} (hn : us.length = n) (hr : Rd w (some a) (us.map (.int kd))) (h : k (us.map (.int kd))) :
    LOADC (List.replicate n (.int kd 0)) a 0 k w :=
  LOADC_ints kd us hn (fun j u hj => by
    obtain ⟨p, hp, hc⟩ := hr j (.int kd u) (by simp [hj])
    cases hp
    simpa using hc) h
def splice : Array Value → Nat → List Value → Array Value
  | cs, _, [] => cs
  | cs, i, v :: vs => splice (cs.setIfInBounds i v) (i + 1) vs
theorem splice_toList : ∀ (vs : List Value) (cs : Array Value) (i : Nat), i + vs.length ≤ cs.size → (splice cs i vs).toList = cs.toList.take i ++ vs ++ cs.toList.drop (i + vs.length)
  | [], cs, i, _ => by simp [splice]
  | v :: vs, cs, i, h => by
    simp only [List.length_cons] at h
    rw [splice, splice_toList vs _ _ (by simp; omega)]
    apply List.ext_getElem?
    intro j
    simp only [Array.toList_setIfInBounds, List.length_cons, List.getElem?_append, List.length_append, List.length_take, List.length_set, Array.length_toList, List.getElem?_take, List.getElem?_drop]
    grind
theorem splice_all (vs : List Value) (cs : Array Value) (h : vs.length = cs.size) : splice cs 0 vs = ⟨vs⟩ := by
  apply Array.ext'
  rw [splice_toList vs cs 0 (by omega)]
  simp [h]
theorem STOREC_blk : ∀ (vs : List Value) {w : World} {b : Nat} {cs : Array Value} {t : TypeId} {i : Nat} {k : World → Prop}, w.heap[b]? = some (.cells cs t (0, 0)) → i + vs.length ≤ cs.size → (∀ v ∈ vs, v.oneCell' = true) →
    (∀ w', Keeps (· = b) w w' → w'.heap[b]? = some (.cells (splice cs i vs) t (0, 0)) → k w') → STOREC vs ⟨b, 0, none⟩ i k w
  | [], w, _, _, _, _, _, hb, _, _, hk => hk w (.refl _ w) hb
  | v :: vs, w, b, cs, t, i, k, hb, hi, h1, hk => by
    simp only [List.length_cons] at hi
    unfold STOREC
    rw [h1 v (by simp), addr_add_blk, Nat.zero_add]
    exact sto_blk hb (by omega) fun w1 K1 hb1 => STOREC_blk vs hb1 (by simp; omega) (fun x hx => h1 x (by simp [hx])) fun w2 K2 hb2 => hk w2 (K1.trans K2 (fun _ _ h => h)) hb2
theorem SH.stoAll {F : Nat → Prop} {w0 w : World} {H : List Ent} (S : SH F w0 w H) (n : Nat) {b : Nat} {cs : Array Value} {t : TypeId} (hn : H[n]? = some (b, cs, t)) {vs : List Value} (hl : vs.length = cs.size) (h1 : ∀ v ∈ vs, v.oneCell' = true)
    {k : World → Prop} (hk : ∀ w', Keeps (· = b) w w' → SH F w0 w' (H.set n (b, ⟨vs⟩, t)) → k w') : STOREC vs ⟨b, 0, none⟩ 0 k w :=
  STOREC_blk vs (S.get n hn) (by omega) h1 fun w' K hb => hk w' K (S.setAt n hn K (by rw [splice_all vs cs hl] at hb; exact hb))
theorem ints_one (kd : IntKind) (us : List Int) : ∀ v ∈ us.map (Value.int kd), v.oneCell' = true := by
  intro v hv
  obtain ⟨u, _, rfl⟩ := List.mem_map.1 hv
  rfl
end Go.Dn
namespace Go.Proofs.YtpnaifmmggnimaaGreatDoor
set_option maxRecDepth 100000
open Go.Dn Go.Proofs
set_option linter.unusedVariables false
abbrev Wd := BitVec 32
def wI (x : Wd) : Int := (x.toNat : Int)
def rotR (x : Wd) (r : Nat) : Wd := (x >>> r) ||| (x <<< (32 - r))
theorem shl32 (x : Wd) (k : Nat) : BitVec.ofInt 32 (IntKind.u32.wrap ((x.toNat : Int) * 2 ^ k)) = x <<< k := by
  rw [ofInt_wrap32]
  apply BitVec.eq_of_toNat_eq
  rw [BitVec.toNat_ofInt, BitVec.toNat_shiftLeft, Nat.shiftLeft_eq]
  have : ((x.toNat : Int) * 2 ^ k) = ((x.toNat * 2 ^ k : Nat) : Int) := by simp
  rw [this]
  omega
theorem shr32 (x : Wd) (k : Nat) : BitVec.ofInt 32 (Int.fdiv (x.toNat : Int) (2 ^ k)) = x >>> k := by
  rw [fdiv_shift, ofInt_nat]
theorem add32 (x y : Wd) : IntKind.u32.wrap ((x.toNat : Int) + (y.toNat : Int)) = ((x + y).toNat : Int) := by
  rw [wrap_u32, BitVec.toNat_add]
  omega
theorem xor32 (x y : Wd) : IntKind.u32.wrap (((BitVec.ofInt 32 (x.toNat : Int) ^^^ BitVec.ofInt 32 (y.toNat : Int)).toNat : Int)) = ((x ^^^ y).toNat : Int) := by
  rw [ofInt_nat, ofInt_nat, wrap32_nat]
theorem rot_ok (x : Wd) (r : Nat) (hr : r = 16 ∨ r = 12 ∨ r = 8 ∨ r = 7) (w : World) :
    Calls Tryz.prog f.math_bits_RotateLeft32 #[.int .u32 (x.toNat : Int), .int .i64 (IntKind.i64.wrap (0 - (r : Int)))] w (Ret fun v w' => v = .int .u32 ((rotR x r).toNat : Int) ∧ w' = w) := by
  have e1 : IntKind.u64.wrap (((BitVec.ofInt 64 (IntKind.u64.wrap (IntKind.i64.wrap (0 - (r : Int)))) &&& BitVec.ofInt 64 31).toNat : Int)) = ((32 - r : Nat) : Int) := by
    rcases hr with rfl | rfl | rfl | rfl <;> rfl
  have e2 : IntKind.u64.wrap (32 - ((32 - r : Nat) : Int)) = (r : Int) := by
    rcases hr with rfl | rfl | rfl | rfl <;> rfl
  have hlt : r < 32 := by omega
  apply R.math_bits_RotateLeft32_calls
  unfold R.math_bits_RotateLeft32
  rw [e1, e2]
  refine ⟨by omega, by omega, ?_, rfl⟩
  rw [Int.toNat_natCast, Int.toNat_natCast, Nat.min_eq_left (by omega), Nat.min_eq_left (by omega), shl32, shr32, wrap32_nat, BitVec.or_comm]
  rfl
def halfP (a b c d x : Wd) (r s : Nat) : Wd × Wd × Wd × Wd :=
  let a := a + (b + x)
  let d := rotR (d ^^^ a) r
  let c := c + d
  let b := rotR (b ^^^ c) s
  (a, b, c, d)
theorem half_ok (a b c d x : Wd) (r s : Nat) (hr : r = 16 ∨ r = 12 ∨ r = 8 ∨ r = 7) (hs : s = 16 ∨ s = 12 ∨ s = 8 ∨ s = 7) (w : World) :
    Calls Tryz.prog f.hash_half #[.int .u32 (a.toNat : Int), .int .u32 (b.toNat : Int), .int .u32 (c.toNat : Int), .int .u32 (d.toNat : Int), .int .u32 (x.toNat : Int), .int .i64 (r : Int), .int .i64 (s : Int)] w
      (Ret fun v w' => v = .tuple #[.int .u32 ((halfP a b c d x r s).1.toNat : Int), .int .u32 ((halfP a b c d x r s).2.1.toNat : Int), .int .u32 ((halfP a b c d x r s).2.2.1.toNat : Int), .int .u32 ((halfP a b c d x r s).2.2.2.toNat : Int)] ∧ w' = w) := by
  apply R.hash_half_calls
  unfold R.hash_half
  rw [add32, add32, xor32]
  refine (rot_ok _ r hr w).mono ?_
  rintro _ w ⟨_, rfl, rfl, rfl⟩
  refine ⟨_, rfl, ?_⟩
  rw [add32, xor32]
  refine (rot_ok _ s hs w).mono ?_
  rintro _ w ⟨_, rfl, rfl, rfl⟩
  exact ⟨_, rfl, rfl, rfl⟩
end Go.Proofs.YtpnaifmmggnimaaGreatDoor
namespace Go.Proofs.YtpnaifmmggnimaaGreatDoor
set_option maxRecDepth 100000
open Go.Dn Go.Proofs
open Go.RowKit (Below)
set_option linter.unusedVariables false
def wV (x : Wd) : Value := .int .u32 (x.toNat : Int)
theorem map_wV (v : List Wd) : v.map wV = (v.map wI).map (.int .u32) := by simp [wV, wI]
theorem LIKEL_wd (v : List Wd) {n : Nat} {f : List Value → Prop} (hn : v.length = n) (h : f (v.map wV)) : LIKEL (List.replicate n (.int .u32 0)) f :=
  LIKEL_ints .u32 (v.map wI) (by simpa using hn) (by rw [← map_wV]; exact h)
theorem LOADC_wd (v : List Wd) {n : Nat} {a : Addr} {k : List Value → Prop} {w : World} (hn : v.length = n) (hr : Rd w (some a) (v.map wV)) (h : k (v.map wV)) : LOADC (List.replicate n (.int .u32 0)) a 0 k w :=
  LOADC_rd .u32 (v.map wI) (by simpa using hn) (by rw [← map_wV]; exact hr) (by rw [← map_wV]; exact h)
theorem wd_one (v : List Wd) : ∀ x ∈ v.map wV, x.oneCell' = true := by
  rw [map_wV]
  exact ints_one _ _
theorem BIF_len {vs : List Value} {n : Nat} {X : Prop} (h : vs.length = n) (hx : X) : bif (Nat.beq (List.length vs) n && true) then X else False := by
  subst h
  rw [Nat.beq_refl]
  exact hx
section
variable {F : Nat → Prop} {w0 w : World} {H : List Ent}
theorem _root_.Go.Dn.SH.wd (S : SH F w0 w H) (n : Nat) {b : Nat} {v : List Wd} {t : TypeId} (hn : H[n]? = some (b, ⟨v.map wV⟩, t)) {j x : Nat} (hj : j < v.length) (hx : x = j) : w.cell? ((⟨b, 0, none⟩ : Addr).add (x * 1)) = some (.int .u32 ((v.getD j 0).toNat : Int)) := by
  subst hx
  rw [addr_add_blk, Nat.zero_add, Nat.mul_one]
  refine S.cell n hn ?_
  simp [hj, wV]
theorem _root_.Go.Dn.SH.by8 (S : SH F w0 w H) (n : Nat) {b : Nat} {v : List Int} {t : TypeId} (hn : H[n]? = some (b, ⟨v.map (.int .u8)⟩, t)) {j x : Nat} (hj : j < v.length) (hx : x = j) : w.cell? ((⟨b, 0, none⟩ : Addr).add (x * 1)) = some (.int .u8 (v.getD j 0)) := by
  subst hx
  rw [addr_add_blk, Nat.zero_add, Nat.mul_one]
  refine S.cell n hn ?_
  simp [hj]
theorem _root_.Go.Dn.SH.wdsto (S : SH F w0 w H) (n : Nat) {b : Nat} {v : List Wd} {t : TypeId} (hn : H[n]? = some (b, ⟨v.map wV⟩, t)) {j x : Nat} (hj : j < v.length) (hx : x = j) {y : Wd} {k : World → Prop}
    (hk : ∀ w', SH F w0 w' (H.set n (b, ⟨(v.set j y).map wV⟩, t)) → k w') : STO ((⟨b, 0, none⟩ : Addr).add (x * 1)) (.int .u32 (y.toNat : Int)) k w := by
  subst hx
  rw [addr_add_blk, Nat.zero_add, Nat.mul_one]
  refine S.sto n hn (by simpa using hj) fun w' S' => hk w' ?_
  have e : (⟨v.map wV⟩ : Array Value).setIfInBounds x (.int .u32 (y.toNat : Int)) = ⟨(v.set x y).map wV⟩ := by
    apply Array.ext'
    simp [wV, List.map_set]
  rw [e] at S'
  exact S'
theorem _root_.Go.Dn.SH.lit4 (S : SH F w0 w H) {z0 z1 z2 z3 v0 v1 v2 v3 : Value} {t : TypeId} {k : Nat → World → Prop} (hk : ∀ b w', SH F w0 w' ((b, #[v0, v1, v2, v3], t) :: H) → k b w') :
    NEWB #[z0, z1, z2, z3] t (fun b w => STO ⟨b, 0, none⟩ v0 (fun w => STO ⟨b, 1, none⟩ v1 (fun w => STO ⟨b, 2, none⟩ v2 (fun w => STO ⟨b, 3, none⟩ v3 (fun w => k b w) w) w) w) w) w :=
  S.newB fun b w1 _ _ S1 => S1.sto 0 rfl (by simp) fun w2 S2 => S2.sto 0 rfl (by simp) fun w3 S3 => S3.sto 0 rfl (by simp) fun w4 S4 => S4.sto 0 rfl (by simp) fun w5 S5 => hk b w5 S5
end
def firstL : List Wd := [0x6a09e667, 0xbb67ae85, 0x3c6ef372, 0xa54ff53a, 0x510e527f, 0x9b05688c, 0x1f83d9ab, 0x5be0cd19]
def ordersL : List Int := [0, 1, 2, 3, 4, 5, 6, 7, 8, 9, 10, 11, 12, 13, 14, 15,
  14, 10, 4, 8, 9, 15, 13, 6, 1, 12, 0, 2, 11, 7, 5, 3,
  11, 8, 12, 0, 5, 2, 15, 13, 10, 14, 3, 6, 7, 1, 9, 4,
  7, 9, 3, 1, 13, 12, 11, 14, 2, 6, 5, 10, 4, 0, 15, 8,
  9, 0, 5, 7, 2, 4, 10, 15, 14, 1, 11, 12, 6, 8, 3, 13,
  2, 12, 6, 10, 0, 11, 8, 3, 4, 13, 7, 5, 15, 14, 1, 9,
  12, 5, 1, 15, 14, 13, 4, 10, 0, 7, 6, 3, 9, 2, 8, 11,
  13, 11, 7, 14, 12, 1, 3, 9, 5, 0, 15, 4, 8, 6, 2, 10,
  6, 15, 14, 9, 11, 3, 0, 8, 12, 2, 13, 7, 1, 4, 10, 5,
  10, 2, 8, 4, 7, 6, 1, 5, 15, 11, 9, 14, 3, 12, 13, 0]
def hplacesL : List Int := [0, 4, 8, 12, 1, 5, 9, 13, 2, 6, 10, 14, 3, 7, 11, 15, 0, 5, 10, 15, 1, 6, 11, 12, 2, 7, 8, 13, 3, 4, 9, 14]
def plc (i j : Nat) : Nat := (hplacesL.getD (i * 4 + j) 0).toNat
def ordRow (r : Nat) : List Int := (ordersL.drop (r * 16)).take 16
def ord (r j : Nat) : Nat := ((ordRow r).getD j 0).toNat
theorem plc_lt : ∀ i, i < 8 → ∀ j, j < 4 → plc i j < 16 := by decide
theorem ord_lt : ∀ r, r < 10 → ∀ j, j < 16 → ord r j < 16 := by decide
theorem ord_eq : ∀ r, r < 10 → ∀ j, j < 16 → (ordRow r).getD j 0 = (ord r j : Int) := by decide
theorem plc_eq : ∀ i, i < 8 → (hplacesL.drop (i * 4)).take 4 = [(plc i 0 : Int), (plc i 1 : Int), (plc i 2 : Int), (plc i 3 : Int)] := by decide
theorem ordRow_len : ∀ r, r < 10 → (ordRow r).length = 16 := by decide
def stepP (m : List Wd) (r i : Nat) (v : List Wd) : List Wd :=
  let h1 := halfP (v.getD (plc i 0) 0) (v.getD (plc i 1) 0) (v.getD (plc i 2) 0) (v.getD (plc i 3) 0) (m.getD (ord r (2 * i)) 0) 16 12
  let h2 := halfP h1.1 h1.2.1 h1.2.2.1 h1.2.2.2 (m.getD (ord r (2 * i + 1)) 0) 8 7
  (((v.set (plc i 0) h2.1).set (plc i 1) h2.2.1).set (plc i 2) h2.2.2.1).set (plc i 3) h2.2.2.2
def innerP (m : List Wd) (r : Nat) (v : List Wd) : Nat → List Wd
  | 0 => v
  | i + 1 => stepP m r i (innerP m r v i)
def outerP (m v : List Wd) : Nat → List Wd
  | 0 => v
  | r + 1 => innerP m r (outerP m v r) 8
theorem innerP_len (m : List Wd) (r : Nat) (v : List Wd) : ∀ i, (innerP m r v i).length = v.length
  | 0 => rfl
  | i + 1 => by simp [innerP, stepP, innerP_len m r v i]
theorem outerP_len (m v : List Wd) : ∀ r, (outerP m v r).length = v.length
  | 0 => rfl
  | r + 1 => by simp [outerP, innerP_len, outerP_len m v r]
structure Tabs (w : World) : Prop where
  first : Rd w (some ⟨0, 0, none⟩) (firstL.map wV)
  orders : Rd w (some ⟨1, 0, none⟩) (ordersL.map (.int .u8))
  places : Rd w (some ⟨2, 0, none⟩) (hplacesL.map (.int .u8))
theorem Tabs.grown {w w' : World} (h : Tabs w) (B : Below w.heap.size w w') : Tabs w' := ⟨h.first.grown B, h.orders.grown B, h.places.grown B⟩
theorem int1 {x : Int} {n : Nat} (h : [Value.int .i64 x] = [.int .i64 (n : Int)]) : x = (n : Int) := by simpa using h
theorem rounds_ok {w : World} (T : Tabs w) (v m : List Wd) (hv : v.length = 16) (hm : m.length = 16) :
    Calls Tryz.prog f.hash_rounds #[.agg ⟨v.map wV⟩, .agg ⟨m.map wV⟩] w (Ret fun r w' => r = .agg ⟨(outerP m v 10).map wV⟩ ∧ Below w.heap.size w w') := by
  apply R.hash_rounds_calls
  unfold R.hash_rounds
  refine (SH.start (fun _ => False) w).newB fun b3 w1 _ _ S => S.newB fun b4 w2 _ _ S => S.newB fun b5 w3 _ _ S => ?_
  refine LOADC_rd .u8 ordersL rfl (T.orders.grown S.below) ?_
  refine ⟨fun st w' => ∃ r : Nat, st = [.int .i64 (r : Int)] ∧ r ≤ 10 ∧ SH (fun _ => False) w w' [(b5, ⟨List.replicate 16 (.int .u32 0)⟩, 224), (b4, ⟨m.map wV⟩, 224), (b3, ⟨(outerP m v r).map wV⟩, 224)],
    fun st _ => match st with | [.int _ t] => (10 - t).toNat | _ => 0, ⟨0, rfl, by omega, S⟩, ?_⟩
  rintro t w4 ⟨r, hst, hr, S⟩
  cases int1 hst
  have hlen := (outerP_len m v r).trans hv
  refine IFB_dec (fun hlt => ⟨⟨by omega, hlt⟩, ?_⟩) (fun hge => ?_)
  · have hr10 : r < 10 := by omega
    refine LIKEL_ints .u8 (ordRow r) (ordRow_len r hr10) ⟨by rw [Int.toNat_natCast]; simp [ordRow, List.map_take, List.map_drop], ?_⟩
    refine S.newB fun b12 w6 _ _ S => BIF_len (by simp [ordRow_len r hr10]) (S.stoAll 0 rfl (by simp [ordRow_len r hr10]) (ints_one _ _) fun w7 _ S => ?_)
    refine LOADC_rd .u8 hplacesL rfl (T.places.grown S.below) ?_
    refine ⟨fun st w' => ∃ i : Nat, st = [.int .i64 (i : Int)] ∧ i ≤ 8 ∧ SH (fun _ => False) w w' [(b12, ⟨(ordRow r).map (.int .u8)⟩, 296), (b5, ⟨List.replicate 16 (.int .u32 0)⟩, 224), (b4, ⟨m.map wV⟩, 224), (b3, ⟨(innerP m r (outerP m v r) i).map wV⟩, 224)],
      fun st _ => match st with | [.int _ t] => (8 - t).toNat | _ => 0, ⟨0, rfl, by omega, S⟩, ?_⟩
    rintro t w8 ⟨i, hst, hi, S⟩
    cases int1 hst
    have hlen2 := (innerP_len m r (outerP m v r) i).trans hlen
    refine IFB_dec (fun hlt2 => ⟨⟨by omega, hlt2⟩, ?_⟩) (fun hge2 => ?_)
    · have hi8 : i < 8 := by omega
      refine ⟨_, _, _, _, by rw [Int.toNat_natCast, ← List.map_drop, ← List.map_take, plc_eq i hi8]; rfl, ?_⟩
      have e2 : IntKind.i64.wrap (2 * (i : Int)) = ((2 * i : Nat) : Int) := by rw [wrap_i64 (by omega) (by omega)]; omega
      have e3 : IntKind.i64.wrap (((2 * i : Nat) : Int) + 1) = ((2 * i + 1 : Nat) : Int) := wrap_succ (by omega)
      have p0 := plc_lt i hi8 0 (by omega)
      have p1 := plc_lt i hi8 1 (by omega)
      have p2 := plc_lt i hi8 2 (by omega)
      have p3 := plc_lt i hi8 3 (by omega)
      have o0 := ord_lt r hr10 (2 * i) (by omega)
      have o1 := ord_lt r hr10 (2 * i + 1) (by omega)
      have hrow := ordRow_len r hr10
      rw [e2, e3]
      refine S.lit4 fun b20 w13 S => S.draw fun w14 S => ?_
      refine ⟨⟨by omega, by omega⟩, _, S.cell 0 rfl rfl, ⟨by omega, by omega⟩, _, S.wd 4 rfl (by omega) (Int.toNat_natCast _), _, S.cell 0 rfl rfl, ⟨by omega, by omega⟩, _, S.wd 4 rfl (by omega) (Int.toNat_natCast _),
        _, S.cell 0 rfl rfl, ⟨by omega, by omega⟩, _, S.wd 4 rfl (by omega) (Int.toNat_natCast _), _, S.cell 0 rfl rfl, ⟨by omega, by omega⟩, _, S.wd 4 rfl (by omega) (Int.toNat_natCast _),
        _, (S.by8 1 rfl (by omega) (Int.toNat_natCast _)).trans (by rw [ord_eq r hr10 _ (by omega)]), ⟨by omega, by omega⟩, _, S.wd 3 rfl (by omega) (Int.toNat_natCast _), ?_⟩
      refine (half_ok _ _ _ _ _ 16 12 (by simp) (by simp) w14).mono ?_
      rintro _ w15 ⟨_, rfl, rfl, rfl⟩
      refine ⟨_, _, _, _, rfl, S.draw fun w16 S => ?_⟩
      refine ⟨⟨by omega, by omega⟩, _, S.cell 0 rfl rfl, _, S.cell 0 rfl rfl, _, S.cell 0 rfl rfl, _, S.cell 0 rfl rfl,
        _, (S.by8 1 rfl (by omega) (Int.toNat_natCast _)).trans (by rw [ord_eq r hr10 _ (by omega)]), ⟨by omega, by omega⟩, _, S.wd 3 rfl (by omega) (Int.toNat_natCast _), ?_⟩
      refine (half_ok _ _ _ _ _ 8 7 (by simp) (by simp) w16).mono ?_
      rintro _ w17 ⟨_, rfl, rfl, rfl⟩
      refine ⟨_, _, _, _, rfl, S.cell 0 rfl rfl, S.cell 0 rfl rfl, S.cell 0 rfl rfl, S.cell 0 rfl rfl, ⟨by omega, by omega⟩, S.wdsto 4 rfl (by omega) (Int.toNat_natCast _) fun w18 S => ?_⟩
      refine ⟨S.cell 0 rfl rfl, S.cell 0 rfl rfl, S.cell 0 rfl rfl, ⟨by omega, by omega⟩, S.wdsto 4 rfl (by simp; omega) (Int.toNat_natCast _) fun w19 S => ?_⟩
      refine ⟨S.cell 0 rfl rfl, S.cell 0 rfl rfl, ⟨by omega, by omega⟩, S.wdsto 4 rfl (by simp; omega) (Int.toNat_natCast _) fun w20 S => ?_⟩
      refine ⟨S.cell 0 rfl rfl, ⟨by omega, by omega⟩, S.wdsto 4 rfl (by simp; omega) (Int.toNat_natCast _) fun w21 S => ?_⟩
      rw [wrap_succ (by omega)]
      exact ⟨⟨i + 1, rfl, by omega, S.drop 1⟩, by show (8 - ((i + 1 : Nat) : Int)).toNat < (8 - (i : Int)).toNat; omega⟩
    · have hi8 : i = 8 := by omega
      subst hi8
      rw [wrap_succ (by omega)]
      exact ⟨⟨r + 1, rfl, by omega, S.drop 1⟩, by show (10 - ((r + 1 : Nat) : Int)).toNat < (10 - (r : Int)).toNat; omega⟩
  · have hr10 : r = 10 := by omega
    have hl2 : ((outerP m v r).map wV).length = 16 := by rw [List.length_map]; exact hlen
    refine LOADC_wd (outerP m v r) hlen (Rd.of_block0 (S.get 2 rfl)) ?_
    refine BIF_len hl2 (S.stoAll 0 rfl hl2 (wd_one _) fun w5 _ S => ?_)
    exact LOADC_wd (outerP m v r) hlen (Rd.of_block0 (S.get 0 rfl)) ⟨by rw [hr10], S.below⟩
end Go.Proofs.YtpnaifmmggnimaaGreatDoor
namespace Go.Dn
set_option linter.unusedVariables false
set_option maxRecDepth 100000
open Go.RowKit (Below)
theorem SH.copy {F : Nat → Prop} {w0 w : World} {H : List Ent} (S : SH F w0 w H) (n : Nat) {b : Nat} {cs : Array Value} {t : TypeId} (hn : H[n]? = some (b, cs, t)) {P : Program} {dT sT ty elem : TypeId} (hu : P.underlying dT = some (.slice elem))
    (hs : (P.info? elem).map (·.size) = some 1) {a : Option Addr} {xs : List Value} {sLen sCap dLen dCap : Nat} (hx : xs.length = sLen) (hd : dLen ≤ cs.size) (hr : Rd w a xs) (h1 : ∀ v ∈ xs, v.oneCell' = true) {f : Value → World → Prop}
    (hf : ∀ w', Keeps (· = b) w w' → SH F w0 w' (H.set n (b, ⟨xs.take dLen ++ cs.toList.drop (min sLen dLen)⟩, t)) → f (.int .i64 ((min sLen dLen : Nat) : Int)) w') :
    OPR P (Builtin.copy_ #[dT, sT] ty #[.slice (some ⟨b, 0, none⟩) dLen dCap, .slice a sLen sCap]) f w := by
  have hg := S.get n hn
  cases a with
  | none =>
    have hx0 : xs = [] := by
      cases xs with
      | nil => rfl
      | cons x r =>
        obtain ⟨p, hp, _⟩ := hr 0 x rfl
        cases hp
    subst hx0
    have hs0 : sLen = 0 := hx.symm
    subst hs0
    unfold OPR
    rw [run_copy_none w dT sT ty elem (some ⟨b, 0, none⟩) none dLen dCap 0 sCap hu hs (by simp)]
    have := hf w (.refl _ w) (S.setAt n hn (.refl _ w) (by simpa using hg))
    simpa [goInt] using this
  | some p =>
    have hl : (xs.take dLen).length = Nat.min sLen dLen := by rw [List.length_take, hx]; exact Nat.min_comm _ _
    have hc := run_copy_row P w dT sT ty elem b 0 dLen dCap p sLen sCap cs t (xs.take dLen) hu hs hg hl (fun j v hj => by
      rw [List.getElem?_take] at hj
      split at hj
      · obtain ⟨q, hq, hc⟩ := hr j v hj
        cases hq
        exact hc
      · cases hj) (by rw [hl, Nat.zero_add]; exact Nat.le_trans (Nat.min_le_right _ _) hd) (fun v hv => h1 v (List.mem_of_mem_take hv))
    unfold OPR
    rw [hc]
    have hl' : (xs.take dLen).length = min sLen dLen := hl
    have e : (cs.toList.take 0 ++ xs.take dLen ++ cs.toList.drop (0 + (xs.take dLen).length)).toArray = ⟨xs.take dLen ++ cs.toList.drop (min sLen dLen)⟩ := by
      rw [hl']
      simp
    rw [e]
    have := hf _ (keeps_setRow w b _) (S.setAt n hn (keeps_setRow w b _) (heap_setRow hg))
    simpa only [goInt, hl'] using this
end Go.Dn
namespace Go.Proofs.YtpnaifmmggnimaaGreatDoor
set_option maxRecDepth 100000
open Go.Dn Go.Proofs
open Go.RowKit (Below)
set_option linter.unusedVariables false
def uI (c : UInt8) : Int := (c.toNat : Int)
theorem map_byteV (l : List UInt8) : l.map byteV = (l.map uI).map (.int .u8) := by simp [byteV, uI, Function.comp_def]
theorem LOADC_by (l : List UInt8) {n : Nat} {a : Addr} {k : List Value → Prop} {w : World} (hn : l.length = n) (hr : Rd w (some a) (l.map byteV)) (h : k (l.map byteV)) : LOADC (List.replicate n (.int .u8 0)) a 0 k w :=
  LOADC_rd .u8 (l.map uI) (by simpa using hn) (by rw [← map_byteV]; exact hr) (by rw [← map_byteV]; exact h)
section
variable {F : Nat → Prop} {w0 w : World} {H : List Ent}
theorem _root_.Go.Dn.SH.wd' (S : SH F w0 w H) (n : Nat) {b : Nat} {v : List Wd} {t : TypeId} (hn : H[n]? = some (b, ⟨v.map wV⟩, t)) {j : Nat} (hj : j < v.length) : w.cell? ⟨b, j, none⟩ = some (.int .u32 ((v.getD j 0).toNat : Int)) := by
  have := S.wd n hn hj rfl
  rwa [addr_add_blk, Nat.zero_add, Nat.mul_one] at this
theorem _root_.Go.Dn.SH.wdsto' (S : SH F w0 w H) (n : Nat) {b : Nat} {v : List Wd} {t : TypeId} (hn : H[n]? = some (b, ⟨v.map wV⟩, t)) {j : Nat} (hj : j < v.length) {y : Wd} {k : World → Prop}
    (hk : ∀ w', SH F w0 w' (H.set n (b, ⟨(v.set j y).map wV⟩, t)) → k w') : STO ⟨b, j, none⟩ (.int .u32 (y.toNat : Int)) k w := by
  have := S.wdsto n hn hj rfl hk
  rwa [addr_add_blk, Nat.zero_add, Nat.mul_one] at this
end
def byW (c : UInt8) : Wd := BitVec.ofNat 32 c.toNat
def mO (blk : List UInt8) : Nat → List Wd
  | 0 => List.replicate 16 0
  | i + 1 => (mO blk i).set (i / 4) ((mO blk i).getD (i / 4) 0 ||| (byW (blk.getD i 0) <<< (8 * (i % 4))))
theorem mO_len (blk : List UInt8) : ∀ i, (mO blk i).length = 16
  | 0 => by simp [mO]
  | i + 1 => by simp [mO, mO_len blk i]
def vF (h : List Wd) : Nat → List Wd
  | 0 => h ++ List.replicate 8 0
  | i + 1 => (vF h i).set (8 + i) (firstL.getD i 0)
theorem vF_len (h : List Wd) (hh : h.length = 8) : ∀ i, (vF h i).length = 16
  | 0 => by simp [vF, hh]
  | i + 1 => by simp [vF, vF_len h hh i]
def vN (v : List Wd) (n : Nat) (last : Bool) : List Wd :=
  let v := v.set 12 (v.getD 12 0 ^^^ BitVec.ofNat 32 n)
  let v := v.set 13 (v.getD 13 0 ^^^ BitVec.ofNat 32 (n / 4294967296))
  if last then v.set 14 (4294967295 ^^^ v.getD 14 0) else v
theorem vN_len (v : List Wd) (n : Nat) (last : Bool) : (vN v n last).length = v.length := by
  unfold vN
  cases last <;> simp
def hF (h v : List Wd) : Nat → List Wd
  | 0 => h
  | i + 1 => (hF h v i).set i ((hF h v i).getD i 0 ^^^ (v.getD i 0 ^^^ v.getD (i + 8) 0))
theorem hF_len (h v : List Wd) : ∀ i, (hF h v i).length = h.length
  | 0 => rfl
  | i + 1 => by simp [hF, hF_len h v i]
def nextP (h : List Wd) (blk : List UInt8) (n : Nat) (last : Bool) : List Wd := hF h (outerP (mO blk 64) (vN (vF h 8) n last) 10) 8
theorem tdiv4 (i : Nat) (h : i < 64) : IntKind.i64.wrap (Int.tdiv (i : Int) 4) = ((i / 4 : Nat) : Int) := by
  rw [Int.tdiv_eq_ediv_of_nonneg (by omega), wrap_i64 (by omega) (by omega)]
  omega
theorem tmod4 (i : Nat) (h : i < 64) : IntKind.i64.wrap (8 * Int.tmod (i : Int) 4) = ((8 * (i % 4) : Nat) : Int) := by
  rw [Int.tmod_eq_emod_of_nonneg (by omega), wrap_i64 (by omega) (by omega)]
  omega
theorem hbyte32 (c : UInt8) : IntKind.u32.wrap (c.toNat : Int) = ((byW c).toNat : Int) := by
  have := c.toNat_lt
  rw [wrap_u32_id (by omega) (by omega), byW, BitVec.toNat_ofNat]
  omega
theorem next_ok {w : World} (T : Tabs w) (h : List Wd) (hh : h.length = 8) (blk : List UInt8) (hb : blk.length = 64) (n : Nat) (hn : n < 18446744073709551616) (last : Bool) :
    Calls Tryz.prog f.hash_state_next #[.agg ⟨h.map wV⟩, .agg ⟨blk.map byteV⟩, .int .u64 (n : Int), .bool last] w (Ret fun r w' => r = .agg ⟨(nextP h blk n last).map wV⟩ ∧ Below w.heap.size w w') := by
  apply R.hash_state_next_calls
  unfold R.hash_state_next
  refine (SH.start (fun _ => False) w).newB fun b5 w1 _ _ S => S.newB fun b6 w2 _ _ S => S.newB fun b7 w3 _ _ S => S.newB fun b8 w4 _ _ S => S.newB fun b9 w5 _ _ S => ?_
  refine LOADC_by blk hb (Rd.of_block0 (S.get 3 rfl)) ?_
  refine ⟨fun st w' => ∃ i : Nat, st = [.int .i64 (i : Int)] ∧ i ≤ 64 ∧ SH (fun _ => False) w w' [(b9, ⟨(mO blk i).map wV⟩, 224), (b8, ⟨List.replicate 16 (.int .u32 0)⟩, 224), (b7, ⟨List.replicate 8 (.int .u32 0)⟩, 216), (b6, ⟨blk.map byteV⟩, 217), (b5, ⟨h.map wV⟩, 216)],
    fun st _ => match st with | [.int _ t] => (64 - t).toNat | _ => 0, ⟨0, rfl, by omega, S⟩, ?_⟩
  rintro t w6 ⟨i, hst, hi, S⟩
  cases int1 hst
  have hml := mO_len blk i
  refine IFB_dec (fun hlt => ⟨⟨by omega, hlt⟩, ?_⟩) (fun hge => ?_)
  · have hi64 : i < 64 := by omega
    have e1 := tdiv4 i hi64
    have e2 := tmod4 i hi64
    refine ⟨uI (blk.getD i 0), ?_, S.draw fun w7 S => ?_⟩
    · rw [Int.toNat_natCast, Nat.mul_one]
      simp [hb, hi64, byteV, uI]
    · rw [e1, e2]
      refine ⟨⟨by omega, by omega⟩, by omega, _, S.wd 0 rfl (by omega) (Int.toNat_natCast _), ⟨by omega, by omega⟩, ?_⟩
      have e3 : IntKind.u32.wrap (((BitVec.ofInt 32 (((mO blk i).getD (i / 4) 0).toNat : Int) ||| BitVec.ofInt 32 (IntKind.u32.wrap ((IntKind.u32.wrap (uI (blk.getD i 0))) * 2 ^ (min ((((8 * (i % 4) : Nat) : Int)).toNat) 32)))).toNat : Int))
          = (((mO blk i).getD (i / 4) 0 ||| (byW (blk.getD i 0) <<< (8 * (i % 4)))).toNat : Int) := by
        rw [Int.toNat_natCast, Nat.min_eq_left (by omega), uI, hbyte32, shl32, ofInt_nat, wrap32_nat]
      rw [e3]
      refine S.wdsto 0 rfl (by omega) (Int.toNat_natCast _) fun w8 S => ?_
      rw [wrap_succ (by omega)]
      exact ⟨⟨i + 1, rfl, by omega, S⟩, by show (64 - ((i + 1 : Nat) : Int)).toNat < (64 - (i : Int)).toNat; omega⟩
  · have hi64 : i = 64 := by omega
    refine S.draw fun w9 S => ⟨⟨by omega, by omega, by omega⟩, ⟨by omega, by omega, by omega⟩, ?_⟩
    have hz : (List.replicate 8 (Value.int .u32 0)) = (List.replicate 8 (0 : Wd)).map wV := rfl
    refine S.copy 1 rfl (P := Tryz.prog) (elem := 184) (by kernel_rfl) (by kernel_rfl) (a := some ⟨b5, 0, none⟩) (xs := h.map wV) (by simpa using hh) (by simp) (Rd.of_block0 (S.get 4 rfl)) (wd_one h) fun w10 _ S => ?_
    have ev : (⟨(h.map wV).take 16 ++ (List.replicate 16 (Value.int .u32 0)).drop (min 8 16)⟩ : Array Value) = ⟨(vF h 0).map wV⟩ := by
      rw [List.take_of_length_le (by simp [hh])]
      simp [vF, wV]
    replace S := ev ▸ S
    refine ⟨_, rfl, LOADC_wd firstL rfl (T.first.grown S.below) ?_⟩
    refine ⟨fun st w' => ∃ j : Nat, st = [.int .i64 (j : Int)] ∧ j ≤ 8 ∧ SH (fun _ => False) w w' [(b9, ⟨(mO blk i).map wV⟩, 224), (b8, ⟨(vF h j).map wV⟩, 224), (b7, ⟨List.replicate 8 (.int .u32 0)⟩, 216), (b6, ⟨blk.map byteV⟩, 217), (b5, ⟨h.map wV⟩, 216)],
      fun st _ => match st with | [.int _ t] => (8 - t).toNat | _ => 0, ⟨0, rfl, by omega, S⟩, ?_⟩
    rintro t w11 ⟨j, hst, hj, S⟩
    cases int1 hst
    have hvl := vF_len h hh j
    refine IFB_dec (fun hlt => ⟨⟨by omega, hlt⟩, ?_⟩) (fun hge => ?_)
    · have hj8 : j < 8 := by omega
      have e8 : IntKind.i64.wrap (8 + (j : Int)) = ((8 + j : Nat) : Int) := by rw [wrap_i64 (by omega) (by omega)]; omega
      rw [e8]
      refine ⟨((firstL.getD j 0).toNat : Int), ?_, ⟨by omega, by omega⟩, S.wdsto 1 rfl (by omega) (Int.toNat_natCast _) fun w12 S => ?_⟩
      · rw [Int.toNat_natCast, Nat.mul_one]
        have : j < firstL.length := by simpa [firstL] using hj8
        simp [this, wV]
      · rw [wrap_succ (by omega)]
        exact ⟨⟨j + 1, rfl, by omega, S⟩, by show (8 - ((j + 1 : Nat) : Int)).toNat < (8 - (j : Int)).toNat; omega⟩
    · have hj8 : j = 8 := by omega
      have en1 : ∀ x : Wd, IntKind.u32.wrap (((BitVec.ofInt 32 (x.toNat : Int) ^^^ BitVec.ofInt 32 (IntKind.u32.wrap (n : Int))).toNat : Int)) = ((x ^^^ BitVec.ofNat 32 n).toNat : Int) := by
        intro x
        rw [ofInt_wrap32, ofInt_nat, wrap32_nat, BitVec.ofInt_natCast]
      have en2 : ∀ x : Wd, IntKind.u32.wrap (((BitVec.ofInt 32 (x.toNat : Int) ^^^ BitVec.ofInt 32 (IntKind.u32.wrap (Int.fdiv (n : Int) (2 ^ (min 32 64))))).toNat : Int)) = ((x ^^^ BitVec.ofNat 32 (n / 4294967296)).toNat : Int) := by
        intro x
        have : Int.fdiv (n : Int) (2 ^ (min 32 64)) = ((n / 4294967296 : Nat) : Int) := by
          rw [show (2 : Int) ^ (min 32 64) = 4294967296 by rfl, Int.fdiv_eq_ediv_of_nonneg _ (by omega)]
          omega
        rw [this, ofInt_wrap32, ofInt_nat, wrap32_nat, BitVec.ofInt_natCast]
      have en3 : ∀ x : Wd, IntKind.u32.wrap (((BitVec.ofInt 32 4294967295 ^^^ BitVec.ofInt 32 (x.toNat : Int)).toNat : Int)) = ((4294967295 ^^^ x).toNat : Int) := by
        intro x
        rw [ofInt_nat, wrap32_nat]
        rfl
      refine ⟨_, S.wd' 1 rfl (by omega), ?_⟩
      rw [en1]
      refine S.wdsto' 1 rfl (by omega) fun w13 S => ⟨_, S.wd' 1 rfl (by simp; omega), ?_⟩
      rw [en2]
      refine S.wdsto' 1 rfl (by simp; omega) fun w14 S => ?_
      refine ⟨fun _ w' => SH (fun _ => False) w w' [(b9, ⟨(mO blk i).map wV⟩, 224), (b8, ⟨(vN (vF h j) n last).map wV⟩, 224), (b7, ⟨List.replicate 8 (.int .u32 0)⟩, 216), (b6, ⟨blk.map byteV⟩, 217), (b5, ⟨h.map wV⟩, 216)], ?_, ?_⟩
      · refine IFB_of (fun hl => ?_) (fun hl => ?_)
        · subst hl
          refine ⟨_, S.wd' 1 rfl (by simp; omega), ?_⟩
          rw [en3]
          exact S.wdsto' 1 rfl (by simp; omega) fun w15 S => S
        · subst hl
          exact S
      · intro w16 S
        have hvn : (vN (vF h j) n last).length = 16 := by rw [vN_len]; exact hvl
        refine LOADC_wd (vN (vF h j) n last) hvn (Rd.of_block0 (S.get 1 rfl)) (LOADC_wd (mO blk i) hml (Rd.of_block0 (S.get 0 rfl)) ?_)
        refine (rounds_ok (T.grown S.below) _ _ hvn hml).mono ?_
        rintro _ w17 ⟨_, rfl, rfl, B17⟩
        have hout : (outerP (mO blk i) (vN (vF h j) n last) 10).length = 16 := by rw [outerP_len]; exact hvn
        generalize hV : outerP (mO blk i) (vN (vF h j) n last) 10 = V at hout ⊢
        refine LIKEL_wd V hout ⟨rfl, BIF_len (by simpa using hout) ?_⟩
        refine (S.grown B17).stoAll 1 rfl (by simp [hvn, hout]) (wd_one _) fun w18 _ S => ?_
        refine ⟨fun st w' => ∃ q : Nat, st = [.int .i64 (q : Int)] ∧ q ≤ 8 ∧ SH (fun _ => False) w w' [(b9, ⟨(mO blk i).map wV⟩, 224), (b8, ⟨V.map wV⟩, 224), (b7, ⟨List.replicate 8 (.int .u32 0)⟩, 216), (b6, ⟨blk.map byteV⟩, 217), (b5, ⟨(hF h V q).map wV⟩, 216)],
          fun st _ => match st with | [.int _ t] => (8 - t).toNat | _ => 0, ⟨0, rfl, by omega, S⟩, ?_⟩
        rintro t w19 ⟨q, hst, hq, S⟩
        cases int1 hst
        have hhl := (hF_len h V q).trans hh
        refine IFB_dec (fun hlt => S.draw fun w21 S => ?_) (fun hge => ?_)
        · have e8 : IntKind.i64.wrap ((q : Int) + 8) = ((q + 8 : Nat) : Int) := by rw [wrap_i64 (by omega) (by omega)]; omega
          rw [e8]
          refine ⟨⟨by omega, hlt⟩, ⟨by omega, by omega⟩, ⟨by omega, by omega⟩, _, S.wd 4 rfl (by omega) (Int.toNat_natCast _), _, S.wd 1 rfl (by omega) (Int.toNat_natCast _), _, S.wd 1 rfl (by omega) (Int.toNat_natCast _), ⟨by omega, hlt⟩, ?_⟩
          rw [xor32, xor32]
          refine S.wdsto 4 rfl (by omega) (Int.toNat_natCast _) fun w22 S => ?_
          rw [wrap_succ (by omega)]
          exact ⟨⟨q + 1, rfl, by omega, S⟩, by show (8 - ((q + 1 : Nat) : Int)).toNat < (8 - (q : Int)).toNat; omega⟩
        · have hq8 : q = 8 := by omega
          have hl2 : ((hF h V q).map wV).length = 8 := by rw [List.length_map]; exact hhl
          refine LOADC_wd (hF h V q) hhl (Rd.of_block0 (S.get 4 rfl)) (BIF_len hl2 (S.stoAll 2 rfl hl2 (wd_one _) fun w20 _ S => ?_))
          refine LOADC_wd (hF h V q) hhl (Rd.of_block0 (S.get 2 rfl)) ⟨?_, S.below⟩
          unfold nextP
          rw [← hj8, ← hi64, hV]
          rw [show (hF h V q) = hF h V j by rw [hq8, hj8]]
theorem tbytes : bytesT Tryz.prog ty.string ty.L_uint8 = true := by kernel_rfl
theorem tB : slT Tryz.prog ty.L_uint8 = some (ty.uint8, 1, 1, .int .u8 0) := by kernel_rfl
theorem zB : (Value.int .u8 0).cells.size = 1 := rfl
theorem bytes_one (l : List UInt8) : ∀ u ∈ l.map byteV, u.oneCell' = true := by
  intro u hu
  obtain ⟨c, _, rfl⟩ := List.mem_map.1 hu
  exact byteV_one c
structure NewB (w w' : World) (l : List UInt8) (a : Option Addr) (c : Nat) : Prop where
  row : Row w' ty.uint8 1 a l.length c (l.map byteV)
  new : ∀ k, rowB a = some k → w.heap.size ≤ k
  bel : Below w.heap.size w w'
theorem below_trans {a b c : World} (h : Below a.heap.size a b) (h' : Below b.heap.size b c) : Below a.heap.size a c := h.trans (h'.mono h.size)
theorem NewB.rd {w w' : World} {l : List UInt8} {a : Option Addr} {c : Nat} (h : NewB w w' l a c) : Rd w' a (l.map byteV) := h.row.rd
theorem NewB.grown {w w' w2 : World} {l : List UInt8} {a : Option Addr} {c : Nat} (h : NewB w w' l a c) (hb : Below w'.heap.size w' w2) : NewB w w2 l a c := ⟨h.row.grown hb, h.new, below_trans h.bel hb⟩
theorem NewB.before {w0 w w' : World} {l : List UInt8} {a : Option Addr} {c : Nat} (hb : Below w0.heap.size w0 w) (h : NewB w w' l a c) : NewB w0 w' l a c := ⟨h.row, fun k hk => Nat.le_trans hb.size (h.new k hk), below_trans hb h.bel⟩
theorem append_byte {w : World} {a : Option Addr} {c : Nat} {l : List UInt8} (hr : Row w ty.uint8 1 a l.length c (l.map byteV)) (hl : l.length + 1 ≤ 140737488355328) {x : UInt8} {v : Value} (hv : v = byteV x) {b : Nat} {t : TypeId}
    (hb : w.heap[b]? = some (.cells #[v] t (0, 0))) {f : Value → World → Prop}
    (hf : ∀ a' c' w', Row w' ty.uint8 1 a' (l ++ [x]).length c' ((l ++ [x]).map byteV) → Keeps (fun k => rowB a = some k) w w' → (∀ k, rowB a' = some k → rowB a = some k ∨ w.heap.size ≤ k) → f (.slice a' (l ++ [x]).length c') w') :
    OPR Tryz.prog (Builtin.append_ #[ty.L_uint8, ty.L_uint8] ty.L_uint8 #[.slice a l.length c, .slice (some ⟨b, 0, none⟩) 1 1]) f w := by
  subst hv
  have hsrc : Rd w (some ⟨b, 0, none⟩) ([x].map byteV) := by
    have := Rd.of_block0 hb
    simpa using this
  obtain ⟨a', c', w', hrun, hrow, hk, hnew⟩ := append_row (ty := ty.L_uint8) (mc := 1) tB zB (by omega) (by omega) hr hsrc (m := 1) rfl (bytes_one _) (by omega)
  unfold OPR
  rw [hrun]
  have hlen : (l ++ [x]).length = l.length + 1 := by simp
  rw [← List.map_append, ← hlen] at hrow
  rw [← hlen]
  exact hf a' c' w' hrow hk hnew
theorem append_bytes {w : World} {a : Option Addr} {c : Nat} {l : List UInt8} (hr : Row w ty.uint8 1 a l.length c (l.map byteV)) {m : List UInt8} {b : Option Addr} {mc : Nat} (hb : Rd w b (m.map byteV)) (hl : l.length + m.length ≤ 140737488355328) {f : Value → World → Prop}
    (hf : ∀ a' c' w', Row w' ty.uint8 1 a' (l ++ m).length c' ((l ++ m).map byteV) → Keeps (fun k => rowB a = some k) w w' → (∀ k, rowB a' = some k → rowB a = some k ∨ w.heap.size ≤ k) → f (.slice a' (l ++ m).length c') w') :
    OPR Tryz.prog (Builtin.append_ #[ty.L_uint8, ty.L_uint8] ty.L_uint8 #[.slice a l.length c, .slice b m.length mc]) f w := by
  obtain ⟨a', c', w', hrun, hrow, hk, hnew⟩ := append_row (ty := ty.L_uint8) (mc := mc) tB zB (by omega) (by omega) hr hb (m := m.length) (by simp) (bytes_one _) (by omega)
  unfold OPR
  rw [hrun]
  have hlen : (l ++ m).length = l.length + m.length := by simp
  rw [← List.map_append, ← hlen] at hrow
  rw [← hlen]
  exact hf a' c' w' hrow hk hnew
theorem append_text {w : World} {a : Option Addr} {c : Nat} {l : List UInt8} (hr : Row w ty.uint8 1 a l.length c (l.map byteV)) (s : ByteArray) (hl : l.length + s.size ≤ 140737488355328) {f : Value → World → Prop}
    (hf : ∀ a' c' w', Row w' ty.uint8 1 a' (l ++ bl s).length c' ((l ++ bl s).map byteV) → Keeps (fun k => rowB a = some k) w w' → (∀ k, rowB a' = some k → rowB a = some k ∨ w.heap.size ≤ k) → f (.slice a' (l ++ bl s).length c') w') :
    OPR Tryz.prog (Builtin.append_ #[ty.L_uint8, ty.string] ty.L_uint8 #[.slice a l.length c, .string s]) f w := by
  obtain ⟨a', c', w', hrun, hrow, hk, hnew⟩ := append_string (ty := ty.L_uint8) tB (show Tryz.prog.underlying ty.string = some .string by kernel_rfl) zB (by omega) hr s (by omega)
  unfold OPR
  rw [hrun]
  have hlen : (l ++ bl s).length = l.length + s.size := by rw [List.length_append, bl_length]
  rw [← List.map_append, ← hlen] at hrow
  rw [← hlen]
  exact hf a' c' w' hrow hk hnew
/-! ### digits -/
def digitsL (n : Nat) : List UInt8 := if h : n < 128 then [UInt8.ofNat n] else UInt8.ofNat (n % 128 + 128) :: digitsL (n / 128)
termination_by n
decreasing_by omega
theorem digitsL_pos (n : Nat) : digitsL n ≠ [] := by unfold digitsL; split <;> simp
theorem digitsL_len : ∀ (k n : Nat), n < 128 ^ (k + 1) → (digitsL n).length ≤ k + 1
  | 0, n, h => by unfold digitsL; rw [dif_pos (by simpa using h)]; simp
  | k + 1, n, h => by
    unfold digitsL
    split
    · simp
    · have := digitsL_len k (n / 128) (by rw [Nat.pow_succ] at h; exact Nat.div_lt_of_lt_mul (by rw [Nat.mul_comm]; exact h))
      simp only [List.length_cons]
      omega
theorem digitsL_len10 {n : Nat} (h : n < 18446744073709551616) : (digitsL n).length ≤ 10 := digitsL_len 9 n (Nat.lt_trans h (by decide))
theorem and127 {n : Nat} (h : n < 18446744073709551616) : (BitVec.ofInt 64 (n : Int) &&& BitVec.ofInt 64 127).toNat = n % 128 := by
  rw [BitVec.toNat_and, BitVec.ofInt_natCast, BitVec.toNat_ofNat, Nat.mod_eq_of_lt (by omega)]
  have := Nat.and_two_pow_sub_one_eq_mod n 7
  exact this
theorem low7 {n : Nat} (h : n < 18446744073709551616) : IntKind.u8.wrap (IntKind.u64.wrap (((BitVec.ofInt 64 (n : Int) &&& BitVec.ofInt 64 127).toNat : Int))) = ((n % 128 : Nat) : Int) := by
  rw [and127 h, wrap_u64_id (by omega) (by omega), wrap_u8_id (by omega) (by omega)]
theorem or128 {x : Nat} (h : x < 128) : IntKind.u8.wrap (((BitVec.ofInt 8 (x : Int) ||| BitVec.ofInt 8 128).toNat : Int)) = ((x + 128 : Nat) : Int) := by
  have e : (BitVec.ofInt 8 (x : Int) ||| BitVec.ofInt 8 128).toNat = x + 128 := by
    rw [BitVec.toNat_or, BitVec.ofInt_natCast, BitVec.toNat_ofNat, Nat.mod_eq_of_lt (by omega)]
    have := Nat.two_pow_add_eq_or_of_lt (i := 7) (b := x) (by omega) 1
    rw [Nat.or_comm]
    have h2 : (BitVec.ofInt 8 128).toNat = 128 := by decide
    rw [h2]
    have h3 : 2 ^ 7 * 1 ||| x = 2 ^ 7 * 1 + x := this.symm
    have h4 : (128 : Nat) ||| x = 128 + x := h3
    rw [h4]
    omega
  rw [e, wrap_u8_id (by omega) (by omega)]
theorem shr7 (n : Nat) : Int.fdiv (n : Int) (2 ^ (min 7 64)) = ((n / 128 : Nat) : Int) := by
  rw [Int.fdiv_eq_ediv_of_nonneg _ (by decide)]
  norm_cast
theorem byteV_of {x : Nat} (h : x < 256) : Value.int .u8 (x : Int) = byteV (UInt8.ofNat x) := by
  unfold byteV
  congr 1
  simp
  omega
theorem wire_digits_ok (w : World) (n : Nat) (hn : n < 18446744073709551616) : Calls Tryz.prog f.wire_digits #[.int .u64 (n : Int)] w (Ret fun v w' => ∃ a c, v = .slice a (digitsL n).length c ∧ NewB w w' (digitsL n) a c) := by
  apply R.wire_digits_calls
  unfold R.wire_digits
  refine ⟨fun s w1 => ∃ (m : Nat) (a : Option Addr) (c : Nat) (l : List UInt8), s = [.int .u64 (m : Int), .slice a l.length c] ∧ m < 18446744073709551616 ∧ l ++ digitsL m = digitsL n ∧ NewB w w1 l a c,
    fun s _ => match s with
      | [.int _ i, _] => i.toNat
      | _ => 0, ⟨n, none, 0, [], rfl, hn, rfl, Row.nil _ _ _, by simp [rowB], .refl _ _⟩, ?_⟩
  rintro _ a _ c w1 ⟨m, _, _, l, hs, hm, hl, h1⟩
  cases hs
  have hlen : l.length + 1 ≤ 140737488355328 := by
    have := digitsL_len10 hn
    rw [← hl] at this
    simp at this
    omega
  rw [shr7, low7 hm]
  refine IFB_eq (fun h0 => ?_) (fun h0 => ?_)
  · have hm0 : m < 128 := by omega
    refine (SH.start (fun _ => False) w1).newB fun b5 w2 hb5 B2 S2 => ?_
    refine append_byte (h1.grown B2).row hlen (x := UInt8.ofNat m) (by rw [Nat.mod_eq_of_lt hm0]; exact byteV_of (by omega)) (S2.get 0 rfl) fun a' c' w3 R3 K3 N3 => ⟨_, _, _, rfl, ?_⟩
    have e : l ++ [UInt8.ofNat m] = digitsL n := by rw [← hl]; conv => rhs; unfold digitsL; rw [dif_pos hm0]
    rw [e] at R3
    rw [e]
    refine ⟨a', c', rfl, R3, fun k hk => ?_, (h1.grown B2).bel.trans (K3.below (h1.grown B2).bel.size fun k hk he => by have := h1.new k he; omega)⟩
    rcases N3 k hk with h | h
    · exact h1.new k h
    · exact Nat.le_trans (h1.grown B2).bel.size h
  · have hm0 : ¬ m < 128 := by omega
    rw [or128 (Nat.mod_lt _ (by omega))]
    refine (SH.start (fun _ => False) w1).newB fun b5 w2 hb5 B2 S2 => ?_
    refine append_byte (h1.grown B2).row hlen (x := UInt8.ofNat (m % 128 + 128)) (byteV_of (by omega)) (S2.get 0 rfl) fun a' c' w3 R3 K3 N3 => ⟨_, _, _, rfl, ?_⟩
    refine ⟨⟨m / 128, a', c', _, rfl, by omega, ?_, R3, fun k hk => ?_, (h1.grown B2).bel.trans (K3.below (h1.grown B2).bel.size fun k hk he => by have := h1.new k he; omega)⟩, ?_⟩
    · rw [← hl]
      conv => rhs; rhs; unfold digitsL; rw [dif_neg hm0]
      simp
    · rcases N3 k hk with h | h
      · exact h1.new k h
      · exact Nat.le_trans (h1.grown B2).bel.size h
    · simp only [Int.toNat_natCast]
      omega
/-! ### Concat -/
abbrev PartB := Option Addr × Nat × List UInt8
def partV1 (p : PartB) : Value := .slice p.1 p.2.2.length p.2.1
def flatB (ps : List PartB) : List UInt8 := ps.flatMap (·.2.2)
theorem flatB_take (ps : List PartB) (k : Nat) (hk : k < ps.length) : flatB (ps.take (k + 1)) = flatB (ps.take k) ++ ps[k].2.2 := by
  unfold flatB
  rw [List.take_succ_eq_append_getElem hk, List.flatMap_append]
  simp
theorem flatB_le (ps : List PartB) (k : Nat) : (flatB (ps.take k)).length ≤ (flatB ps).length := by
  have : flatB ps = flatB (ps.take k) ++ flatB (ps.drop k) := by
    unfold flatB
    rw [← List.flatMap_append, List.take_append_drop]
  rw [this, List.length_append]
  omega
theorem slices_Grow_nil (w : World) (n : Nat) (hn : n ≤ 140737488355328) : Calls Tryz.prog f.slices_Grow_byte_byte #[.slice none 0 0, .int .i64 (n : Int)] w
    (Ret fun v w' => ∃ a c, v = .slice a 0 c ∧ n ≤ c ∧ Row w' ty.uint8 1 a 0 c [] ∧ (∀ k, rowB a = some k → w.heap.size ≤ k) ∧ Below w.heap.size w w') := by
  apply R.slices_Grow_byte_byte_calls
  unfold R.slices_Grow_byte_byte
  have e0 : IntKind.i64.wrap (((0 : Nat) : Int) - ((0 : Nat) : Int)) = 0 := by rw [wrap_i64 (by omega) (by omega)]; omega
  have e1 : IntKind.i64.wrap ((n : Int) - 0) = (n : Int) := by rw [wrap_i64 (by omega) (by omega)]; omega
  refine IFB_dec (fun h => by omega) (fun _ => ?_)
  rw [e0, e1]
  refine IFB_dec (fun hp => ⟨⟨by omega, by omega, by omega⟩, ?_⟩) (fun hp => ?_)
  · obtain ⟨c', w', hrun, hrow, hc, hb⟩ := append_zeros (u := ty.int) (ty := ty.L_uint8) tB (show Tryz.prog.underlying ty.int = some (.int .i64) by kernel_rfl) zB (by omega) (by omega) (w := w) (m := n) (by omega) (by omega)
    have hs : SLA none 0 0 1 = none := rfl
    unfold OPR
    rw [hs]
    simp only [Nat.sub_zero, hrun]
    refine ⟨_, _, _, rfl, ⟨by omega, by omega, by omega⟩, some ⟨w.heap.size, 0, none⟩, c', ?_, hc, hrow, fun k hk => by simp [rowB] at hk; omega, hb⟩
    have : SLA (some (⟨w.heap.size, 0, none⟩ : Addr)) 0 c' 1 = some ⟨w.heap.size, 0, none⟩ := by
      unfold SLA
      split
      · rfl
      · simp [addr_add_zero]
    rw [this]
  · have : n = 0 := by omega
    subst this
    exact ⟨none, 0, rfl, Nat.le_refl _, Row.nil _ _ _, by simp [rowB], .refl _ _⟩
theorem slices_Concat_ok {w : World} {a : Option Addr} {c : Nat} (ps : List PartB) (hp : Rd w a (ps.map partV1)) (hb : ∀ p ∈ ps, Rd w p.1 (p.2.2.map byteV)) (hn : ps.length < 9223372036854775807) (hl : (flatB ps).length ≤ 140737488355328) :
    Calls Tryz.prog f.slices_Concat_byte_byte #[.slice a ps.length c] w (Ret fun v w' => ∃ a c, v = .slice a (flatB ps).length c ∧ NewB w w' (flatB ps) a c) := by
  apply R.slices_Concat_byte_byte_calls
  unfold R.slices_Concat_byte_byte
  refine ⟨fun s w1 => ∃ k : Nat, s = [.int .i64 ((flatB (ps.take k)).length : Int), .int .i64 k] ∧ k ≤ ps.length ∧ w1 = w,
    fun s _ => match s with
      | [_, .int _ i] => ps.length - i.toNat
      | _ => 0, ⟨0, rfl, Nat.zero_le _, rfl⟩, ?_⟩
  rintro _ _ w1 ⟨k, hs, hk, rfl⟩
  cases hs
  refine IFB_dec (fun hlt => ⟨⟨by omega, hlt⟩, ?_⟩) (fun hge => ?_)
  · have hkl : k < ps.length := by omega
    obtain ⟨p, rfl, hc⟩ := hp k (partV1 ps[k]) (by simp [hkl])
    have h1 := flatB_le ps (k + 1)
    rw [flatB_take ps k hkl, List.length_append] at h1
    refine ⟨_, _, _, by rw [Int.toNat_natCast, Nat.mul_one]; exact hc, ?_⟩
    have e : IntKind.i64.wrap (((flatB (ps.take k)).length : Int) + (ps[k].2.2.length : Int)) = ((flatB (ps.take (k + 1))).length : Int) := by
      rw [flatB_take ps k hkl, List.length_append, wrap_i64 (by omega) (by omega)]; omega
    rw [e]
    refine IFB_dec (fun h => by omega) (fun _ => ?_)
    rw [wrap_succ (by omega)]
    refine ⟨⟨k + 1, rfl, by omega, rfl⟩, ?_⟩
    simp only [Int.toNat_natCast]
    omega
  · have hke : k = ps.length := by omega
    subst hke
    rw [List.take_length]
    refine (slices_Grow_nil w1 _ hl).mono ?_
    rintro _ w2 ⟨_, rfl, a2, c2, rfl, hc2, R2, N2, B2⟩
    refine ⟨_, _, _, rfl, ?_⟩
    refine ⟨fun s w3 => ∃ (k : Nat) (a3 : Option Addr) (c3 : Nat), s = [.slice a3 (flatB (ps.take k)).length c3, .int .i64 k] ∧ k ≤ ps.length ∧ NewB w1 w3 (flatB (ps.take k)) a3 c3,
      fun s _ => match s with
        | [_, .int _ i] => ps.length - i.toNat
        | _ => 0, ⟨0, a2, c2, rfl, Nat.zero_le _, R2, N2, B2⟩, ?_⟩
    rintro a3 _ c3 _ w3 ⟨k, _, _, hs, hk, h3⟩
    cases hs
    refine IFB_dec (fun hlt => ⟨⟨by omega, hlt⟩, ?_⟩) (fun hge => ?_)
    · have hkl : k < ps.length := by omega
      obtain ⟨p, rfl, hc⟩ := (hp.grown h3.bel) k (partV1 ps[k]) (by simp [hkl])
      have h1 := flatB_le ps (k + 1)
      rw [flatB_take ps k hkl, List.length_append] at h1
      refine ⟨_, _, _, by rw [Int.toNat_natCast, Nat.mul_one]; exact hc, ?_⟩
      refine append_bytes h3.row ((hb _ (List.getElem_mem hkl)).grown h3.bel) (by omega) fun a' c' w4 R4 K4 N4 => ⟨_, _, _, rfl, ?_⟩
      rw [← flatB_take ps k hkl] at R4 ⊢
      rw [wrap_succ (by omega)]
      refine ⟨⟨k + 1, a', c', rfl, by omega, R4, fun j hj => ?_, h3.bel.trans (K4.below h3.bel.size fun j hj he => by have := h3.new j he; omega)⟩, ?_⟩
      · rcases N4 j hj with h | h
        · exact h3.new j h
        · exact Nat.le_trans h3.bel.size h
      · simp only [Int.toNat_natCast]
        omega
    · have hke : k = ps.length := by omega
      subst hke
      rw [List.take_length] at h3 ⊢
      exact ⟨a3, c3, rfl, h3⟩
theorem flat2 (a b : PartB) : flatB [a, b] = a.2.2 ++ b.2.2 := by simp [flatB]
theorem flat3 (a b c : PartB) : flatB [a, b, c] = a.2.2 ++ (b.2.2 ++ c.2.2) := by simp [flatB]
theorem wire_Number_ok {w : World} {a : Option Addr} {c : Nat} (l : List UInt8) (hl : Rd w a (l.map byteV)) (n : Nat) (hn : n < 18446744073709551616) (hs : l.length + 10 ≤ 140737488355328) :
    Calls Tryz.prog f.wire_Number #[.slice a l.length c, .int .u64 (n : Int)] w (Ret fun v w' => ∃ a c, v = .slice a (l ++ digitsL n).length c ∧ NewB w w' (l ++ digitsL n) a c) := by
  apply R.wire_Number_calls
  unfold R.wire_Number
  refine (wire_digits_ok w n hn).mono ?_
  rintro _ w1 ⟨_, rfl, a1, c1, rfl, h1⟩
  refine ⟨_, _, _, rfl, (SH.start (fun _ => False) w1).newB fun b5 w2 hb5 B2 S2 => ?_⟩
  have hd := digitsL_len10 hn
  have h2 := h1.grown B2
  refine (slices_Concat_ok [(a, c, l), (a1, c1, digitsL n)] (by have := Rd.of_block0 (S2.get 0 rfl); simpa [partV1] using this) (by
    intro p hp
    simp only [List.mem_cons, List.not_mem_nil, or_false] at hp
    rcases hp with rfl | rfl
    · exact hl.grown h2.bel
    · exact h2.rd) (by simp) (by rw [flat2]; simp; omega)).mono ?_
  rintro _ w3 ⟨_, rfl, a3, c3, rfl, h3⟩
  rw [flat2] at h3 ⊢
  exact ⟨_, _, _, rfl, a3, c3, rfl, h3.before h2.bel⟩
def textL (s : ByteArray) : List UInt8 := digitsL s.size ++ bl s
theorem wire_Text_ok {w : World} {a : Option Addr} {c : Nat} (l : List UInt8) (hl : Rd w a (l.map byteV)) (s : ByteArray) (hz : s.size ≤ 1048576) (hs : l.length + 10 + s.size ≤ 140737488355328) :
    Calls Tryz.prog f.wire_Text #[.slice a l.length c, .string s] w (Ret fun v w' => ∃ a c, v = .tuple #[.slice a (l ++ textL s).length c, .int .i64 0] ∧ NewB w w' (l ++ textL s) a c) := by
  apply R.wire_Text_calls
  unfold R.wire_Text
  refine IFB_dec (fun h => by omega) (fun _ => ?_)
  rw [wrap_u64_id (by omega) (by omega)]
  refine (wire_digits_ok w s.size (by omega)).mono ?_
  rintro _ w1 ⟨_, rfl, a1, c1, rfl, h1⟩
  have hd := digitsL_len10 (n := s.size) (by omega)
  refine ⟨_, _, _, rfl, bytes_of_string tbytes s w1 fun b c2 cs e w2 hb B2 hh hcs hsc htk => ⟨_, _, _, rfl, (SH.start (fun _ => False) w2).newB fun b7 w3 hb7 B3 S3 => ?_⟩⟩
  have hrd : Rd w2 (some ⟨b, 0, none⟩) ((bl s).map byteV) := by rw [← htk]; exact (Rd.of_block0 hh).take _
  have h3 := (h1.grown B2).grown B3
  have hbl := bl_length s
  refine (slices_Concat_ok [(a, c, l), (a1, c1, digitsL s.size), (some ⟨b, 0, none⟩, c2, bl s)] (by have := Rd.of_block0 (S3.get 0 rfl); simpa [partV1, hbl] using this) (by
    intro p hp
    simp only [List.mem_cons, List.not_mem_nil, or_false] at hp
    rcases hp with rfl | rfl | rfl
    · exact hl.grown h3.bel
    · exact h3.rd
    · exact hrd.grown B3) (by simp) (by rw [flat3]; simp; omega)).mono ?_
  rintro _ w4 ⟨_, rfl, a3, c3, rfl, h4⟩
  rw [flat3] at h4 ⊢
  exact ⟨_, _, _, rfl, a3, c3, rfl, h4.before h3.bel⟩
def readN (i acc : Nat) : List UInt8 → Option (Nat × Nat)
  | [] => none
  | c :: r => if 9 < i ∨ (i = 9 ∧ c.toNat ≠ 1) then none else if c.toNat < 128 then (if c.toNat = 0 ∧ 0 < i then none else some (acc + c.toNat * 128 ^ i, i + 1)) else readN (i + 1) (acc + (c.toNat % 128) * 128 ^ i) r
def takeN (l : List UInt8) (at_ : Int) : Option (Nat × Nat) := if at_ < 0 then none else (readN 0 0 (l.drop at_.toNat)).map fun x => (x.1, at_.toNat + x.2)
def numV (o : Option (Nat × Nat)) : Value :=
  match o with
  | some x => .tuple #[.int .u64 (x.1 : Int), .int .i64 (x.2 : Int), .int .i64 0]
  | none => .tuple #[.int .u64 0, .int .i64 0, .int .i64 20]
theorem readN_bounds : ∀ (l : List UInt8) (i acc n k : Nat), acc < 128 ^ i → readN i acc l = some (n, k) → n < 18446744073709551616 ∧ i < k ∧ k ≤ i + l.length ∧ k ≤ 10 ∧ (0 < i → 128 ^ i ≤ n)
  | [], _, _, _, _, _, h => by simp [readN] at h
  | c :: r, i, acc, n, k, ha, h => by
    unfold readN at h
    split at h
    · cases h
    · rename_i hi
      split at h
      · rename_i hc
        split at h
        · cases h
        · rename_i hz
          simp only [Option.some.injEq, Prod.mk.injEq] at h
          obtain ⟨rfl, rfl⟩ := h
          refine ⟨?_, by omega, by simp, by omega, fun h0 => ?_⟩
          · by_cases h9 : i = 9
            · subst h9
              have : c.toNat = 1 := by omega
              rw [this]
              have : (128 : Nat) ^ 9 = 9223372036854775808 := by decide
              omega
            · have hp : (128 : Nat) ^ i ≤ 128 ^ 8 := Nat.pow_le_pow_right (by omega) (by omega)
              have : (128 : Nat) ^ 8 = 72057594037927936 := by decide
              have h3 : c.toNat * 128 ^ i ≤ 127 * 128 ^ i := Nat.mul_le_mul_right _ (by omega)
              omega
          · have h1 : 1 ≤ c.toNat := by omega
            have : 1 * 128 ^ i ≤ c.toNat * 128 ^ i := Nat.mul_le_mul_right _ h1
            omega
      · rename_i hc
        have hi8 : i ≤ 8 := by omega
        have hpow : (128 : Nat) ^ (i + 1) = 128 ^ i * 128 := Nat.pow_succ ..
        have h3 : (c.toNat % 128) * 128 ^ i ≤ 127 * 128 ^ i := Nat.mul_le_mul_right _ (by omega)
        obtain ⟨h1, h2, h4, h5, h6⟩ := readN_bounds r (i + 1) _ n k (by omega) h
        refine ⟨h1, by omega, by simp; omega, h5, fun _ => ?_⟩
        have := h6 (by omega)
        omega
theorem pow128 (i : Nat) : (128 : Nat) ^ i = 2 ^ (7 * i) := by rw [Nat.pow_mul]
theorem or_step {acc c i : Nat} (ha : acc < 128 ^ i) (hc : c < 128) (hi : i ≤ 9) (h9 : i = 9 → c ≤ 1) :
    acc + c * 128 ^ i < 18446744073709551616 ∧ (BitVec.ofInt 64 (acc : Int) ||| BitVec.ofInt 64 ((c * 128 ^ i : Nat) : Int)).toNat = acc + c * 128 ^ i := by
  have hb : acc + c * 128 ^ i < 18446744073709551616 := by
    by_cases h : i = 9
    · subst h
      have := h9 rfl
      have e : (128 : Nat) ^ 9 = 9223372036854775808 := by decide
      have : c * 128 ^ 9 ≤ 1 * 128 ^ 9 := Nat.mul_le_mul_right _ this
      omega
    · have hp : (128 : Nat) ^ i ≤ 128 ^ 8 := Nat.pow_le_pow_right (by omega) (by omega)
      have : (128 : Nat) ^ 8 = 72057594037927936 := by decide
      have h3 : c * 128 ^ i ≤ 127 * 128 ^ i := Nat.mul_le_mul_right _ (by omega)
      omega
  refine ⟨hb, ?_⟩
  rw [BitVec.toNat_or, BitVec.ofInt_natCast, BitVec.ofInt_natCast, BitVec.toNat_ofNat, BitVec.toNat_ofNat, Nat.mod_eq_of_lt (by omega), Nat.mod_eq_of_lt (by omega), pow128, Nat.or_comm]
  rw [pow128] at ha
  have := Nat.two_pow_add_eq_or_of_lt (i := 7 * i) (b := acc) ha c
  rw [Nat.mul_comm c, ← this]
  omega
theorem low7_8 {x : Nat} (h : x < 256) : IntKind.u8.wrap (((BitVec.ofInt 8 (x : Int) &&& BitVec.ofInt 8 127).toNat : Int)) = ((x % 128 : Nat) : Int) := by
  have : (BitVec.ofInt 8 (x : Int) &&& BitVec.ofInt 8 127).toNat = x % 128 := by
    rw [BitVec.toNat_and, BitVec.ofInt_natCast, BitVec.toNat_ofNat, Nat.mod_eq_of_lt (by omega)]
    exact Nat.and_two_pow_sub_one_eq_mod x 7
  rw [this, wrap_u8_id (by omega) (by omega)]
theorem shift_step {c i : Nat} (hc : c < 128) (hi : i ≤ 9) : IntKind.u64.wrap ((c : Int) * 2 ^ (min (IntKind.i64.wrap (7 * (i : Int))).toNat 64)) = ((c * 128 ^ i % 18446744073709551616 : Nat) : Int) := by
  have e : min (IntKind.i64.wrap (7 * (i : Int))).toNat 64 = 7 * i := by rw [wrap_i64 (by omega) (by omega)]; omega
  rw [e, wrap_u64, pow128]
  have : ((2 : Int) ^ (7 * i)) = ((2 ^ (7 * i) : Nat) : Int) := by norm_cast
  rw [this, ← Int.natCast_mul]
  omega
section
variable {w : World} {a : Option Addr} {c : Nat} {l : List UInt8}
theorem byte_at (hl : Rd w a (l.map byteV)) {i : Nat} (hi : i < l.length) : ∃ p, a = some p ∧ w.cell? (p.add (i * 1)) = some (.int .u8 (l[i].toNat : Int)) := by
  obtain ⟨p, hp, hc⟩ := hl i (byteV l[i]) (by simp [hi])
  exact ⟨p, hp, by rw [Nat.mul_one]; exact hc⟩
theorem drop_step {i : Nat} (hi : i < l.length) : l.drop i = l[i] :: l.drop (i + 1) := List.drop_eq_getElem_cons hi
theorem wire_TakeNumber_ok (hl : Rd w a (l.map byteV)) (hc : l.length ≤ c) (hs : l.length ≤ 9223372036854775807) (at_ : Int) : Calls Tryz.prog f.wire_TakeNumber #[.slice a l.length c, .int .i64 at_] w (Ret fun v w' => v = numV (takeN l at_) ∧ w' = w) := by
  apply R.wire_TakeNumber_calls
  unfold R.wire_TakeNumber
  refine IFB_dec (fun h => ⟨by simp [takeN, h, numV], rfl⟩) (fun h0 => IFB_dec (fun h => ⟨?_, rfl⟩) (fun h1 => ?_))
  · have : l.drop at_.toNat = [] := List.drop_eq_nil_of_le (by omega)
    simp [takeN, h0, this, readN, numV]
  obtain ⟨at_, rfl⟩ : ∃ k : Nat, at_ = k := ⟨at_.toNat, by omega⟩
  rw [Int.toNat_natCast]
  have hat : at_ ≤ l.length := by omega
  have ht : takeN l (at_ : Int) = (readN 0 0 (l.drop at_)).map fun x => (x.1, at_ + x.2) := by unfold takeN; rw [if_neg h0]; rfl
  refine ⟨⟨by omega, by omega, by omega⟩, ?_⟩
  refine ⟨fun s w1 => w1 = w ∧ ∃ i acc : Nat, s = [.int .u64 (acc : Int), .int .i64 (i : Int)] ∧ i ≤ 10 ∧ at_ + i ≤ l.length ∧ acc < 128 ^ i ∧ readN 0 0 (l.drop at_) = readN i acc (l.drop (at_ + i)),
    fun s _ => match s with
      | [_, .int _ i] => 10 - i.toNat
      | _ => 0, ⟨rfl, 0, 0, rfl, by omega, by omega, by simp, rfl⟩, ?_⟩
  rintro _ _ w1 ⟨rfl, i, acc, hs', hi, hle, hacc, hread⟩
  cases hs'
  have none_ : readN i acc (l.drop (at_ + i)) = none → (Value.tuple #[.int .u64 0, .int .i64 0, .int .i64 20] = numV (takeN l (at_ : Int)) ∧ w1 = w1) := by
    intro hn
    rw [ht, hread, hn]
    exact ⟨rfl, rfl⟩
  refine IFB_dec (fun hlt => ⟨⟨by omega, hlt⟩, ?_⟩) (fun hge => ?_)
  · have hil : at_ + i < l.length := by omega
    have hrd := (hl.sla at_ l.length c 1 hc)
    obtain ⟨p, hp, hcell⟩ := hrd i (byteV l[at_ + i]) (by
      rw [List.getElem?_take_of_lt (by omega), List.getElem?_drop, Nat.mul_one]
      simp [hil])
    rw [hp]
    refine ⟨_, by rw [Int.toNat_natCast, Nat.mul_one]; exact hcell, ?_⟩
    have hd := drop_step hil
    generalize hcc : l[at_ + i] = cc at hd
    have hc256 := cc.toNat_lt
    refine ⟨fun _ w2 => w2 = w1 ∧ ¬ (9 < i ∨ (i = 9 ∧ cc.toNat ≠ 1)), ?_, ?_⟩
    · refine IFB_dec (fun h => none_ (by rw [hd]; unfold readN; rw [if_pos (.inl (by omega))])) (fun h9 => IFB_eq (fun h => IFB_ne (fun h2 => none_ (by rw [hd]; unfold readN; rw [if_pos (.inr ⟨by omega, by omega⟩)])) (fun h2 => ⟨rfl, by omega⟩)) (fun h => ⟨rfl, by omega⟩))
    rintro w2 ⟨rfl, hno⟩
    have hi9 : i ≤ 9 := by omega
    have hm : cc.toNat % 128 < 128 := Nat.mod_lt _ (by omega)
    have h9 : i = 9 → cc.toNat % 128 ≤ 1 := by omega
    obtain ⟨hb, hor⟩ := or_step hacc hm hi9 h9
    have e1 : IntKind.u64.wrap (IntKind.u8.wrap (((BitVec.ofInt 8 (cc.toNat : Int) &&& BitVec.ofInt 8 127).toNat : Int))) = ((cc.toNat % 128 : Nat) : Int) := by rw [low7_8 hc256, wrap_u64_id (by omega) (by omega)]
    rw [e1, shift_step hm hi9, Nat.mod_eq_of_lt (by omega : cc.toNat % 128 * 128 ^ i < 18446744073709551616), hor, wrap_u64_id (by omega) (by omega)]
    refine ⟨by rw [wrap_i64 (by omega) (by omega)]; omega, ?_⟩
    have fin : cc.toNat < 128 → ¬ (cc.toNat = 0 ∧ 0 < i) → (Value.tuple #[.int .u64 ((acc + cc.toNat % 128 * 128 ^ i : Nat) : Int), .int .i64 (IntKind.i64.wrap (IntKind.i64.wrap ((at_ : Int) + (i : Int)) + 1)), .int .i64 0] = numV (takeN l (at_ : Int)) ∧ w2 = w2) := by
      intro hlt hz
      refine ⟨?_, rfl⟩
      rw [ht, hread, hd]
      unfold readN
      rw [if_neg hno, if_pos hlt, if_neg hz, Nat.mod_eq_of_lt hlt, wrap_i64 (n := (at_ : Int) + (i : Int)) (by omega) (by omega), wrap_i64 (by omega) (by omega)]
      simp only [Option.map_some, numV]
      congr 5
    refine IFB_dec (fun hlt => IFB_eq (fun hz => IFB_dec (fun h => none_ (by rw [hd]; unfold readN; rw [if_neg hno, if_pos (by omega), if_pos ⟨by omega, by omega⟩])) (fun h => fin (by omega) (by omega))) (fun hz => fin (by omega) (by omega))) (fun hge => ?_)
    rw [wrap_succ (by omega)]
    refine ⟨⟨rfl, i + 1, _, rfl, by omega, by omega, ?_, ?_⟩, ?_⟩
    · rw [Nat.pow_succ]
      have h3 : (cc.toNat % 128) * 128 ^ i ≤ 127 * 128 ^ i := Nat.mul_le_mul_right _ (by omega)
      omega
    · rw [hread, hd]
      conv => lhs; unfold readN
      rw [if_neg hno, if_neg (by omega)]
      rfl
    · simp only [Int.toNat_natCast]
      omega
  · refine none_ ?_
    rw [List.drop_eq_nil_of_le (by omega)]
    rfl
theorem ref_TakeNumber_ok (hl : Rd w a (l.map byteV)) (hs : l.length ≤ 9223372036854775807) (at_ : Int) (hat : at_ ≤ 9223372036854775807) : Calls Tryz.prog f.ref02_TakeNumber #[.slice a l.length c, .int .i64 at_] w (Ret fun v w' => v = numV (takeN l at_) ∧ w' = w) := by
  apply R.ref02_TakeNumber_calls
  unfold R.ref02_TakeNumber
  refine IFB_dec (fun h => ⟨by simp [takeN, h, numV], rfl⟩) (fun h0 => ?_)
  obtain ⟨at_, rfl⟩ : ∃ k : Nat, at_ = k := ⟨at_.toNat, by omega⟩
  have ht : takeN l (at_ : Int) = (readN 0 0 (l.drop at_)).map fun x => (x.1, at_ + x.2) := by unfold takeN; rw [if_neg h0]; rfl
  refine ⟨fun s w1 => w1 = w ∧ ∃ i acc : Nat, s = [.int .u64 (acc : Int), .int .i64 (i : Int)] ∧ i ≤ 10 ∧ acc < 128 ^ i ∧ readN 0 0 (l.drop at_) = readN i acc (l.drop (at_ + i)),
    fun s _ => match s with
      | [_, .int _ i] => 10 - i.toNat
      | _ => 0, ⟨rfl, 0, 0, rfl, by omega, by simp, rfl⟩, ?_⟩
  rintro _ _ w1 ⟨rfl, i, acc, hs', hi, hacc, hread⟩
  cases hs'
  have none_ : readN i acc (l.drop (at_ + i)) = none → (Value.tuple #[.int .u64 0, .int .i64 0, .int .i64 20] = numV (takeN l (at_ : Int)) ∧ w1 = w1) := by
    intro hn
    rw [ht, hread, hn]
    exact ⟨rfl, rfl⟩
  have nil_ : l.length ≤ at_ + i → readN i acc (l.drop (at_ + i)) = none := by
    intro h
    rw [List.drop_eq_nil_of_le h]
    rfl
  refine IFB_dec (fun hi10 => IFB_dec (fun hal => ?_) (fun h => none_ (nil_ (by omega)))) (fun h => none_ ?_)
  · have ew : IntKind.i64.wrap ((l.length : Int) - (at_ : Int)) = (l.length : Int) - (at_ : Int) := wrap_i64 (by omega) (by omega)
    rw [ew]
    refine IFB_dec (fun hil' => ?_) (fun h => none_ (nil_ (by omega)))
    have hil : at_ + i < l.length := by omega
    have ei : IntKind.i64.wrap ((at_ : Int) + (i : Int)) = ((at_ + i : Nat) : Int) := by rw [wrap_i64 (by omega) (by omega)]; omega
    rw [ei]
    refine ⟨⟨by omega, by omega⟩, ?_⟩
    obtain ⟨p, rfl, hcell⟩ := byte_at hl hil
    refine ⟨_, by rw [Int.toNat_natCast]; exact hcell, ?_⟩
    have hd := drop_step hil
    generalize hcc : l[at_ + i] = cc at hd
    have hc256 := cc.toNat_lt
    have hi9 : i ≤ 9 := by omega
    refine ⟨fun _ w2 => w2 = w1 ∧ ¬ (i = 9 ∧ 1 < cc.toNat), ?_, ?_⟩
    · refine IFB_eq (fun h => IFB_dec (fun h2 => none_ (by rw [hd]; unfold readN; rw [if_pos (.inr ⟨by omega, by omega⟩)])) (fun h2 => ⟨rfl, by omega⟩)) (fun h => ⟨rfl, by omega⟩)
    rintro w2 ⟨rfl, hno'⟩
    have hm : cc.toNat % 128 < 128 := Nat.mod_lt _ (by omega)
    have h9 : i = 9 → cc.toNat % 128 ≤ 1 := by omega
    obtain ⟨hb, _⟩ := or_step hacc hm hi9 h9
    have e1 : IntKind.u64.wrap (Int.tmod (cc.toNat : Int) 128) = ((cc.toNat % 128 : Nat) : Int) := by
      rw [Int.tmod_eq_emod_of_nonneg (by omega), wrap_u64_id (by omega) (by omega)]
      omega
    rw [e1, shift_step hm hi9, Nat.mod_eq_of_lt (by omega : cc.toNat % 128 * 128 ^ i < 18446744073709551616)]
    have e2 : IntKind.u64.wrap ((acc : Int) + ((cc.toNat % 128 * 128 ^ i : Nat) : Int)) = ((acc + cc.toNat % 128 * 128 ^ i : Nat) : Int) := by
      rw [wrap_u64_id (by omega) (by omega)]; omega
    rw [e2]
    refine ⟨by rw [wrap_i64 (by omega) (by omega)]; omega, ?_⟩
    have zero9 : i = 9 → cc.toNat = 0 → readN i acc (l.drop (at_ + i)) = none := by
      intro h h0
      rw [hd]
      unfold readN
      rw [if_pos (.inr ⟨h, by omega⟩)]
    have fin : cc.toNat < 128 → ¬ (cc.toNat = 0 ∧ 0 < i) → (Value.tuple #[.int .u64 ((acc + cc.toNat % 128 * 128 ^ i : Nat) : Int), .int .i64 (IntKind.i64.wrap (((at_ + i : Nat) : Int) + 1)), .int .i64 0] = numV (takeN l (at_ : Int)) ∧ w2 = w2) := by
      intro hlt hz
      refine ⟨?_, rfl⟩
      rw [ht, hread, hd]
      unfold readN
      rw [if_neg (by omega), if_pos hlt, if_neg hz, Nat.mod_eq_of_lt hlt, wrap_i64 (by omega) (by omega)]
      simp only [Option.map_some, numV]
      congr 5
    refine IFB_dec (fun hlt => IFB_eq (fun hz => IFB_dec (fun h => none_ ?_) (fun h => fin (by omega) (by omega))) (fun hz => fin (by omega) (by omega))) (fun hge => ?_)
    · by_cases hi9' : i = 9
      · exact zero9 hi9' (by omega)
      · rw [hd]; unfold readN; rw [if_neg (by omega), if_pos (by omega), if_pos ⟨by omega, by omega⟩]
    rw [wrap_succ (by omega)]
    refine ⟨⟨rfl, i + 1, _, rfl, by omega, ?_, ?_⟩, ?_⟩
    · rw [Nat.pow_succ]
      have h3 : (cc.toNat % 128) * 128 ^ i ≤ 127 * 128 ^ i := Nat.mul_le_mul_right _ (by omega)
      omega
    · rw [hread, hd]
      conv => lhs; unfold readN
      rw [if_neg (by omega), if_neg (by omega)]
      rfl
    · simp only [Int.toNat_natCast]
      omega
  · have h10 : i = 10 := by omega
    subst h10
    cases hh : l.drop (at_ + 10) with
    | nil => rfl
    | cons c r => unfold readN; rw [if_pos (.inl (by omega))]
end
theorem takeN_bounds {l : List UInt8} {at_ : Int} {n k : Nat} (h : takeN l at_ = some (n, k)) : n < 18446744073709551616 ∧ 0 ≤ at_ ∧ at_.toNat < k ∧ k ≤ l.length ∧ k ≤ at_.toNat + 10 := by
  unfold takeN at h
  split at h
  · cases h
  · obtain ⟨⟨x1, x2⟩, hx, he⟩ := Option.map_eq_some_iff.1 h
    simp only [Prod.mk.injEq] at he
    obtain ⟨rfl, rfl⟩ := he
    obtain ⟨h1, h2, h3, h4, _⟩ := readN_bounds _ 0 0 _ _ (by simp) hx
    rw [List.length_drop] at h3
    refine ⟨h1, by omega, by omega, by omega, by omega⟩
def takeT (l : List UInt8) (at_ : Int) (most : Nat) : Option (List UInt8 × Nat) :=
  match takeN l at_ with
  | some x => if 1048576 < x.1 ∨ most < x.1 ∨ l.length - x.2 < x.1 then none else some ((l.drop x.2).take x.1, x.2 + x.1)
  | none => none
def txtV (o : Option (List UInt8 × Nat)) : Value :=
  match o with
  | some x => .tuple #[.string (sof x.1), .int .i64 (x.2 : Int), .int .i64 0]
  | none => .tuple #[.string ⟨#[]⟩, .int .i64 0, .int .i64 20]
section
variable {w : World} {a : Option Addr} {c : Nat} {l : List UInt8}
theorem wire_TakeText_any (hl : Rd w a (l.map byteV)) (hc : l.length ≤ c) (hs : l.length ≤ 9223372036854775807) (at_ : Int) (most : Nat) : Calls Tryz.prog f.wire_TakeText #[.slice a l.length c, .int .i64 at_, .int .i64 (most : Int)] w (Ret fun v w' => v = txtV (takeT l at_ most) ∧ w' = w) := by
  apply R.wire_TakeText_calls
  unfold R.wire_TakeText
  refine (wire_TakeNumber_ok hl hc hs at_).mono ?_
  rintro _ w ⟨_, rfl, rfl, rfl⟩
  cases ho : takeN l at_ with
  | none => exact ⟨_, _, _, rfl, IFB_true ⟨by simp only [takeT, ho]; rfl, rfl⟩⟩
  | some x =>
    obtain ⟨n, k⟩ := x
    obtain ⟨h1, h2, h3, h4, h5⟩ := takeN_bounds ho
    have no : (1048576 < n ∨ most < n ∨ l.length - k < n) → (Value.tuple #[.string ⟨#[]⟩, .int .i64 0, .int .i64 20] = txtV (takeT l at_ most) ∧ w = w) := by
      intro h
      refine ⟨?_, rfl⟩
      simp only [takeT, ho]
      rw [if_pos h]
      rfl
    refine ⟨_, _, _, rfl, IFB_false (IFB_dec (fun h => no (.inl (by omega))) (fun hn1 => ?_))⟩
    rw [wrap_i64 (n := (n : Int)) (by omega) (by omega), wrap_i64 (n := (l.length : Int) - (k : Int)) (by omega) (by omega)]
    refine IFB_dec (fun h => no (.inr (.inl (by omega)))) (fun hn2 => IFB_dec (fun h => no (.inr (.inr (by omega)))) (fun hn3 => ?_))
    have e : IntKind.i64.wrap ((k : Int) + (n : Int)) = ((k + n : Nat) : Int) := by rw [wrap_i64 (by omega) (by omega)]; omega
    rw [e]
    refine ⟨⟨by omega, by omega, by omega⟩, ?_⟩
    rw [Int.toNat_natCast, Int.toNat_natCast, Nat.add_sub_cancel_left]
    have hsl := hl.sla k (k + n) c 1 (by omega)
    rw [Nat.mul_one, Nat.mul_one, Nat.add_sub_cancel_left, ← List.map_drop, ← List.map_take] at hsl
    have hlen : ((l.drop k).take n).length = n := by rw [List.length_take, List.length_drop]; omega
    refine string_of_bytes tbytes hlen.symm hsl ⟨_, rfl, ?_, rfl⟩
    simp only [takeT, ho]
    rw [if_neg (by omega)]
    rfl
theorem ref_TakeText_ok (hl : Rd w a (l.map byteV)) (hc : l.length ≤ c) (hs : l.length ≤ 9223372036854775807) (at_ : Int) (hat : at_ ≤ 9223372036854775807) (most : Nat) : Calls Tryz.prog f.ref02_TakeText #[.slice a l.length c, .int .i64 at_, .int .i64 (most : Int)] w (Ret fun v w' => v = txtV (takeT l at_ most) ∧ w' = w) := by
  apply R.ref02_TakeText_calls
  unfold R.ref02_TakeText
  refine (ref_TakeNumber_ok hl hs at_ hat).mono ?_
  rintro _ w ⟨_, rfl, rfl, rfl⟩
  cases ho : takeN l at_ with
  | none => exact ⟨_, _, _, rfl, IFB_true ⟨by simp only [takeT, ho]; rfl, rfl⟩⟩
  | some x =>
    obtain ⟨n, k⟩ := x
    obtain ⟨h1, h2, h3, h4, h5⟩ := takeN_bounds ho
    have no : (1048576 < n ∨ most < n ∨ l.length - k < n) → (Value.tuple #[.string ⟨#[]⟩, .int .i64 0, .int .i64 20] = txtV (takeT l at_ most) ∧ w = w) := by
      intro h
      refine ⟨?_, rfl⟩
      simp only [takeT, ho]
      rw [if_pos h]
      rfl
    refine ⟨_, _, _, rfl, IFB_false (IFB_dec (fun h => no (.inl (by omega))) (fun hn1 => ?_))⟩
    rw [wrap_i64 (n := (n : Int)) (by omega) (by omega), wrap_i64 (n := (l.length : Int) - (k : Int)) (by omega) (by omega)]
    refine IFB_dec (fun h => no (.inr (.inl (by omega)))) (fun hn2 => IFB_dec (fun h => no (.inr (.inr (by omega)))) (fun hn3 => ?_))
    have e : IntKind.i64.wrap ((k : Int) + (n : Int)) = ((k + n : Nat) : Int) := by rw [wrap_i64 (by omega) (by omega)]; omega
    rw [e]
    refine ⟨⟨by omega, by omega, by omega⟩, ?_⟩
    rw [Int.toNat_natCast, Int.toNat_natCast, Nat.add_sub_cancel_left]
    have hsl := hl.sla k (k + n) c 1 (by omega)
    rw [Nat.mul_one, Nat.mul_one, Nat.add_sub_cancel_left, ← List.map_drop, ← List.map_take] at hsl
    have hlen : ((l.drop k).take n).length = n := by rw [List.length_take, List.length_drop]; omega
    refine string_of_bytes tbytes hlen.symm hsl ⟨_, rfl, ?_, rfl⟩
    simp only [takeT, ho]
    rw [if_neg (by omega)]
    rfl
end
theorem NewB.appended {w w1 w2 w3 : World} {l m : List UInt8} {a a' : Option Addr} {c c' : Nat} (h : NewB w w1 l a c) (hb : Below w1.heap.size w1 w2) (R : Row w3 ty.uint8 1 a' m.length c' (m.map byteV)) (K : Keeps (fun k => rowB a = some k) w2 w3) (N : ∀ k, rowB a' = some k → rowB a = some k ∨ w2.heap.size ≤ k) : NewB w w3 m a' c' := by
  have h2 := h.grown hb
  refine ⟨R, fun k hk => ?_, h2.bel.trans (K.below h2.bel.size fun k hk he => by have := h2.new k he; omega)⟩
  rcases N k hk with hh | hh
  · exact h2.new k hh
  · exact Nat.le_trans h2.bel.size hh
section
variable {w : World} {a : Option Addr} {c : Nat}
theorem ref_Number_ok (l : List UInt8) (hl : Rd w a (l.map byteV)) (n : Nat) (hn : n < 18446744073709551616) (hs : l.length + 10 ≤ 140737488355328) :
    Calls Tryz.prog f.ref02_Number #[.slice a l.length c, .int .u64 (n : Int)] w (Ret fun v w' => ∃ a c, v = .slice a (l ++ digitsL n).length c ∧ NewB w w' (l ++ digitsL n) a c) := by
  apply R.ref02_Number_calls
  unfold R.ref02_Number
  have e : IntKind.i64.wrap ((l.length : Int) + 10) = ((l.length + 10 : Nat) : Int) := by rw [wrap_i64 (by omega) (by omega)]; omega
  rw [e]
  refine make_row0 tB (by omega) (by omega) fun b w1 hb B1 R1 => ⟨_, _, _, rfl, ?_⟩
  refine append_bytes (l := []) R1 (hl.grown B1) (by simp; omega) fun a2 c2 w2 R2 K2 N2 => ⟨_, _, _, rfl, ?_⟩
  have h1 : NewB w w1 [] (some ⟨b, 0, none⟩) (l.length + 10) := ⟨R1, fun k hk => by simp [rowB] at hk; omega, B1⟩
  have h2 : NewB w w2 l a2 c2 := h1.appended (.refl _ _) R2 K2 N2
  refine ⟨fun s w3 => ∃ (m : Nat) (a : Option Addr) (c : Nat) (l' : List UInt8), s = [.int .u64 (m : Int), .slice a l'.length c] ∧ m < 18446744073709551616 ∧ l' ++ digitsL m = l ++ digitsL n ∧ NewB w w3 l' a c,
    fun s _ => match s with
      | [.int _ i, _] => i.toNat
      | _ => 0, ⟨n, a2, c2, l, rfl, hn, rfl, h2⟩, ?_⟩
  rintro _ a3 _ c3 w3 ⟨m, _, _, l', hs', hm, hl', h3⟩
  cases hs'
  have hlen : l'.length + 1 ≤ 140737488355328 := by
    have h4 := digitsL_len10 hn
    have h5 := congrArg List.length hl'
    have h6 := digitsL_pos m
    have h7 : 0 < (digitsL m).length := List.length_pos_iff.2 h6
    simp only [List.length_append] at h5
    omega
  refine IFB_dec (fun h => ?_) (fun h => ?_)
  · have e1 : IntKind.u8.wrap (IntKind.u8.wrap (Int.tmod (m : Int) 128) + 128) = ((m % 128 + 128 : Nat) : Int) := by
      rw [Int.tmod_eq_emod_of_nonneg (by omega), wrap_u8_id (n := (m : Int) % 128) (by omega) (by omega), wrap_u8_id (by omega) (by omega)]
      omega
    have e2 : IntKind.u64.wrap (Int.tdiv (m : Int) 128) = ((m / 128 : Nat) : Int) := by rw [Int.tdiv_eq_ediv_of_nonneg (by omega), wrap_u64_id (by omega) (by omega)]; omega
    rw [e1, e2]
    refine (SH.start (fun _ => False) w3).newB fun b13 w6 hb13 B6 S6 => ?_
    refine append_byte (h3.grown B6).row hlen (x := UInt8.ofNat (m % 128 + 128)) (byteV_of (by omega)) (S6.get 0 rfl) fun a7 c7 w7 R7 K7 N7 => ⟨_, _, _, rfl, ⟨m / 128, a7, c7, _, rfl, by omega, ?_, h3.appended B6 R7 K7 N7⟩, ?_⟩
    · rw [← hl']
      conv => rhs; rhs; unfold digitsL; rw [dif_neg (by omega)]
      simp
    · simp only [Int.toNat_natCast]
      omega
  · have hm0 : m < 128 := by omega
    rw [wrap_u8_id (n := (m : Int)) (by omega) (by omega)]
    refine (SH.start (fun _ => False) w3).newB fun b13 w6 hb13 B6 S6 => ?_
    refine append_byte (h3.grown B6).row hlen (x := UInt8.ofNat m) (byteV_of (by omega)) (S6.get 0 rfl) fun a7 c7 w7 R7 K7 N7 => ⟨_, _, _, rfl, ?_⟩
    have e : l' ++ [UInt8.ofNat m] = l ++ digitsL n := by rw [← hl']; conv => rhs; rhs; unfold digitsL; rw [dif_pos hm0]
    have h7 := h3.appended B6 R7 K7 N7
    rw [e] at h7 ⊢
    exact ⟨a7, c7, rfl, h7⟩
theorem ref_Text_ok (l : List UInt8) (hl : Rd w a (l.map byteV)) (s : ByteArray) (hz : s.size ≤ 1048576) (hs : l.length + 10 + s.size ≤ 140737488355328) :
    Calls Tryz.prog f.ref02_Text #[.slice a l.length c, .string s] w (Ret fun v w' => ∃ a c, v = .tuple #[.slice a (l ++ textL s).length c, .int .i64 0] ∧ NewB w w' (l ++ textL s) a c) := by
  apply R.ref02_Text_calls
  unfold R.ref02_Text
  refine IFB_dec (fun h => by omega) (fun _ => ?_)
  rw [wrap_u64_id (by omega) (by omega)]
  refine (ref_Number_ok l hl s.size (by omega) (by omega)).mono ?_
  rintro _ w1 ⟨_, rfl, a1, c1, rfl, h1⟩
  have hd := digitsL_len10 (n := s.size) (by omega)
  refine ⟨_, _, _, rfl, append_text h1.row s (by simp only [List.length_append]; omega) fun a2 c2 w2 R2 K2 N2 => ⟨_, _, _, rfl, ?_⟩⟩
  have h2 := h1.appended (.refl _ _) R2 K2 N2
  have e : l ++ digitsL s.size ++ bl s = l ++ textL s := by rw [textL, List.append_assoc]
  rw [e] at h2 ⊢
  exact ⟨a2, c2, rfl, h2⟩
end
theorem ofNat_toNat8 {n : Nat} (h : n < 256) : (UInt8.ofNat n).toNat = n := by simp; omega
theorem digitsL_small {n : Nat} (h : n < 128) : digitsL n = [UInt8.ofNat n] := by unfold digitsL; rw [dif_pos h]
theorem digitsL_big {n : Nat} (h : ¬ n < 128) : digitsL n = UInt8.ofNat (n % 128 + 128) :: digitsL (n / 128) := by conv => lhs; unfold digitsL; rw [dif_neg h]
theorem readN_digits (n : Nat) : ∀ (i acc : Nat) (r : List UInt8), n * 128 ^ i < 18446744073709551616 → i ≤ 9 → (n = 0 → i = 0) → readN i acc (digitsL n ++ r) = some (acc + n * 128 ^ i, i + (digitsL n).length) := by
  induction n using Nat.strongRecOn with
  | _ n ih =>
    intro i acc r hn hi h0
    by_cases h : n < 128
    · rw [digitsL_small h]
      simp only [List.singleton_append, readN]
      rw [ofNat_toNat8 (by omega)]
      have e9 : i = 9 → n = 1 := by
        intro h9
        subst h9
        have : (128 : Nat) ^ 9 = 9223372036854775808 := by decide
        rw [this] at hn
        have : n ≠ 0 := fun h => by have := h0 h; omega
        omega
      rw [if_neg (by omega), if_pos h, if_neg (by omega)]
      rfl
    · rw [digitsL_big h]
      simp only [List.cons_append, readN]
      rw [ofNat_toNat8 (by omega)]
      have h8 : i ≤ 8 := by
        by_cases h9 : i = 9
        · subst h9
          have : (128 : Nat) ^ 9 = 9223372036854775808 := by decide
          rw [this] at hn
          omega
        · omega
      have ep : (128 : Nat) ^ (i + 1) = 128 * 128 ^ i := by rw [Nat.pow_succ, Nat.mul_comm]
      have key : n / 128 * 128 ^ (i + 1) + n % 128 * 128 ^ i = n * 128 ^ i := by
        rw [ep, ← Nat.mul_assoc, ← Nat.add_mul]
        congr 1
        omega
      rw [if_neg (by omega), if_neg (by omega), ih (n / 128) (by omega) (i + 1) _ r (by omega) (by omega) (by omega)]
      simp only [List.length_cons]
      have : (n % 128 + 128) % 128 = n % 128 := by omega
      rw [this]
      congr 2
      · omega
      · omega
theorem readN_conv : ∀ (l : List UInt8) (i acc n k : Nat), readN i acc l = some (n, k) → ∃ m, n = acc + m * 128 ^ i ∧ k = i + (digitsL m).length ∧ l = digitsL m ++ l.drop (digitsL m).length ∧ (0 < i → m ≠ 0)
  | [], _, _, _, _, h => by simp [readN] at h
  | c :: r, i, acc, n, k, h => by
    have hc := c.toNat_lt
    unfold readN at h
    split at h
    · cases h
    · split at h
      · rename_i hlt
        split at h
        · cases h
        · rename_i hz
          simp only [Option.some.injEq, Prod.mk.injEq] at h
          obtain ⟨rfl, rfl⟩ := h
          refine ⟨c.toNat, rfl, ?_, ?_, fun hi hh => hz ⟨hh, hi⟩⟩
          · rw [digitsL_small hlt]; rfl
          · rw [digitsL_small hlt]; simp
      · rename_i hge
        obtain ⟨m, e1, e2, e3, e4⟩ := readN_conv r (i + 1) _ n k h
        have hm := e4 (by omega)
        have hb : ¬ (c.toNat % 128 + 128 * m) < 128 := by omega
        have ed : digitsL (c.toNat % 128 + 128 * m) = c :: digitsL m := by
          rw [digitsL_big hb]
          have h1 : (c.toNat % 128 + 128 * m) % 128 + 128 = c.toNat := by omega
          have h2 : (c.toNat % 128 + 128 * m) / 128 = m := by omega
          rw [h1, h2]
          simp
        refine ⟨c.toNat % 128 + 128 * m, ?_, ?_, ?_, fun _ => by omega⟩
        · rw [e1, Nat.pow_succ, Nat.add_mul, Nat.add_assoc]
          congr 2
          rw [Nat.mul_comm (128 ^ i) 128, ← Nat.mul_assoc, Nat.mul_comm m 128]
        · rw [e2, ed]
          simp only [List.length_cons]
          omega
        · rw [ed]
          simp only [List.length_cons, List.drop_succ_cons, List.cons_append]
          rw [← e3]
def zeroB (n : Nat) : List UInt8 := List.replicate n 0
def blkAt (l : List UInt8) (p : Nat) : List UInt8 := (l.drop p).take 64 ++ zeroB (64 - min (l.length - p) 64)
theorem blkAt_len (l : List UInt8) (p : Nat) : (blkAt l p).length = 64 := by
  simp [blkAt, zeroB]
  omega
def endAt (l : List UInt8) (p : Nat) : Nat := p + min (l.length - p) 64
def sumP (l : List UInt8) : Nat → List Wd
  | 0 => firstL.set 0 (firstL.getD 0 0 ^^^ 16842784)
  | k + 1 => nextP (sumP l k) (blkAt l (64 * k)) (endAt l (64 * k)) (endAt l (64 * k) == l.length)
theorem nextP_len (h : List Wd) (blk : List UInt8) (n : Nat) (last : Bool) : (nextP h blk n last).length = h.length := by
  unfold nextP
  rw [hF_len]
theorem sumP_len (l : List UInt8) : ∀ k, (sumP l k).length = 8
  | 0 => by simp [sumP, firstL]
  | k + 1 => by rw [sumP, nextP_len, sumP_len l k]
def nblk (l : List UInt8) : Nat := max 1 ((l.length + 63) / 64)
def outB (h : List Wd) (i : Nat) : UInt8 := UInt8.ofNat ((h.getD (i / 4) 0) >>> (8 * (i % 4))).toNat
def outP (h : List Wd) : Nat → List UInt8
  | 0 => zeroB 32
  | i + 1 => (outP h i).set i (outB h i)
theorem outP_len (h : List Wd) : ∀ i, (outP h i).length = 32
  | 0 => by simp [outP, zeroB]
  | i + 1 => by simp [outP, outP_len h i]
def digP (l : List UInt8) : List UInt8 := outP (sumP l (nblk l)) 32
theorem by_one (v : List UInt8) : ∀ x ∈ v.map byteV, x.oneCell' = true := by
  rw [map_byteV]
  exact ints_one _ _
section
variable {F : Nat → Prop} {w0 w : World} {H : List Ent}
theorem _root_.Go.Dn.SH.bysto (S : SH F w0 w H) (n : Nat) {b : Nat} {v : List UInt8} {t : TypeId} (hn : H[n]? = some (b, ⟨v.map byteV⟩, t)) {j x : Nat} (hj : j < v.length) (hx : x = j) {y : UInt8} {k : World → Prop}
    (hk : ∀ w', SH F w0 w' (H.set n (b, ⟨(v.set j y).map byteV⟩, t)) → k w') : STO ((⟨b, 0, none⟩ : Addr).add (x * 1)) (.int .u8 (y.toNat : Int)) k w := by
  subst hx
  rw [addr_add_blk, Nat.zero_add, Nat.mul_one]
  refine S.sto n hn (by simpa using hj) fun w' S' => hk w' ?_
  have e : (⟨v.map byteV⟩ : Array Value).setIfInBounds x (.int .u8 (y.toNat : Int)) = ⟨(v.set x y).map byteV⟩ := by
    apply Array.ext'
    simp [byteV, List.map_set]
  rw [e] at S'
  exact S'
end
theorem outB_prog (x : Wd) (k : Nat) (hk : k ≤ 32) : IntKind.u8.wrap (Int.fdiv (x.toNat : Int) (2 ^ (min k 32))) = ((UInt8.ofNat (x >>> k).toNat).toNat : Int) := by
  rw [Nat.min_eq_left hk, fdiv_shift, wrap_u8]
  simp
theorem hash_Sum_ok {w : World} (T : Tabs w) {a : Option Addr} {c : Nat} (ps : List PartB) (hp : Rd w a (ps.map partV1)) (hb : ∀ p ∈ ps, Rd w p.1 (p.2.2.map byteV)) (hn : ps.length < 9223372036854775807) (hl : (flatB ps).length ≤ 140737488355328) :
    Calls Tryz.prog f.hash_Sum #[.slice a ps.length c] w (Ret fun v w' => v = .agg ⟨(digP (flatB ps)).map byteV⟩ ∧ Below w.heap.size w w') := by
  apply R.hash_Sum_calls
  unfold R.hash_Sum
  refine (SH.start (fun _ => False) w).newB fun b2 w1 _ B1 S => ?_
  refine (slices_Concat_ok ps (hp.grown B1) (fun p h => (hb p h).grown B1) hn hl).mono ?_
  rintro _ w2 ⟨_, rfl, a2, c2, rfl, N2⟩
  generalize flatB ps = l at *
  have S2 := S.grown N2.bel
  have T2 := T.grown S2.below
  refine ⟨_, _, _, rfl, LOADC_wd firstL rfl T2.first ?_⟩
  refine (SH.start (fun _ => False) w2).newB fun b6 w3 _ _ S => BIF_len rfl (S.stoAll 0 rfl (vs := firstL.map wV) rfl (wd_one _) fun w4 _ S => ?_)
  refine ⟨_, S.wd' 0 rfl (by simp [firstL]), ?_⟩
  have e0 : ∀ x : Wd, IntKind.u32.wrap (((BitVec.ofInt 32 (x.toNat : Int) ^^^ BitVec.ofInt 32 16842784).toNat : Int)) = ((x ^^^ 16842784).toNat : Int) := by
    intro x
    rw [ofInt_nat, wrap32_nat]
    rfl
  rw [e0]
  refine S.wdsto' 0 rfl (by simp [firstL]) fun w5 S => ?_
  refine ⟨fun st w' => ∃ k : Nat, st = [.int .i64 ((64 * k : Nat) : Int)] ∧ (k ≤ 1 ∨ 64 * (k - 1) < l.length) ∧ SH (fun _ => False) w2 w' [(b6, ⟨(sumP l k).map wV⟩, 216)],
    fun st _ => match st with | [.int _ t] => ((l.length : Int) + 64 - t).toNat | _ => 0, ⟨0, rfl, .inl (by omega), S⟩, ?_⟩
  rintro t w6 ⟨k, hst, hk, S⟩
  cases int1 hst
  have hsl := sumP_len l k
  refine ⟨fun _ w' => (k = 0 ∨ 64 * k < l.length) ∧ SH (fun _ => False) w2 w' [(b6, ⟨(sumP l k).map wV⟩, 216)], ?_, ?_⟩
  · refine IFB_eq (fun h => ⟨.inl (by omega), S⟩) (fun h0 => IFB_dec (fun h => ⟨.inr (by omega), S⟩) (fun h => ?_))
    have hkn : nblk l = k := by
      unfold nblk
      omega
    have S6 := S2.grown S.below
    refine S.newB fun b18 w13 _ B13 S => ?_
    refine ⟨fun st w' => ∃ i : Nat, st = [.int .i64 (i : Int)] ∧ i ≤ 32 ∧ SH (fun _ => False) w2 w' [(b18, ⟨(outP (sumP l k) i).map byteV⟩, 142), (b6, ⟨(sumP l k).map wV⟩, 216)],
      fun st _ => match st with | [.int _ t] => (32 - t).toNat | _ => 0, ⟨0, rfl, by omega, S⟩, ?_⟩
    rintro t w14 ⟨i, hst, hi, S⟩
    cases int1 hst
    have hol := outP_len (sumP l k) i
    refine IFB_dec (fun hlt => ?_) (fun hge => ?_)
    · have hi32 : i < 32 := by omega
      rw [tdiv4 i (by omega), tmod4 i (by omega)]
      refine ⟨⟨by omega, by omega⟩, _, S.wd 1 rfl (by omega) (Int.toNat_natCast _), by omega, ⟨by omega, hlt⟩, ?_⟩
      rw [Int.toNat_natCast, outB_prog _ _ (by omega)]
      refine S.bysto 0 rfl (by omega) (Int.toNat_natCast _) fun w16 S => ?_
      rw [wrap_succ (by omega)]
      exact ⟨⟨i + 1, rfl, by omega, S⟩, by show (32 - ((i + 1 : Nat) : Int)).toNat < (32 - (i : Int)).toNat; omega⟩
    · have hi32 : i = 32 := by omega
      have hl2 : ((outP (sumP l k) i).map byteV).length = 32 := by rw [List.length_map]; exact hol
      refine LOADC_by (outP (sumP l k) i) hol (Rd.of_block0 (S.get 0 rfl)) (BIF_len hl2 ?_)
      refine (S2.grown S.below).stoAll 0 rfl hl2 (by_one _) fun w15 _ S' => ?_
      refine LOADC_by (outP (sumP l k) i) hol (Rd.of_block0 (S'.get 0 rfl)) ⟨?_, S'.below⟩
      unfold digP
      rw [hkn, hi32]
  · rintro w7 ⟨hk2, S⟩
    have hk3 : 64 * k ≤ l.length := by omega
    refine S.newB fun b11 w8 _ _ S => S.draw fun w9 S => ⟨⟨by omega, by omega, by omega⟩, ⟨by omega, by omega, by have := N2.row.le; omega⟩, ?_⟩
    have hrd : Rd w9 (SLA a2 (64 * k) c2 1) ((l.drop (64 * k)).map byteV) := by
      have := (N2.rd.grown S.below).sla (64 * k) l.length c2 1 N2.row.le
      rw [List.take_of_length_le (by simp), Nat.mul_one, ← List.map_drop] at this
      exact this
    rw [Int.toNat_natCast]
    refine S.copy 0 rfl (P := Tryz.prog) (elem := 5) (by kernel_rfl) (by kernel_rfl) (a := SLA a2 (64 * k) c2 1) (xs := (l.drop (64 * k)).map byteV) (by simp) (by simp) hrd (by_one _) fun w10 _ S => ?_
    have eb : (⟨((l.drop (64 * k)).map byteV).take 64 ++ (List.replicate 64 (Value.int .u8 0)).drop (min (l.length - 64 * k) 64)⟩ : Array Value) = ⟨(blkAt l (64 * k)).map byteV⟩ := by
      rw [List.drop_replicate]
      simp only [blkAt, zeroB, List.map_append, List.map_replicate, List.map_take]
      rfl
    replace S := eb ▸ S
    have ee : IntKind.i64.wrap (((64 * k : Nat) : Int) + ((min (l.length - 64 * k) (64 - 0) : Nat) : Int)) = ((endAt l (64 * k) : Nat) : Int) := by
      unfold endAt
      rw [wrap_i64 (by omega) (by omega)]
      omega
    have eu : IntKind.u64.wrap ((endAt l (64 * k) : Nat) : Int) = ((endAt l (64 * k) : Nat) : Int) := by
      have : endAt l (64 * k) ≤ l.length := by unfold endAt; omega
      rw [wrap_u64_id (by omega) (by omega)]
    have eq2 : (((endAt l (64 * k) : Nat) : Int) == ((l.length : Nat) : Int)) = (endAt l (64 * k) == l.length) := by
      rw [Bool.eq_iff_iff]
      simp
      omega
    refine ⟨_, rfl, LOADC_wd (sumP l k) hsl (Rd.of_block0 (S.get 1 rfl)) (LOADC_by (blkAt l (64 * k)) (blkAt_len _ _) (Rd.of_block0 (S.get 0 rfl)) ?_)⟩
    rw [ee, eu, eq2]
    refine (next_ok (T2.grown S.below) (sumP l k) hsl (blkAt l (64 * k)) (blkAt_len _ _) (endAt l (64 * k)) (by unfold endAt; omega) _).mono ?_
    rintro _ w11 ⟨_, rfl, rfl, B11⟩
    have hnl := sumP_len l (k + 1)
    rw [sumP] at hnl
    refine LIKEL_wd _ hnl ⟨rfl, BIF_len (by rw [List.length_map]; exact hnl) ?_⟩
    refine (S.grown B11).stoAll 1 rfl (by simp only [List.length_map, hnl, List.size_toArray, hsl]) (wd_one _) fun w12 _ S => ?_
    have e64 : IntKind.i64.wrap (((64 * k : Nat) : Int) + 64) = ((64 * (k + 1) : Nat) : Int) := by rw [wrap_i64 (by omega) (by omega)]; omega
    rw [e64]
    exact ⟨⟨k + 1, rfl, by omega, S.drop 1⟩, by show ((l.length : Int) + 64 - ((64 * (k + 1) : Nat) : Int)).toNat < ((l.length : Int) + 64 - ((64 * k : Nat) : Int)).toNat; omega⟩
theorem getD_set_ne (v : List Wd) {a b : Nat} (h : a ≠ b) (x : Wd) : (v.set a x).getD b 0 = v.getD b 0 := by
  rw [List.getD_eq_getElem?_getD, List.getElem?_set_ne h, ← List.getD_eq_getElem?_getD]
def hexS : ByteArray := ⟨#[48, 49, 50, 51, 52, 53, 54, 55, 56, 57, 97, 98, 99, 100, 101, 102]⟩
def hex2 (c : UInt8) : List UInt8 := [sget hexS (c.toNat / 16), sget hexS (c.toNat % 16)]
def hexP (d : List UInt8) : List UInt8 := d.flatMap hex2
theorem hexP_len (d : List UInt8) : (hexP d).length = 2 * d.length := by
  induction d with
  | nil => rfl
  | cons c d ih => simp [hexP, hex2] at ih ⊢; omega
theorem hexP_take (d : List UInt8) (i : Nat) (h : i < d.length) : hexP (d.take (i + 1)) = hexP (d.take i) ++ hex2 (d.getD i 0) := by
  unfold hexP
  rw [List.take_succ_eq_append_getElem h, List.flatMap_append]
  simp [h]
theorem and15 : ∀ c : UInt8, IntKind.u8.wrap (((BitVec.ofInt 8 (c.toNat : Int) &&& BitVec.ofInt 8 15).toNat : Int)) = ((c.toNat % 16 : Nat) : Int) := by
  intro c
  have h := c.toNat_lt
  have e : (BitVec.ofInt 8 (c.toNat : Int) &&& BitVec.ofInt 8 15).toNat = c.toNat % 16 := by
    rw [BitVec.toNat_and, BitVec.ofInt_natCast, BitVec.toNat_ofNat, Nat.mod_eq_of_lt (by omega), show (BitVec.ofInt 8 15).toNat = 2 ^ 4 - 1 by rfl, Nat.and_two_pow_sub_one_eq_mod]
  rw [e, wrap_u8_id (by omega) (by omega)]
theorem shr4 (c : UInt8) : Int.fdiv (c.toNat : Int) (2 ^ (min 4 8)) = ((c.toNat / 16 : Nat) : Int) := by
  rw [show (2 : Int) ^ (min 4 8) = 16 by rfl, Int.fdiv_eq_ediv_of_nonneg _ (by omega)]
  omega
theorem hash_Hex_ok (d : List UInt8) (hd : d.length = 32) (w : World) :
    Calls Tryz.prog f.hash_Hex #[.agg ⟨d.map byteV⟩] w (Ret fun v w' => v = .string (sof (hexP d)) ∧ Below w.heap.size w w') := by
  apply R.hash_Hex_calls
  unfold R.hash_Hex
  refine (SH.start (fun _ => False) w).newB fun b2 w1 _ B1 S => LOADC_by d hd (Rd.of_block0 (S.get 0 rfl)) ?_
  refine ⟨fun s w' => ∃ (i : Nat) (a : Option Addr) (c : Nat), s = [.slice a (hexP (d.take i)).length c, .int .i64 (i : Int)] ∧ i ≤ 32 ∧ NewB w1 w' (hexP (d.take i)) a c,
    fun s _ => match s with | [_, .int _ t] => (32 - t).toNat | _ => 0, ⟨0, none, 0, rfl, by omega, Row.nil _ _ _, by simp [rowB], .refl _ _⟩, ?_⟩
  rintro _ _ c _ w2 ⟨i, a, _, hs, hi, h1⟩
  cases hs
  refine IFB_dec (fun hlt => ⟨⟨by omega, hlt⟩, ?_⟩) (fun hge => ?_)
  · have hi32 : i < 32 := by omega
    have hx := (d.getD i 0).toNat_lt
    refine ⟨((d.getD i 0).toNat : Int), ?_, ?_⟩
    · rw [Int.toNat_natCast, Nat.mul_one]
      simp [hd, hi32, byteV]
    · rw [and15, shr4, Int.toNat_natCast, Int.toNat_natCast]
      refine (SH.start (fun _ => False) w2).drawB fun w4 B4 S4 => ⟨⟨by omega, ?_⟩, ⟨by omega, ?_⟩, S4.newB fun b10 w5 _ B5 S5 => ?_⟩
      · show (((d.getD i 0).toNat / 16 : Nat) : Int) < 16
        omega
      · show (((d.getD i 0).toNat % 16 : Nat) : Int) < 16
        omega
      have h5 := (h1.grown B4).grown B5
      have hl := hexP_len (d.take i)
      rw [List.length_take] at hl
      refine append_bytes h5.row (m := hex2 (d.getD i 0)) (b := some ⟨b10, 0, none⟩) (mc := 2) (Rd.of_block0 (S5.get 0 rfl)) (by show _ + 2 ≤ _; omega) fun a' c' w6 R6 K6 N6 => ⟨_, _, _, rfl, ?_⟩
      rw [← hexP_take d i (by omega)] at R6 ⊢
      rw [wrap_succ (by omega)]
      refine ⟨⟨i + 1, a', c', rfl, by omega, R6, fun k hk => ?_, h5.bel.trans (K6.below h5.bel.size fun k hk he => by have := h5.new k he; omega)⟩, by show (32 - ((i + 1 : Nat) : Int)).toNat < (32 - (i : Int)).toNat; omega⟩
      rcases N6 k hk with h | h
      · exact h5.new k h
      · exact Nat.le_trans h5.bel.size h
  · have hi32 : i = 32 := by omega
    have ht : d.take i = d := by rw [List.take_of_length_le (by omega)]
    rw [ht] at h1 ⊢
    exact string_of_bytes (by kernel_rfl) rfl h1.rd ⟨_, rfl, rfl, below_trans B1 h1.bel⟩
theorem digP_len (l : List UInt8) : (digP l).length = 32 := outP_len _ _
def letB (c : UInt8) : Bool := decide (97 ≤ c.toNat) && decide (c.toNat ≤ 122)
def othB (c : UInt8) : Bool := (decide (48 ≤ c.toNat) && decide (c.toNat ≤ 57)) || c.toNat == 95
def nameAt (s : ByteArray) (i : Nat) : Bool := letB (sget s i) || (othB (sget s i) && i != 0)
def isNameB (s : ByteArray) : Bool := (List.range s.size).all (nameAt s) && decide (1 ≤ s.size) && decide (s.size ≤ 24)
theorem ref05_IsName_ok (s : ByteArray) (hs : s.size ≤ 9223372036854775807) (w : World) : Calls Tryz.prog f.ref05_IsName #[.string s] w (Ret fun r w' => r = .bool (isNameB s) ∧ w' = w) := by
  apply R.ref05_IsName_calls
  unfold R.ref05_IsName
  refine ⟨fun st w' => ∃ i : Nat, st = [.int .i64 (i : Int)] ∧ i ≤ s.size ∧ (∀ j, j < i → nameAt s j = true) ∧ w' = w,
    fun st _ => match st with | [.int _ t] => ((s.size : Int) - t).toNat | _ => 0, ⟨0, rfl, by omega, fun j hj => by omega, rfl⟩, ?_⟩
  rintro t w1 ⟨i, hst, hi, hall, rfl⟩
  cases int1 hst
  refine IFB_dec (fun hlt => ?_) (fun hge => ?_)
  · have hb : (0 : Int) ≤ (i : Int) ∧ (i : Int) < (s.size : Int) := ⟨by omega, hlt⟩
    rw [Int.toNat_natCast]
    refine ⟨fun st w' => st = [.bool (letB (sget s i))] ∧ w' = w1, ⟨hb, IFB_dec (fun h => ⟨hb, ?_⟩) (fun h => ?_)⟩, ?_⟩
    · have h97 : 97 ≤ (sget s i).toNat := by omega
      refine ⟨?_, rfl⟩
      congr 2
      rw [Bool.eq_iff_iff]
      simp [letB, h97]
      omega
    · have h97 : ¬ 97 ≤ (sget s i).toNat := by omega
      refine ⟨?_, rfl⟩
      simp [letB, h97]
    · rintro letter w2 ⟨hl, rfl⟩
      have hle : letter = letB (sget s i) := by simpa using hl
      subst hle
      refine ⟨fun st w' => st = [.bool (othB (sget s i))] ∧ w' = w2, ⟨hb, IFB_dec (fun h => ⟨hb, IFB_dec (fun h2 => ?_) (fun h2 => ⟨hb, ?_⟩)⟩) (fun h => ⟨hb, ?_⟩)⟩, ?_⟩
      · have h48 : 48 ≤ (sget s i).toNat := by omega
        have h57 : (sget s i).toNat ≤ 57 := by omega
        refine ⟨?_, rfl⟩
        simp [othB, h48, h57]
      · have h57 : ¬ (sget s i).toNat ≤ 57 := by omega
        refine ⟨?_, rfl⟩
        congr 2
        rw [Bool.eq_iff_iff]
        simp [othB, h57]
        omega
      · have h48 : ¬ 48 ≤ (sget s i).toNat := by omega
        refine ⟨?_, rfl⟩
        congr 2
        rw [Bool.eq_iff_iff]
        simp [othB, h48]
        omega
      · rintro other w3 ⟨ho, rfl⟩
        have hoe : other = othB (sget s i) := by simpa using ho
        subst hoe
        have hno : nameAt s i = false → isNameB s = false := by
          intro h
          have : (List.range s.size).all (nameAt s) = false := by
            rw [List.all_eq_false]
            exact ⟨i, List.mem_range.2 (by omega), by simp [h]⟩
          simp [isNameB, this]
        have hstep : nameAt s i = true → (∃ k : Nat, [Value.int .i64 (IntKind.i64.wrap ((i : Int) + 1))] = [.int .i64 (k : Int)] ∧ k ≤ s.size ∧ (∀ j, j < k → nameAt s j = true) ∧ w3 = w3) ∧
            ((s.size : Int) - IntKind.i64.wrap ((i : Int) + 1)).toNat < ((s.size : Int) - (i : Int)).toNat := by
          intro h
          rw [wrap_succ (by omega)]
          refine ⟨⟨i + 1, rfl, by omega, fun j hj => ?_, rfl⟩, by omega⟩
          rcases Nat.lt_or_ge j i with h2 | h2
          · exact hall j h2
          · rw [show j = i by omega]
            exact h
        refine IFB_of (fun h1 => IFB_of (fun h2 => ?_) (fun h2 => IFB_eq (fun h3 => ?_) (fun h3 => ?_))) (fun h1 => ?_)
        · exact ⟨by rw [hno (by simp_all [nameAt])], rfl⟩
        · have h0 : i = 0 := by omega
          exact ⟨by rw [hno (by simp_all [nameAt])], rfl⟩
        · have : i ≠ 0 := by omega
          exact hstep (by simp_all [nameAt])
        · exact hstep (by simp_all [nameAt])
  · have hie : i = s.size := by omega
    have ha : (List.range s.size).all (nameAt s) = true := by
      rw [List.all_eq_true]
      intro j hj
      exact hall j (by have := List.mem_range.1 hj; omega)
    refine IFB_dec (fun h => ⟨?_, rfl⟩) (fun h => ⟨?_, rfl⟩)
    · have h1 : 1 ≤ s.size := by omega
      congr 1
      rw [Bool.eq_iff_iff]
      simp [isNameB, ha, h1]
      omega
    · have h1 : ¬ 1 ≤ s.size := by omega
      simp [isNameB, h1]
end Go.Proofs.YtpnaifmmggnimaaGreatDoor
