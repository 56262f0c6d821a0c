/-
  Laws of what acts on memory: append, conversions, make.
-/
import Derived.Test.YtmilfgmkcmcicaaDnMem
import Derived.Laws.OwnMore
namespace Go.Dn
open Go.RowKit (Below)

theorem addr_add_add (p : Addr) (x y : Nat) : (p.add x).add y = p.add (x + y) := by
  unfold Addr.add
  by_cases hx : x = 0
  · subst hx; simp
  · by_cases hy : y = 0
    · subst hy; simp
    · simp [hx, hy, Nat.add_assoc]
theorem addr_add_zero (p : Addr) : p.add 0 = p := by simp [Addr.add]
theorem addr_add_blk (b i j : Nat) : (⟨b, i, none⟩ : Addr).add j = ⟨b, i + j, none⟩ := by
  unfold Addr.add
  by_cases hj : j = 0
  · subst hj; simp
  · simp [hj]
theorem addr_add_block (p : Addr) (x : Nat) : (p.add x).block = p.block := by
  unfold Addr.add
  split <;> rfl

/-- the cells from an address on hold these values -/
def Rd (w : World) (a : Option Addr) (vs : List Value) : Prop := ∀ j v, vs[j]? = some v → ∃ p, a = some p ∧ w.cell? (p.add j) = some v
theorem Rd.nil (w : World) (a : Option Addr) : Rd w a [] := by intro j v h; simp at h
theorem Rd.keeps {F : Nat → Prop} {w w' : World} {a : Option Addr} {vs : List Value} (h : Rd w a vs) (hk : Keeps F w w') (hn : ∀ p, a = some p → ¬ F p.block) : Rd w' a vs := by
  intro j v hv
  obtain ⟨p, hp, hc⟩ := h j v hv
  exact ⟨p, hp, hk.cell hc (by rw [addr_add_block]; exact hn p hp)⟩
theorem Rd.grown {w w' : World} {a : Option Addr} {vs : List Value} (h : Rd w a vs) (hk : Below w.heap.size w w') : Rd w' a vs :=
  h.keeps (F := fun _ => False) (Keeps.of_below hk) (by simp)
theorem Rd.take {w : World} {a : Option Addr} {vs : List Value} (h : Rd w a vs) (n : Nat) : Rd w a (vs.take n) := by
  intro j v hv
  rw [List.getElem?_take] at hv
  split at hv
  · exact h j v hv
  · cases hv
theorem Rd.drop {w : World} {p : Addr} {vs : List Value} (h : Rd w (some p) vs) (n : Nat) : Rd w (some (p.add n)) (vs.drop n) := by
  intro j v hv
  rw [List.getElem?_drop] at hv
  obtain ⟨q, hq, hc⟩ := h _ v hv
  cases hq
  exact ⟨_, rfl, by rw [addr_add_add]; exact hc⟩
theorem Rd.sla {w : World} {a : Option Addr} {vs : List Value} (h : Rd w a vs) (l hh m sz : Nat) (h2 : hh ≤ m) : Rd w (SLA a l m sz) ((vs.drop (l * sz)).take ((hh - l) * sz)) := by
  unfold SLA
  split
  · have : hh - l = 0 := by omega
    rw [this]
    simp [Rd]
  · cases a with
    | none =>
      intro j v hv
      rw [List.getElem?_take] at hv
      split at hv
      · rw [List.getElem?_drop] at hv
        obtain ⟨p, hp, _⟩ := h _ v hv
        cases hp
      · cases hv
    | some p => exact (h.drop (l * sz)).take _
theorem Rd.one {w : World} {a : Option Addr} {vs : List Value} (h : Rd w a vs) {j : Nat} {v : Value} (hv : vs[j]? = some v) : ∃ p, a = some p ∧ w.cell? (p.add j) = some v := h j v hv
theorem Rd.of_block {w : World} {b : Nat} {cs : Array Value} {t : TypeId} {f : Nat × Nat} (h : w.heap[b]? = some (.cells cs t f)) (i : Nat) : Rd w (some ⟨b, i, none⟩) (cs.toList.drop i) := by
  intro j v hv
  refine ⟨_, rfl, ?_⟩
  rw [addr_add_blk]
  rw [List.getElem?_drop] at hv
  simp [World.cell?, h]
  simpa using hv
theorem Rd.of_block0 {w : World} {b : Nat} {cs : Array Value} {t : TypeId} {f : Nat × Nat} (h : w.heap[b]? = some (.cells cs t f)) : Rd w (some ⟨b, 0, none⟩) cs.toList := by
  have := Rd.of_block h 0
  simpa using this

/-- a slice of the program's own making: it starts at a block's first cell, and nothing of the block is frozen -/
def rowB (a : Option Addr) : Option Nat := a.map (·.block)
def Row (w : World) (e : TypeId) (sz : Nat) (a : Option Addr) (n c : Nat) (xs : List Value) : Prop :=
  xs.length = n * sz ∧ ((a = none ∧ n = 0 ∧ c = 0) ∨
    ∃ g cur, a = some ⟨g, 0, none⟩ ∧ w.heap[g]? = some (.cells cur e (0, 0)) ∧ n ≤ c ∧ c ≤ 9223372036854775807 ∧ cur.size = c * sz ∧ cur.toList.take (n * sz) = xs)
theorem Row.nil (w : World) (e : TypeId) (sz : Nat) : Row w e sz none 0 0 [] := ⟨by simp, .inl ⟨rfl, rfl, rfl⟩⟩
theorem Row.rd {w : World} {e : TypeId} {sz : Nat} {a : Option Addr} {n c : Nat} {xs : List Value} (h : Row w e sz a n c xs) : Rd w a xs := by
  rcases h with ⟨hl, ⟨rfl, rfl, rfl⟩ | ⟨g, cur, rfl, hg, _, _, _, rfl⟩⟩
  · have : xs = [] := List.eq_nil_of_length_eq_zero (by simpa using hl)
    subst this
    exact Rd.nil _ _
  · exact (Rd.of_block0 hg).take _
theorem Row.len {w : World} {e : TypeId} {sz : Nat} {a : Option Addr} {n c : Nat} {xs : List Value} (h : Row w e sz a n c xs) : xs.length = n * sz := h.1
theorem Row.le {w : World} {e : TypeId} {sz : Nat} {a : Option Addr} {n c : Nat} {xs : List Value} (h : Row w e sz a n c xs) : n ≤ c := by
  rcases h with ⟨_, ⟨_, rfl, rfl⟩ | ⟨_, _, _, _, h, _⟩⟩
  · exact Nat.le_refl _
  · exact h
theorem Row.lt {w : World} {e : TypeId} {sz : Nat} {a : Option Addr} {n c : Nat} {xs : List Value} (h : Row w e sz a n c xs) {k : Nat} (hk : rowB a = some k) : k < w.heap.size := by
  rcases h with ⟨_, ⟨rfl, _⟩ | ⟨g, cur, rfl, hg, _⟩⟩
  · cases hk
  · cases hk; exact (Array.getElem?_eq_some_iff.1 hg).1
theorem Row.keeps {F : Nat → Prop} {w w' : World} {e : TypeId} {sz : Nat} {a : Option Addr} {n c : Nat} {xs : List Value} (h : Row w e sz a n c xs) (hk : Keeps F w w') (hn : ∀ k, rowB a = some k → ¬ F k) : Row w' e sz a n c xs := by
  refine ⟨h.1, ?_⟩
  rcases h.2 with h | ⟨g, cur, rfl, hg, r⟩
  · exact .inl h
  · exact .inr ⟨g, cur, rfl, hk.at hg (hn g rfl), r⟩
theorem Row.grown {w w' : World} {e : TypeId} {sz : Nat} {a : Option Addr} {n c : Nat} {xs : List Value} (h : Row w e sz a n c xs) (hk : Below w.heap.size w w') : Row w' e sz a n c xs :=
  h.keeps (F := fun _ => False) (Keeps.of_below hk) (by simp)

/-- a slice type: its elements' type, their cells and bytes, their zero value -/
def slT (P : Program) (t : TypeId) : Option (TypeId × Nat × Nat × Value) :=
  match P.underlying t with
  | some (.slice e) =>
    (match P.info? e with
    | some i => (match i.zero with
      | some z => some (e, i.size, i.bytes, z)
      | none => none)
    | none => none)
  | _ => none
theorem slT_out {P : Program} {t e : TypeId} {sz by_ : Nat} {z : Value} (h : slT P t = some (e, sz, by_, z)) : P.underlying t = some (.slice e) ∧ ∃ i, P.info? e = some i ∧ i.zero = some z ∧ i.size = sz ∧ i.bytes = by_ := by
  unfold slT at h
  split at h
  · rename_i e' hu
    split at h
    · rename_i i hi
      split at h
      · rename_i z' hz
        simp only [Option.some.injEq, Prod.mk.injEq] at h
        obtain ⟨rfl, rfl, rfl, rfl⟩ := h
        exact ⟨hu, i, hi, hz, rfl, rfl⟩
      · cases h
    · cases h
  · cases h

theorem keeps_setRow (w : World) (g : Nat) (cs : Array Value) : Keeps (· = g) w (w.setRow g cs) :=
  ⟨rfl, rfl, rfl, by simp [World.setRow], fun k _ hn => by simp only [World.setRow, Array.getElem?_modify]; rw [if_neg (fun h => hn h.symm)]⟩
theorem heap_setRow {w : World} {g : Nat} {cur cs : Array Value} {t : TypeId} {f : Nat × Nat} (h : w.heap[g]? = some (.cells cur t f)) : (w.setRow g cs).heap[g]? = some (.cells cs t f) := by
  simp [World.setRow, Array.getElem?_modify, h]

theorem append_row {P : Program} {t ty e : TypeId} {sz bytes : Nat} {z : Value} (hT : slT P t = some (e, sz, bytes, z)) (hz : z.cells.size = sz) (hsz : 0 < sz) (hb0 : 0 < bytes)
    {w : World} {a : Option Addr} {n c : Nat} {xs : List Value} (hr : Row w e sz a n c xs) {b : Option Addr} {m mc : Nat} {news : List Value} (hs : Rd w b news) (hl : news.length = m * sz)
    (h1 : ∀ u ∈ news, u.oneCell' = true) (hby : (n + m) * bytes ≤ 140737488355328) :
    ∃ a' c' w', (Builtin.append_ #[t, t] ty #[.slice a n c, .slice b m mc]).run P w = .ok (.slice a' (n + m) c') w' ∧ Row w' e sz a' (n + m) c' (xs ++ news) ∧
      Keeps (fun k => rowB a = some k) w w' ∧ (∀ k, rowB a' = some k → rowB a = some k ∨ w.heap.size ≤ k) := by
  obtain ⟨hu, i, hi, hiz, rfl, rfl⟩ := slT_out hT
  have hnm : n + m ≤ 140737488355328 := Nat.le_trans (Nat.le_mul_of_pos_right _ hb0) hby
  have hlen : (xs ++ news).length = (n + m) * i.size := by rw [List.length_append, hr.1, hl, Nat.add_mul]
  -- a grown row
  have grown : ∀ (old : Nat), old < n + m → Row (w.drew.alloc (.cells (xs.toArray ++ news.toArray ++ Builtin.zeroCells z.cells (grownCap w (n + m) old e - (n + m))) e)) e i.size
      (some ⟨w.heap.size, 0, none⟩) (n + m) (grownCap w (n + m) old e) (xs ++ news) := by
    intro old ho
    have hge := grownCap_ge w (n + m) old e
    have hcm : grownCap w (n + m) old e ≤ maxLen := grownCap_le_maxLen w (n + m) old e (by unfold maxLen; omega)
    refine ⟨hlen, .inr ⟨w.heap.size, _, rfl, heap_alloc_new w.drew _, hge, by unfold maxLen at hcm; omega, ?_, ?_⟩⟩
    · simp only [Array.size_append, List.size_toArray, size_zeroCells, hz, hr.1, hl, ← Nat.add_mul]
      congr 1
      omega
    · simp only [Array.toList_append, List.append_assoc]
      rw [← List.append_assoc, ← hlen]
      exact List.take_left
  have gkeeps : ∀ (cs : Array Value) (row : Nat → Prop), Keeps row w (w.drew.alloc (.cells cs e)) := fun cs row => (Keeps.refl row w).drew.alloc _
  have src : 0 < m → ∃ p, b = some p ∧ ∀ j u, news[j]? = some u → w.cell? (p.add j) = some u := by
    intro hm
    have h0 : 0 < news.length := by rw [hl]; exact Nat.mul_pos hm hsz
    obtain ⟨p, hp, _⟩ := hs 0 news[0] (List.getElem?_eq_getElem h0)
    refine ⟨p, hp, fun j u hu => ?_⟩
    obtain ⟨q, hq, hc⟩ := hs j u hu
    rw [hp] at hq
    cases hq
    exact hc
  have none0 : m = 0 → news = [] := fun hm => List.eq_nil_of_length_eq_zero (by rw [hl, hm]; simp)
  rcases hr.2 with ⟨rfl, rfl, rfl⟩ | ⟨g, cur, rfl, hg, hnc, hcm, hcs, htake⟩
  · have hx : xs = [] := List.eq_nil_of_length_eq_zero (by simpa using hr.1)
    subst hx
    by_cases hm : m = 0
    · have hn := none0 hm
      subst hm hn
      refine ⟨none, 0, w, ?_, by simpa using Row.nil w e i.size, .refl _ _, by simp [rowB]⟩
      cases b <;> simp [Builtin.append_, run_underlying hu, sizeOf, typeInfo, hi, Builtin.lenOf, Builtin.firstCells, loadCells, loadCellsFrom]
    · obtain ⟨p, rfl, hp⟩ := src (by omega)
      have hrun := run_append_nil (P := P) w t ty e i z hu hi hiz p m mc news hl hp (by omega) (by omega) (by simp only [Nat.zero_add] at hby; omega)
      have hrow := grown 0 (by omega)
      simp only [Nat.zero_add] at hrow hrun ⊢
      refine ⟨_, _, _, hrun, ?_, gkeeps _ _, fun k hk => .inr ?_⟩
      · simpa using hrow
      · simp [rowB] at hk; omega
  · by_cases hroom : n + m ≤ c
    · by_cases hm : m = 0
      · have hn := none0 hm
        subst hm hn
        refine ⟨some ⟨g, 0, none⟩, c, w, ?_, by simpa using hr, .refl _ _, fun k hk => .inl hk⟩
        cases b <;> simp [Builtin.append_, run_underlying hu, sizeOf, typeInfo, hi, Builtin.lenOf, Builtin.firstCells, loadCells, loadCellsFrom, hnc, storeCells]
      · obtain ⟨p, rfl, hp⟩ := src (by omega)
        have hfit : n * i.size + news.length ≤ cur.size := by rw [hl, hcs, ← Nat.add_mul]; exact Nat.mul_le_mul_right _ hroom
        have hrun := run_append_room (P := P) w t ty e i hu hi g n c cur hg p m mc news hl hp h1 hroom hfit
        have hxl : (List.take (n * i.size) cur.toList) = xs := htake
        refine ⟨_, _, _, hrun, ⟨hlen, .inr ⟨g, _, rfl, heap_setRow hg, hroom, hcm, ?_, ?_⟩⟩, (keeps_setRow w g _).mono (fun k _ h => by subst h; rfl), fun k hk => .inl hk⟩
        · simp only [List.size_toArray, List.length_append, List.length_take, List.length_drop, Array.length_toList]
          omega
        · rw [hxl]
          rw [← hlen]
          exact List.take_left
    · obtain ⟨p, rfl, hp⟩ := src (by omega)
      have hold : ∀ j v, xs[j]? = some v → w.cell? ((⟨g, 0, none⟩ : Addr).add j) = some v := by
        intro j v hv
        obtain ⟨q, hq, hc⟩ := hr.rd j v hv
        cases hq
        exact hc
      have hrun := run_append_grow (P := P) w t ty e i z hu hi hiz ⟨g, 0, none⟩ n c xs hr.1 hold p m mc news hl hp (by omega) (by omega) (growslice_fits (by omega) hby)
      refine ⟨_, _, _, hrun, grown c (by omega), gkeeps _ _, fun k hk => .inr ?_⟩
      simp [rowB] at hk
      omega
end Go.Dn
