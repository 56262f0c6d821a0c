/-
  More laws: append within the capacity, clear behind a row's end, a store into a row.
-/
import Derived.Test.YtmilfgmkcmcicaaDnStr
namespace Go.Dn
open Go.RowKit (Below)

theorem append_fits {P : Program} {t ty e : TypeId} {sz bytes : Nat} {z : Value} (hT : slT P t = some (e, sz, bytes, z)) (hsz : 0 < sz)
    {w : World} {a : Option Addr} {n c : Nat} {xs : List Value} (hr : Row w e sz a n c xs) {b : Option Addr} {m mc : Nat} {news : List Value} (hs : Rd w b news) (hl : news.length = m * sz)
    (h1 : ∀ u ∈ news, u.oneCell' = true) (hroom : n + m ≤ c) :
    ∃ w', (Builtin.append_ #[t, t] ty #[.slice a n c, .slice b m mc]).run P w = .ok (.slice a (n + m) c) w' ∧ Row w' e sz a (n + m) c (xs ++ news) ∧ Keeps (fun k => rowB a = some k) w w' := by
  obtain ⟨hu, i, hi, hiz, rfl, rfl⟩ := slT_out hT
  have hlen : (xs ++ news).length = (n + m) * i.size := by rw [List.length_append, hr.1, hl, Nat.add_mul]
  have none0 : m = 0 → news = [] := fun hm => List.eq_nil_of_length_eq_zero (by rw [hl, hm]; simp)
  rcases hr.2 with ⟨rfl, rfl, rfl⟩ | ⟨g, cur, rfl, hg, hnc, hcm, hcs, htake⟩
  · have hm : m = 0 := by omega
    have hn := none0 hm
    subst hm hn
    refine ⟨w, ?_, by simpa using hr, .refl _ _⟩
    cases b <;> simp [Builtin.append_, run_underlying hu, sizeOf, typeInfo, hi, Builtin.lenOf, Builtin.firstCells, loadCells, loadCellsFrom]
  · by_cases hm : m = 0
    · have hn := none0 hm
      subst hm hn
      refine ⟨w, ?_, by simpa using hr, .refl _ _⟩
      cases b <;> simp [Builtin.append_, run_underlying hu, sizeOf, typeInfo, hi, Builtin.lenOf, Builtin.firstCells, loadCells, loadCellsFrom, hnc, storeCells]
    · have h0 : 0 < news.length := by rw [hl]; exact Nat.mul_pos (by omega) hsz
      obtain ⟨p, rfl, _⟩ := hs 0 news[0] (List.getElem?_eq_getElem h0)
      have hp : ∀ j u, news[j]? = some u → w.cell? (p.add j) = some u := by
        intro j u hu
        obtain ⟨q, hq, hc⟩ := hs j u hu
        cases hq
        exact hc
      have hfit : n * i.size + news.length ≤ cur.size := by rw [hl, hcs, ← Nat.add_mul]; exact Nat.mul_le_mul_right _ hroom
      have hrun := run_append_room (P := P) w t ty e i hu hi g n c cur hg p m mc news hl hp h1 hroom hfit
      have hxl : (List.take (n * i.size) cur.toList) = xs := htake
      refine ⟨_, hrun, ⟨hlen, .inr ⟨g, _, rfl, heap_setRow hg, hroom, hcm, ?_, ?_⟩⟩, (keeps_setRow w g _).mono (fun k _ h => by subst h; rfl)⟩
      · simp only [List.size_toArray, List.length_append, List.length_take, List.length_drop, Array.length_toList]
        omega
      · rw [hxl]
        rw [← hlen]
        exact List.take_left

/-- a row's front -/
theorem Row.front {w : World} {e : TypeId} {sz : Nat} {a : Option Addr} {n c : Nat} {xs : List Value} (h : Row w e sz a n c xs) {i : Nat} (hi : i ≤ n) : Row w e sz a i c (xs.take (i * sz)) := by
  have hle : i * sz ≤ n * sz := Nat.mul_le_mul_right _ hi
  refine ⟨by rw [List.length_take, h.1]; omega, ?_⟩
  rcases h.2 with ⟨rfl, rfl, rfl⟩ | ⟨g, cur, rfl, hg, hnc, hcm, hcs, rfl⟩
  · exact .inl ⟨rfl, by omega, rfl⟩
  · refine .inr ⟨g, cur, rfl, hg, by omega, hcm, hcs, ?_⟩
    rw [List.take_take, Nat.min_eq_left hle]

/-- cells of one row's block are set: those in front of them stay -/
theorem storeCells_behind {P : Program} {w : World} {e : TypeId} {g : Nat} {cur : Array Value} (hg : w.heap[g]? = some (.cells cur e (0, 0))) (o : Nat) (vs : List Value) (h1 : ∀ v ∈ vs, v.oneCell' = true) (hfit : o + vs.length ≤ cur.size) :
    ∃ w' cur', (storeCells ⟨g, o, none⟩ vs 0).run P w = .ok () w' ∧ w'.heap[g]? = some (.cells cur' e (0, 0)) ∧ cur'.size = cur.size ∧ cur'.toList.take o = cur.toList.take o ∧ Keeps (· = g) w w' := by
  have hst := run_storeCells_at P g o e vs 0 cur w hg (by simpa using hfit) h1
  simp only [Nat.add_zero] at hst
  refine ⟨_, _, hst, heap_setRow hg, ?_, ?_, keeps_setRow w g _⟩
  · simp only [List.size_toArray, List.length_append, List.length_take, List.length_drop, Array.length_toList]
    omega
  · simp only [List.append_assoc]
    rw [List.take_append_of_le_length (by simp; omega), List.take_take, Nat.min_self]

theorem clear_behind {P : Program} {t e : TypeId} {sz bytes : Nat} {z : Value} (hT : slT P t = some (e, sz, bytes, z)) (hz : z.cells.size = sz) (hz1 : ∀ v ∈ z.cells.toList, v.oneCell' = true)
    {w : World} {a : Option Addr} {n c : Nat} {xs : List Value} (hr : Row w e sz a n c xs) {h : Nat} (hnh : n ≤ h) (hhc : h ≤ c) :
    ∃ w', (Builtin.clear_ #[t] 0 #[.slice (SLA a n c sz) (h - n) (c - n)]).run P w = .ok (.tuple #[]) w' ∧ Row w' e sz a n c xs ∧ Keeps (fun k => rowB a = some k) w w' := by
  obtain ⟨hu, i, hi, hiz, rfl, rfl⟩ := slT_out hT
  by_cases h0 : h - n = 0
  · refine ⟨w, ?_, hr, .refl _ _⟩
    rw [h0]
    generalize SLA a n c i.size = q
    cases q <;> simp [Builtin.clear_, run_underlying hu]
  · rcases hr.2 with ⟨rfl, rfl, rfl⟩ | ⟨g, cur, rfl, hg, hnc, hcm, hcs, htake⟩
    · omega
    · have hne : ¬ c = n := by omega
      have hs : SLA (some ⟨g, 0, none⟩) n c i.size = some ⟨g, n * i.size, none⟩ := by
        unfold SLA
        rw [if_neg hne]
        simp only [Option.map_some, addr_add_blk, Nat.zero_add]
      have hzc : ∀ v ∈ (Builtin.zeroCells z.cells (h - n)).toList, v.oneCell' = true := by
        intro v hv
        simp only [Builtin.zeroCells, Array.toList_map, List.mem_map] at hv
        obtain ⟨j, hj, rfl⟩ := hv
        have hpos : 0 < z.cells.size := by
          simp at hj
          rcases Nat.eq_zero_or_pos z.cells.size with h' | h'
          · simp [h'] at hj
          · exact h'
        have hlt : j % z.cells.size < z.cells.size := Nat.mod_lt _ hpos
        apply hz1
        rw [getElem!_pos z.cells _ hlt]
        exact Array.mem_toList_iff.2 (Array.getElem_mem hlt)
      have hmul : n * i.size + (h - n) * i.size ≤ c * i.size := by
        rw [← Nat.add_mul]
        exact Nat.mul_le_mul_right _ (by omega)
      obtain ⟨w', cur', hst, hg', hsz', htk, hk⟩ := storeCells_behind (P := P) hg (n * i.size) (Builtin.zeroCells z.cells (h - n)).toList hzc (by
        rw [Array.length_toList, size_zeroCells, hz, hcs]; exact hmul)
      refine ⟨w', ?_, ⟨hr.1, .inr ⟨g, cur', rfl, hg', hnc, hcm, by rw [hsz', hcs], by rw [htk]; exact htake⟩⟩, hk.mono (fun k _ h => by subst h; rfl)⟩
      rw [hs]
      obtain ⟨m, hm⟩ : ∃ m, h - n = m + 1 := ⟨h - n - 1, by omega⟩
      rw [hm] at hst ⊢
      simp [Builtin.clear_, run_underlying hu, zeroValue, typeInfo, hi, hiz, hst]

/-- one cell of a row is set -/
theorem Row.set {w : World} {e : TypeId} {sz : Nat} {g : Nat} {n c : Nat} {xs : List Value} (h : Row w e sz (some ⟨g, 0, none⟩) n c xs) (j : Nat) (_hj : j < n * sz) (v : Value) :
    Row (w.setCell ⟨g, j, none⟩ v) e sz (some ⟨g, 0, none⟩) n c (xs.set j v) := by
  refine ⟨by rw [List.length_set]; exact h.1, ?_⟩
  rcases h.2 with ⟨h0, _⟩ | ⟨g', cur, hg', hg, hnc, hcm, hcs, rfl⟩
  · cases h0
  · cases hg'
    refine .inr ⟨g, _, rfl, heap_setCell_at hg v, hnc, hcm, by simpa using hcs, ?_⟩
    rw [Array.toList_setIfInBounds, List.take_set]
theorem Row.sto {w : World} {e : TypeId} {sz : Nat} {g : Nat} {n c : Nat} {xs : List Value} (h : Row w e sz (some ⟨g, 0, none⟩) n c xs) {j : Nat} (hj : j < n * sz) {v : Value} {k : World → Prop}
    (hk : ∀ w', Row w' e sz (some ⟨g, 0, none⟩) n c (xs.set j v) → Keeps (· = g) w w' → k w') : STO ⟨g, j, none⟩ v k w := by
  have hx : j < xs.length := by rw [h.1]; exact hj
  obtain ⟨p, hp, hc⟩ := h.rd j xs[j] (List.getElem?_eq_getElem hx)
  cases hp
  rw [addr_add_blk, Nat.zero_add] at hc
  refine ⟨by rw [hc]; rfl, ?_, hk _ (h.set j hj v) (keeps_setCell w g j v)⟩
  rcases h.2 with ⟨h0, _⟩ | ⟨g', cur, hg', hg, _⟩
  · cases h0
  · cases hg'
    simp [World.frozen?, hg]
end Go.Dn
namespace Go.Dn
open Go.RowKit (Below)
theorem SH.sto3 {F : Nat → Prop} {w0 w : World} {H : List Ent} (S : SH F w0 w H) (n : Nat) {b : Nat} {x0 x1 x2 v0 v1 v2 : Value} {t : TypeId} (hn : H[n]? = some (b, #[x0, x1, x2], t)) {k : World → Prop}
    (hk : ∀ w', SH F w0 w' (H.set n (b, #[v0, v1, v2], t)) → k w') : STO ⟨b, 0, none⟩ v0 (fun w => STO ⟨b, 1, none⟩ v1 (fun w => STO ⟨b, 2, none⟩ v2 k w) w) w := by
  have hlt := (List.getElem?_eq_some_iff.1 hn).1
  refine S.sto n hn (by simp) fun w1 S1 => S1.sto n (List.getElem?_set_self hlt) (by simp) fun w2 S2 => S2.sto n (cs := #[v0, v1, x2]) (t := t) ?_ (by simp) fun w3 S3 => hk w3 ?_
  · rw [List.set_set, List.getElem?_set_self hlt]
    rfl
  · have e : ((H.set n (b, #[x0, x1, x2].setIfInBounds 0 v0, t)).set n (b, (#[x0, x1, x2].setIfInBounds 0 v0).setIfInBounds 1 v1, t)).set n (b, #[v0, v1, x2].setIfInBounds 2 v2, t) = H.set n (b, #[v0, v1, v2], t) := by
      rw [List.set_set, List.set_set]
      rfl
    rw [← e]
    exact S3
theorem SH.below {w0 w : World} {H : List Ent} (S : SH (fun _ => False) w0 w H) : Below w0.heap.size w0 w := S.keeps.below (Nat.le_refl _) (by simp)
end Go.Dn
namespace Go.Dn
open Go.RowKit (Below)
section
variable {F : Nat → Prop} {w0 w : World} {H : List Ent}
theorem SH.newB (S : SH F w0 w H) {cs : Array Value} {t : TypeId} {k : Nat → World → Prop} (hk : ∀ b w', w.heap.size ≤ b → Below w.heap.size w w' → SH F w0 w' ((b, cs, t) :: H) → k b w') : NEWB cs t k w :=
  hk _ _ (Nat.le_refl _) ((Below.refl _ w).alloc (Nat.le_refl _) _) (S.alloc cs t)
theorem SH.drawB (S : SH F w0 w H) {k : World → Prop} (hk : ∀ w', Below w.heap.size w w' → SH F w0 w' H → k w') : DRAW k w := hk _ ((Below.refl _ w).drew) S.drew
theorem SH.stoK (S : SH F w0 w H) (n : Nat) {b : Nat} {cs : Array Value} {t : TypeId} (hn : H[n]? = some (b, cs, t)) {i : Nat} {v : Value} {k : World → Prop} (hi : i < cs.size)
    (hk : ∀ w', Keeps (· = b) w w' → SH F w0 w' (H.set n (b, cs.setIfInBounds i v, t)) → k w') : STO ⟨b, i, none⟩ v k w := by
  refine ⟨?_, S.free n hn i, hk _ (keeps_setCell w b i v) (S.setAt n hn (keeps_setCell w b i v) (heap_setCell_at (S.get n hn) v))⟩
  rw [S.cell n hn (Array.getElem?_eq_getElem hi)]
  rfl
theorem SH.sto3K (S : SH F w0 w H) (n : Nat) {b : Nat} {x0 x1 x2 v0 v1 v2 : Value} {t : TypeId} (hn : H[n]? = some (b, #[x0, x1, x2], t)) {k : World → Prop}
    (hk : ∀ w', Keeps (· = b) w w' → SH F w0 w' (H.set n (b, #[v0, v1, v2], t)) → k w') : STO ⟨b, 0, none⟩ v0 (fun w => STO ⟨b, 1, none⟩ v1 (fun w => STO ⟨b, 2, none⟩ v2 k w) w) w := by
  have hlt := (List.getElem?_eq_some_iff.1 hn).1
  refine S.stoK n hn (by simp) fun w1 K1 S1 => S1.stoK n (List.getElem?_set_self hlt) (by simp) fun w2 K2 S2 => S2.stoK n (cs := #[v0, v1, x2]) (t := t) ?_ (by simp) fun w3 K3 S3 => hk w3 ((K1.trans K2 (fun _ _ h => h)).trans K3 (fun _ _ h => h)) ?_
  · rw [List.set_set, List.getElem?_set_self hlt]
    rfl
  · have e : ((H.set n (b, #[x0, x1, x2].setIfInBounds 0 v0, t)).set n (b, (#[x0, x1, x2].setIfInBounds 0 v0).setIfInBounds 1 v1, t)).set n (b, #[v0, v1, x2].setIfInBounds 2 v2, t) = H.set n (b, #[v0, v1, v2], t) := by
      rw [List.set_set, List.set_set]
      rfl
    rw [← e]
    exact S3
theorem SH.ne (S : SH F w0 w H) (i j : Nat) {x y : Ent} (hi : H[i]? = some x) (hj : H[j]? = some y) (hne : i ≠ j) : x.1 ≠ y.1 :=
  nodup_ne S.nodup (by simp [hi]) (by simp [hj]) hne
end
end Go.Dn
