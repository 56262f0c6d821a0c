/-
  Texts of this claim, laid one behind the other by a program of mine (install.py): Dn.St, G.Sch7, G.Sch8, G.Unpack, G.Unpack2, G.Take, G.DecLaw, G.Ch2, G.Ch3, G.Sum2, G.Ch4, G.Ch5, G.TakeS2, G.Table, G.Dec, G.IntsD, G.IntsF, G.IntsG, G.Ch10, G.Sch9, G.Cmp, G.CmpL, G.Ch6, G.Ch7, G.Ch8, G.Ch9, G.Ch11, G.Ch12, G.ChgE, G.IntsH, G.IntsI, G.Ch13.
-/
import Derived.Test.YtpnaifmmggnimaaGreatDoorM4
import Derived.Test.YtpnaifmmggnimaaGreatDoorM5
import Derived.Test.YtpnaifmmggnimaaGreatDoorM1
import Derived.Test.YtpnaifmmggnimaaGreatDoorM3
namespace Go.Dn
set_option linter.unusedVariables false
set_option maxRecDepth 100000
open Go.RowKit (Below)
structure It where
  blk : Option Nat
  ok : World → Prop
  st : ∀ w w', (∀ k, blk = some k → w'.heap[k]? = w.heap[k]?) → ok w → ok w'
  lt : ∀ w, ok w → ∀ k, blk = some k → k < w.heap.size
def It.obj (b : Nat) (o : Obj) : It where
  blk := some b
  ok := fun w => w.heap[b]? = some o
  st := fun w w' h h0 => (h b rfl).trans h0
  lt := fun w h k hk => by cases hk; exact (Array.getElem?_eq_some_iff.1 h).1
def It.cells (b : Nat) (cs : Array Value) (t : TypeId) : It := It.obj b (.cells cs t (0, 0))
def It.row (e : TypeId) (sz : Nat) (a : Option Addr) (n c : Nat) (xs : List Value) : It where
  blk := rowB a
  ok := fun w => Row w e sz a n c xs
  st := fun w w' h h0 => by
    refine ⟨h0.1, ?_⟩
    rcases h0.2 with h1 | ⟨g, cur, rfl, hg, r⟩
    · exact .inl h1
    · exact .inr ⟨g, cur, rfl, (h g rfl).trans hg, r⟩
  lt := fun w h k hk => h.lt hk
def It.rd (a : Option Addr) (xs : List Value) : It where
  blk := match xs with | [] => none | _ => rowB a
  ok := fun w => Rd w a xs
  st := fun w w' h h0 => by
    intro j v hv
    obtain ⟨p, hp, hc⟩ := h0 j v hv
    subst hp
    refine ⟨p, rfl, ?_⟩
    cases xs with
    | nil => simp at hv
    | cons x xs =>
      rw [World.cell?_of_block (w := w) (by rw [addr_add_block]; exact h p.block rfl)]
      exact hc
  lt := fun w h k hk => by
    cases xs with
    | nil => cases hk
    | cons x xs =>
      obtain ⟨p, rfl, hc⟩ := h 0 x rfl
      have := World.block_lt_of_cell? _ _ hc
      rw [addr_add_block] at this
      cases hk
      exact this
structure ST (w0 w : World) (H : List It) : Prop where
  bel : Below w0.heap.size w0 w
  ok : ∀ x ∈ H, x.ok w
  nd : H.Pairwise (fun x y => ∀ k, x.blk = some k → y.blk ≠ some k)
  own : ∀ x ∈ H, ∀ k, x.blk = some k → w0.heap.size ≤ k
section
variable {w0 w : World} {H : List It}
theorem ST.start (w : World) : ST w w [] := ⟨.refl _ _, by simp, by simp, by simp⟩
theorem ST.get (S : ST w0 w H) (n : Nat) {x : It} (hn : H[n]? = some x) : x.ok w := S.ok x (List.mem_of_getElem? hn)
theorem ST.grown (S : ST w0 w H) {w' : World} (h : Below w.heap.size w w') : ST w0 w' H where
  bel := S.bel.trans (h.mono S.bel.size)
  ok := fun x hx => x.st w w' (fun k hk => h.block k (x.lt w (S.ok x hx) k hk)) (S.ok x hx)
  nd := S.nd
  own := S.own
theorem ST.add (S : ST w0 w H) {w' : World} (h : Below w.heap.size w w') (y : It) (hy : y.ok w') (hb : ∀ k, y.blk = some k → w.heap.size ≤ k) : ST w0 w' (y :: H) where
  bel := (S.grown h).bel
  ok := fun x hx => by
    rcases List.mem_cons.1 hx with rfl | hx
    · exact hy
    · exact (S.grown h).ok x hx
  nd := List.pairwise_cons.2 ⟨fun x hx k hk hk' => by have := x.lt w (S.ok x hx) k hk'; have := hb k hk; omega, S.nd⟩
  own := fun x hx k hk => by
    rcases List.mem_cons.1 hx with rfl | hx
    · exact Nat.le_trans S.bel.size (hb k hk)
    · exact S.own x hx k hk
theorem pair_ne {l : List It} (h : l.Pairwise (fun x y => ∀ k, x.blk = some k → y.blk ≠ some k)) {i j : Nat} {x y : It} (hi : l[i]? = some x) (hj : l[j]? = some y) (hne : i ≠ j) {k : Nat} (hk : x.blk = some k) : y.blk ≠ some k := by
  obtain ⟨h1, rfl⟩ := List.getElem?_eq_some_iff.1 hi
  obtain ⟨h2, rfl⟩ := List.getElem?_eq_some_iff.1 hj
  rcases Nat.lt_or_gt_of_ne hne with hlt | hlt
  · exact (List.pairwise_iff_getElem.1 h) i j h1 h2 hlt k hk
  · intro he
    exact (List.pairwise_iff_getElem.1 h) j i h2 h1 hlt k he hk
theorem ST.chg (S : ST w0 w H) (n : Nat) {x : It} (hn : H[n]? = some x) {w' : World} (K : Keeps (fun k => x.blk = some k) w w') (y : It) (hy : y.ok w') (hb : ∀ k, y.blk = some k → x.blk = some k ∨ w.heap.size ≤ k) : ST w0 w' (H.set n y) where
  bel := S.bel.trans (K.below S.bel.size fun k hk h => by have := S.own x (List.mem_of_getElem? hn) k h; omega)
  ok := by
    intro z hz
    obtain ⟨i, hi⟩ := List.mem_iff_getElem?.1 hz
    by_cases hin : n = i
    · subst hin
      rw [List.getElem?_set_self (List.getElem?_eq_some_iff.1 hn).1] at hi
      cases hi
      exact hy
    · rw [List.getElem?_set_ne hin] at hi
      have hz' := S.ok z (List.mem_of_getElem? hi)
      refine z.st w w' (fun k hk => K.block k (z.lt w hz' k hk) ?_) hz'
      exact fun h => pair_ne S.nd hi hn (Ne.symm hin) hk h
  nd := by
    refine List.pairwise_iff_getElem.2 fun i j hi hj hij k hk hk' => ?_
    rw [List.length_set] at hi hj
    have hni := (List.getElem?_eq_some_iff.1 hn).1
    have old : ∀ {i j : Nat} (hi : i < H.length) (hj : j < H.length), i ≠ j → H[i].blk = some k → H[j].blk ≠ some k := fun hi hj hne h => pair_ne S.nd (List.getElem?_eq_getElem hi) (List.getElem?_eq_getElem hj) hne h
    have hx : H[n] = x := (List.getElem?_eq_some_iff.1 hn).2
    have far : ∀ {j : Nat} (hj : j < H.length), j ≠ n → H[j].blk = some k → y.blk ≠ some k := fun {j} hj hne h h' => by
      rcases hb k h' with h2 | h2
      · rw [← hx] at h2
        exact old hni hj (Ne.symm hne) h2 h
      · have := H[j].lt w (S.ok _ (List.getElem_mem hj)) k h
        omega
    by_cases h1 : n = i
    · subst h1
      rw [List.getElem_set_self] at hk
      rw [List.getElem_set_ne (by omega)] at hk'
      exact far hj (by omega) hk' hk
    · rw [List.getElem_set_ne h1] at hk
      by_cases h2 : n = j
      · subst h2
        rw [List.getElem_set_self] at hk'
        exact far hi (by omega) hk hk'
      · rw [List.getElem_set_ne h2] at hk'
        exact old hi hj (by omega) hk hk'
  own := by
    intro z hz k hk
    obtain ⟨i, hi⟩ := List.mem_iff_getElem?.1 hz
    by_cases hin : n = i
    · subst hin
      rw [List.getElem?_set_self (List.getElem?_eq_some_iff.1 hn).1] at hi
      cases hi
      rcases hb k hk with h | h
      · exact S.own x (List.mem_of_getElem? hn) k h
      · exact Nat.le_trans S.bel.size h
    · rw [List.getElem?_set_ne hin] at hi
      exact S.own z (List.mem_of_getElem? hi) k hk
theorem ST.sub (S : ST w0 w H) {H' : List It} (h : H'.Sublist H) : ST w0 w H' := ⟨S.bel, fun x hx => S.ok x (h.subset hx), S.nd.sublist h, fun x hx => S.own x (h.subset hx)⟩
theorem ST.drop (S : ST w0 w H) (n : Nat) : ST w0 w (H.drop n) := S.sub (List.drop_sublist _ _)
theorem ST.perm (S : ST w0 w H) {H' : List It} (h : H.Perm H') : ST w0 w H' :=
  ⟨S.bel, fun x hx => S.ok x (h.mem_iff.2 hx), (h.pairwise_iff (fun h k hk hk' => h k hk' hk)).1 S.nd, fun x hx => S.own x (h.mem_iff.2 hx)⟩
theorem ST.pull (S : ST w0 w H) (n : Nat) {x : It} (hn : H[n]? = some x) : ST w0 w (x :: H.eraseIdx n) where
  bel := S.bel
  ok := fun y hy => by
    rcases List.mem_cons.1 hy with rfl | hy
    · exact S.get n hn
    · exact S.ok y (List.mem_of_mem_eraseIdx hy)
  nd := by
    refine List.pairwise_cons.2 ⟨fun y hy k hk hk' => ?_, S.nd.sublist (List.eraseIdx_sublist ..)⟩
    obtain ⟨i, hi, hne⟩ := List.mem_eraseIdx_iff_getElem?.1 hy
    exact pair_ne S.nd hn hne (Ne.symm hi) hk hk'
  own := fun y hy => by
    rcases List.mem_cons.1 hy with rfl | hy
    · exact S.own _ (List.mem_of_getElem? hn)
    · exact S.own y (List.mem_of_mem_eraseIdx hy)
theorem ST.join (S : ST w0 w H) {w' : World} {P : List It} (T : ST w w' P) : ST w0 w' (P ++ H) where
  bel := S.bel.trans (T.bel.mono S.bel.size)
  ok := fun x hx => by
    rcases List.mem_append.1 hx with h | h
    · exact T.ok x h
    · exact (S.grown T.bel).ok x h
  nd := List.pairwise_append.2 ⟨T.nd, S.nd, fun x hx y hy k hk hk' => by have := T.own x hx k hk; have := y.lt w (S.ok y hy) k hk'; omega⟩
  own := fun x hx k hk => by
    rcases List.mem_append.1 hx with h | h
    · exact Nat.le_trans S.bel.size (T.own x h k hk)
    · exact S.own x h k hk
theorem ST.newB (S : ST w0 w H) {cs : Array Value} {t : TypeId} {k : Nat → World → Prop} (hk : ∀ b w', w.heap.size ≤ b → Below w.heap.size w w' → ST w0 w' (It.cells b cs t :: H) → k b w') : NEWB cs t k w :=
  hk _ _ (Nat.le_refl _) ((Below.refl _ w).alloc (Nat.le_refl _) _) (S.add ((Below.refl _ w).alloc (Nat.le_refl _) _) _ (heap_alloc_new w _) (fun k hk => by cases hk; exact Nat.le_refl _))
theorem ST.draw (S : ST w0 w H) {k : World → Prop} (hk : ∀ w', Below w.heap.size w w' → ST w0 w' H → k w') : DRAW k w := hk _ ((Below.refl _ w).drew) (S.grown ((Below.refl _ w).drew))
theorem ST.cell (S : ST w0 w H) (n : Nat) {b : Nat} {cs : Array Value} {t : TypeId} (hn : H[n]? = some (It.cells b cs t)) {i : Nat} {v : Value} (hv : cs[i]? = some v) : w.cell? ⟨b, i, none⟩ = some v := by
  have : w.heap[b]? = some (.cells cs t (0, 0)) := S.get n hn
  simp [World.cell?, this, hv]
theorem ST.blk (S : ST w0 w H) (n : Nat) {b : Nat} {cs : Array Value} {t : TypeId} (hn : H[n]? = some (It.cells b cs t)) : w.heap[b]? = some (.cells cs t (0, 0)) := S.get n hn
theorem ST.rdc (S : ST w0 w H) (n : Nat) {b : Nat} {cs : Array Value} {t : TypeId} (hn : H[n]? = some (It.cells b cs t)) : Rd w (some ⟨b, 0, none⟩) cs.toList := Rd.of_block0 (S.blk n hn)
theorem ST.rw (S : ST w0 w H) (n : Nat) {e : TypeId} {sz : Nat} {a : Option Addr} {m c : Nat} {xs : List Value} (hn : H[n]? = some (It.row e sz a m c xs)) : Row w e sz a m c xs := S.get n hn
theorem ST.rd (S : ST w0 w H) (n : Nat) {e : TypeId} {sz : Nat} {a : Option Addr} {m c : Nat} {xs : List Value} (hn : H[n]? = some (It.row e sz a m c xs)) : Rd w a xs := (S.rw n hn).rd
theorem ST.sto (S : ST w0 w H) (n : Nat) {b : Nat} {cs cs' : Array Value} {t : TypeId} (hn : H[n]? = some (It.cells b cs t)) {i : Nat} {v : Value} {k : World → Prop} (hi : i < cs.size) (hc : cs.setIfInBounds i v = cs')
    (hk : ∀ w', ST w0 w' (H.set n (It.cells b cs' t)) → k w') : STO ⟨b, i, none⟩ v k w := by
  subst hc
  have hb := S.blk n hn
  refine ⟨by rw [S.cell n hn (Array.getElem?_eq_getElem hi)]; rfl, by simp [World.frozen?, hb], hk _ (S.chg n hn ((keeps_setCell w b i v).mono fun k _ h => by subst h; rfl) _ (heap_setCell_at hb v) (fun k hk => .inl hk))⟩
theorem ST.stoAll (S : ST w0 w H) (n : Nat) {b : Nat} {cs : Array Value} {t : TypeId} (hn : H[n]? = some (It.cells b cs t)) {vs : List Value} (hl : vs.length = cs.size) (h1 : ∀ v ∈ vs, v.oneCell' = true)
    {k : World → Prop} (hk : ∀ w', ST w0 w' (H.set n (It.cells b ⟨vs⟩ t)) → k w') : STOREC vs ⟨b, 0, none⟩ 0 k w :=
  STOREC_blk vs (S.blk n hn) (by omega) h1 fun w' K hb => hk w' (S.chg n hn (K.mono fun k _ h => by subst h; rfl) _ (by rw [splice_all vs cs hl] at hb; exact hb) (fun k hk => .inl hk))
theorem ST.lit3 (S : ST w0 w H) {z0 z1 z2 v0 v1 v2 : Value} {t : TypeId} {k : Nat → World → Prop} (hk : ∀ b w', w.heap.size ≤ b → ST w0 w' (It.cells b #[v0, v1, v2] t :: H) → k b w') :
    NEWB #[z0, z1, z2] t (fun b w => STO ⟨b, 0, none⟩ v0 (fun w => STO ⟨b, 1, none⟩ v1 (fun w => STO ⟨b, 2, none⟩ v2 (fun w => k b w) w) w) w) w :=
  S.newB fun b w1 hb _ S1 => S1.sto 0 rfl (cs' := #[v0, z1, z2]) (by simp) rfl fun w2 S2 => S2.sto 0 rfl (cs' := #[v0, v1, z2]) (by simp) rfl fun w3 S3 => S3.sto 0 rfl (cs' := #[v0, v1, v2]) (by simp) rfl fun w4 S4 => hk b w4 hb S4
theorem ST.sto7 (S : ST w0 w H) (n : Nat) {b : Nat} {x0 x1 x2 x3 x4 x5 x6 v0 v1 v2 v3 v4 v5 v6 : Value} {t : TypeId} (hn : H[n]? = some (It.cells b #[x0, x1, x2, x3, x4, x5, x6] t)) {k : World → Prop}
    (hk : ∀ w', ST w0 w' (H.set n (It.cells b #[v0, v1, v2, v3, v4, v5, v6] t)) → k w') :
    STO ⟨b, 0, none⟩ v0 (fun w => STO ⟨b, 1, none⟩ v1 (fun w => STO ⟨b, 2, none⟩ v2 (fun w => STO ⟨b, 3, none⟩ v3 (fun w => STO ⟨b, 4, none⟩ v4 (fun w => STO ⟨b, 5, none⟩ v5 (fun w => STO ⟨b, 6, none⟩ v6 k w) w) w) w) w) w) w := by
  have hlt := (List.getElem?_eq_some_iff.1 hn).1
  refine S.sto n hn (cs' := #[v0, x1, x2, x3, x4, x5, x6]) (by simp) rfl fun w1 S1 => ?_
  refine S1.sto n (List.getElem?_set_self hlt) (cs' := #[v0, v1, x2, x3, x4, x5, x6]) (by simp) rfl fun w2 S2 => ?_
  rw [List.set_set] at S2
  refine S2.sto n (List.getElem?_set_self hlt) (cs' := #[v0, v1, v2, x3, x4, x5, x6]) (by simp) rfl fun w3 S3 => ?_
  rw [List.set_set] at S3
  refine S3.sto n (List.getElem?_set_self hlt) (cs' := #[v0, v1, v2, v3, x4, x5, x6]) (by simp) rfl fun w4 S4 => ?_
  rw [List.set_set] at S4
  refine S4.sto n (List.getElem?_set_self hlt) (cs' := #[v0, v1, v2, v3, v4, x5, x6]) (by simp) rfl fun w5 S5 => ?_
  rw [List.set_set] at S5
  refine S5.sto n (List.getElem?_set_self hlt) (cs' := #[v0, v1, v2, v3, v4, v5, x6]) (by simp) rfl fun w6 S6 => ?_
  rw [List.set_set] at S6
  refine S6.sto n (List.getElem?_set_self hlt) (cs' := #[v0, v1, v2, v3, v4, v5, v6]) (by simp) rfl fun w7 S7 => ?_
  rw [List.set_set] at S7
  exact hk w7 S7
theorem ST.nil (S : ST w0 w H) (e : TypeId) (sz : Nat) : ST w0 w (It.row e sz none 0 0 [] :: H) := S.add (.refl _ _) _ (Row.nil w e sz) (fun k hk => by cases hk)
theorem ST.app (S : ST w0 w H) (n : Nat) {P : Program} {t ty e : TypeId} {sz bytes : Nat} {z : Value} {a : Option Addr} {m c : Nat} {xs : List Value} (hn : H[n]? = some (It.row e sz a m c xs)) (hT : slT P t = some (e, sz, bytes, z)) (hz : z.cells.size = sz) (hsz : 0 < sz) (hb0 : 0 < bytes)
    {b : Option Addr} {mm mc : Nat} {news : List Value} (hs : Rd w b news) (hl : news.length = mm * sz) (h1 : ∀ u ∈ news, u.oneCell' = true) (hby : (m + mm) * bytes ≤ 140737488355328) {f : Value → World → Prop}
    (hf : ∀ a' c' w', ST w0 w' (H.set n (It.row e sz a' (m + mm) c' (xs ++ news))) → f (.slice a' (m + mm) c') w') : OPR P (Builtin.append_ #[t, t] ty #[.slice a m c, .slice b mm mc]) f w := by
  obtain ⟨a', c', w', hrun, hrow, hk, hnew⟩ := append_row (ty := ty) (mc := mc) hT hz hsz hb0 (S.rw n hn) hs hl h1 hby
  unfold OPR
  rw [hrun]
  exact hf a' c' w' (S.chg n hn hk _ hrow hnew)
theorem ST.range (S : ST w0 w H) (rr : Loop) : ST w0 ((w.alloc (.deferred (some []))).alloc (.loop rr)) (It.obj (w.heap.size + 1) (.loop rr) :: It.obj w.heap.size (.deferred (some [])) :: H) := by
  have B1 : Below w.heap.size w (w.alloc (.deferred (some []))) := (Below.refl _ w).alloc (Nat.le_refl _) _
  have S1 := S.add B1 (It.obj w.heap.size (.deferred (some []))) (heap_alloc_new w _) (fun k hk => by cases hk; exact Nat.le_refl _)
  have S2 := S1.add ((Below.refl _ _).alloc (Nat.le_refl _) (.loop rr)) (It.obj (w.alloc (.deferred (some []))).heap.size (.loop rr)) (heap_alloc_new _ _) (fun k hk => by cases hk; exact Nat.le_refl _)
  rwa [World.size_alloc] at S2
theorem keeps_put (w : World) (l : Nat) (o : Obj) : Keeps (· = l) w (w.putObj l o) := ⟨rfl, rfl, rfl, by simp, fun k _ hn => World.putObj_heap_other hn⟩
theorem ST.put (S : ST w0 w H) (n : Nat) {b : Nat} {o : Obj} (hn : H[n]? = some (It.obj b o)) (o' : Obj) : ST w0 (w.putObj b o') (H.set n (It.obj b o')) :=
  S.chg n hn ((keeps_put w b o').mono fun k _ h => by subst h; rfl) _ (World.putObj_heap_same (Array.getElem?_eq_some_iff.1 (S.get n hn)).1) (fun k hk => .inl hk)
theorem ST.begr (S : ST w0 w H) (n : Nat) {L : Nat} {rr : Loop} (hn : H[n]? = some (It.obj L (.loop rr))) {k : World → Prop} (hk : ∀ w', ST w0 w' (H.set n (It.obj L (.loop { rr with state := .busy }))) → k w') : BEGR rr L k w :=
  ⟨S.get n hn, hk _ (S.put n hn _)⟩
theorem Rd.putLoop {w : World} {a : Option Addr} {xs : List Value} (h : Rd w a xs) {L : Nat} {rr : Loop} (hL : w.heap[L]? = some (.loop rr)) (o : Obj) : Rd (w.putObj L o) a xs := by
  intro j v hv
  obtain ⟨p, hp, hc⟩ := h j v hv
  refine ⟨p, hp, (keeps_put w L o).cell hc ?_⟩
  intro he
  have he' : (p.add j).block = L := he
  simp [World.cell?, he', hL] at hc
theorem ST.begrK (S : ST w0 w H) (n : Nat) {L : Nat} {rr : Loop} (hn : H[n]? = some (It.obj L (.loop rr))) {k : World → Prop} (hk : ∀ w', (∀ a xs, Rd w a xs → Rd w' a xs) → ST w0 w' (H.set n (It.obj L (.loop { rr with state := .busy }))) → k w') : BEGR rr L k w :=
  ⟨S.get n hn, hk _ (fun _ _ h => h.putLoop (S.get n hn) _) (S.put n hn _)⟩
theorem ST.keep {x : It} (S : ST w0 w (x :: H)) (n : Nat) : ST w0 w (x :: H.drop n) := S.sub ((List.drop_sublist n H).cons_cons x)
theorem rr_same {rr : Loop} (h1 : rr.state = .ready) (h2 : rr.pending = none) : ({ rr with state := if (none : Option Code).isNone then .ready else .done, pending := none } : Loop) = rr := by
  cases rr
  simp_all
theorem ST.endr0 (S : ST w0 w H) (n : Nat) {L : Nat} {rr : Loop} (h1 : rr.state = .ready) (h2 : rr.pending = none) (hn : H[n]? = some (It.obj L (.loop { rr with state := .busy }))) {k : Bool → World → Prop} (hk : ∀ w', ST w0 w' (H.set n (It.obj L (.loop rr))) → k true w') : ENDR rr L k none w := by
  refine ⟨S.get n hn, ?_⟩
  have := S.put n hn (.loop { rr with state := if (none : Option Code).isNone then .ready else .done, pending := none })
  rw [rr_same h1 h2] at this ⊢
  exact hk _ this
theorem ST.endr1 (S : ST w0 w H) (n : Nat) {L : Nat} {rr : Loop} {j : Code} (hn : H[n]? = some (It.obj L (.loop { rr with state := .busy }))) {k : Bool → World → Prop} (hk : ∀ w', ST w0 w' (H.set n (It.obj L (.loop { rr with state := .done, pending := some j }))) → k false w') : ENDR rr L k (some j) w :=
  ⟨S.get n hn, hk _ (S.put n hn _)⟩
theorem ST.endl0 (S : ST w0 w H) (n : Nat) {L : Nat} {rr : Loop} (h1 : rr.state = .ready) (h2 : rr.pending = none) (hn : H[n]? = some (It.obj L (.loop rr))) {k : Option Code → World → Prop} (hk : ∀ w', ST w0 w' (H.set n (It.obj L (.loop { rr with state := .exhausted, pending := none }))) → k none w') : ENDL rr L k w :=
  ⟨none, by rw [rr_same h1 h2]; exact S.get n hn, hk _ (S.put n hn _)⟩
theorem ST.endl1 (S : ST w0 w H) (n : Nat) {L : Nat} {rr : Loop} {j : Code} (hn : H[n]? = some (It.obj L (.loop { rr with state := .done, pending := some j }))) {k : Option Code → World → Prop} (hk : ∀ w', ST w0 w' (H.set n (It.obj L (.loop { rr with state := .exhausted, pending := some j }))) → k (some j) w') : ENDL rr L k w :=
  ⟨some j, S.get n hn, hk _ (S.put n hn _)⟩
theorem YLD.mono {P : Program} {l : Nat} {args : Array Value} {k k' : Bool → World → Prop} {w : World} (h : YLD P l args k w) (hk : ∀ y w', k y w' → k' y w') : YLD P l args k' w := by
  obtain ⟨f, tm, asg, bo, hy, hr⟩ := h
  refine ⟨f, tm, asg, bo, hy, hr.mono ?_⟩
  rintro e w' ⟨t, he, h⟩
  exact ⟨t, he, hk t w' h⟩
end
end Go.Dn
namespace Go.Proofs.YtpnaifmmggnimaaGreatDoor
set_option maxRecDepth 100000
open Go.Dn Go.Proofs
open Go.RowKit (Below)
set_option linter.unusedVariables false
def fitV (c : Col) (v : Val) : Bool := rightB v && (decide (v.1 = c.2.1) || (c.2.2 && decide (v.1 = 0)))
def fitL (cs : List Col) (row : List Val) : Bool := (cs.zip row).all fun p => fitV p.1 p.2
def fitsB (cs : List Col) (row : List Val) : Bool := decide (row.length = cs.length) && fitL cs row
theorem fitL_bad {cs : List Col} {row : List Val} {i : Nat} (h1 : i < cs.length) (h2 : i < row.length) (h : fitV cs[i] row[i] = false) : fitL cs row = false := by
  unfold fitL
  rw [List.all_eq_false]
  exact ⟨(cs[i], row[i]), List.mem_iff_getElem.2 ⟨i, by simp; omega, by simp⟩, by simp [h]⟩
theorem fitL_all {cs : List Col} {row : List Val} (h : ∀ i (h1 : i < cs.length) (h2 : i < row.length), fitV cs[i] row[i] = true) : fitL cs row = true := by
  unfold fitL
  rw [List.all_eq_true]
  intro p hp
  obtain ⟨i, hi, rfl⟩ := List.mem_iff_getElem.1 hp
  simp only [List.length_zip] at hi
  simp only [List.getElem_zip]
  exact h i (by omega) (by omega)
section
variable {w : World} {a a2 : Option Addr} {c c2 : Nat} {cs : List Col} {row : List Val}
def colV (c : Col) : Value := .agg #[.string c.1, .int .i64 c.2.1, .bool c.2.2]
theorem pairs_c1_ok {L b1 b2 : Nat} (hn : cs.length ≤ 9223372036854775807) (hr : row.length = cs.length) (J : Nat → World → Prop) (D : World → Prop) (hrd : ∀ k w, J k w → Rd w a (colsL cs) ∧ Rd w a2 (valsL row) ∧ w.cell? ⟨b2, 0, none⟩ = some (.slice a2 row.length c2))
    (hgrow : ∀ k w w', J k w → Below w.heap.size w w' → J k w') (hstep : ∀ k w (h1 : k < cs.length) (h2 : k < row.length), J k w → YLD Tryz.prog L #[colV cs[k], valV row[k]] (fun y w' => (y = true ∧ J (k + 1) w') ∨ (y = false ∧ D w')) w)
    (h0 : J 0 w) (hb : w.cell? ⟨b1, 0, none⟩ = some (.slice a cs.length c)) :
    Calls Tryz.prog f.schema_pairs_c1 #[.func (.yield L) #[] #[], .pointer (some ⟨b1, 0, none⟩), .pointer (some ⟨b2, 0, none⟩)] w (Ret fun _ w' => J cs.length w' ∨ D w') := by
  apply R.schema_pairs_c1_calls
  unfold R.schema_pairs_c1
  refine ⟨_, _, _, hb, fun s w1 => ∃ k : Nat, k ≤ cs.length ∧ s = [.int .i64 (k : Int)] ∧ J k w1, fun s _ => match s with
      | [.int _ i] => cs.length - i.toNat
      | _ => 0, ⟨0, by omega, rfl, h0⟩, ?_⟩
  rintro _ w1 ⟨k, hk, hst, hj⟩
  cases hst
  refine IFB_dec (fun hlt => ⟨⟨by omega, hlt⟩, ?_⟩) (fun hge => ?_)
  · have hkl : k < cs.length := by omega
    have hkr : k < row.length := by omega
    obtain ⟨p, rfl, c0, c1, c2⟩ := col_at (hrd _ _ hj).1 hkl
    refine ⟨_, by rw [Int.toNat_natCast]; exact c0, _, by rw [Int.toNat_natCast]; exact c1, _, by rw [Int.toNat_natCast]; exact c2, (ST.start w1).lit3 fun b9 w5 hb9 S5 => S5.draw fun w6 B6 S6 => ?_⟩
    have hj6 := hgrow _ _ _ hj S6.bel
    obtain ⟨_, r2, r3⟩ := hrd _ _ hj6
    obtain ⟨q, rfl, d0, d1, d2⟩ := val_at r2 hkr
    refine ⟨_, S6.cell 0 rfl rfl, _, S6.cell 0 rfl rfl, _, S6.cell 0 rfl rfl, _, _, _, r3, ⟨by omega, by omega⟩, _, by rw [Int.toNat_natCast]; exact d0, _, by rw [Int.toNat_natCast]; exact d1, _, by rw [Int.toNat_natCast]; exact d2, ?_⟩
    rw [wrap_succ (by omega)]
    have mes : cs.length - ((k + 1 : Nat) : Int).toNat < cs.length - ((k : Nat) : Int).toNat := by
      simp only [Int.toNat_natCast]
      omega
    refine (hstep k w6 hkl hkr hj6).mono ?_
    rintro y w7 (⟨rfl, h⟩ | ⟨rfl, h⟩)
    · exact IFB_false ⟨⟨k + 1, by omega, rfl, h⟩, mes⟩
    · exact IFB_true (.inr h)
  · have : k = cs.length := by omega
    subst this
    exact .inl hj
theorem schema_pairs_ok : Calls Tryz.prog f.schema_pairs #[.slice a cs.length c, .slice a2 row.length c2] w (Ret fun v w' => ∃ b1 b2, v = .func (.func f.schema_pairs_c1) #[] #[.pointer (some ⟨b1, 0, none⟩), .pointer (some ⟨b2, 0, none⟩)] ∧
    ST w w' [It.cells b2 #[.slice a2 row.length c2] ty.api_Row, It.cells b1 #[.slice a cs.length c] ty.L_api_Column]) := by
  apply R.schema_pairs_calls
  unfold R.schema_pairs
  exact (ST.start w).newB fun b1 w1 _ _ S1 => S1.newB fun b2 w2 _ _ S2 => ⟨b1, b2, rfl, S2⟩
theorem schema_fits_ok (hl : Rd w a (colsL cs)) (hn : cs.length ≤ 9223372036854775807) (hr : Rd w a2 (valsL row)) :
    Calls Tryz.prog f.schema_fits #[.slice a cs.length c, .slice a2 row.length c2] w (Ret fun r w' => r = .bool (fitsB cs row) ∧ Below w.heap.size w w') := by
  apply R.schema_fits_calls
  unfold R.schema_fits
  refine (ST.start w).newB fun b3 w1 _ _ S1 => IFB_ne (fun h => S1.sto 0 rfl (cs' := #[.bool false]) (by simp) rfl fun w2 S2 => ⟨_, S2.cell 0 rfl rfl, ?_, S2.bel⟩) (fun hlen => ?_)
  · have : ¬ row.length = cs.length := by omega
    simp [fitsB, this]
  have hlen' : row.length = cs.length := by omega
  have hfb : fitsB cs row = fitL cs row := by simp [fitsB, hlen']
  refine schema_pairs_ok.mono ?_
  rintro _ w3 ⟨_, rfl, b1, b2, rfl, P3⟩
  have S3 := S1.join P3
  refine ⟨_, _, _, rfl, by kernel_rfl, fun rr hst hpe hy => ?_⟩
  have S4 := S3.range rr
  obtain ⟨L, hL⟩ : ∃ L, L = w3.heap.size + 1 := ⟨_, rfl⟩
  obtain ⟨d, hd⟩ : ∃ d, d = w3.heap.size := ⟨_, rfl⟩
  rw [← hL] at S4 hy ⊢
  rw [← hd] at S4 ⊢
  let St : Obj → World → Prop := fun o wx => ST w wx [It.obj L o, It.obj d (.deferred (some [])), It.cells b2 #[.slice a2 row.length c2] ty.api_Row, It.cells b1 #[.slice a cs.length c] ty.L_api_Column, It.cells b3 #[.bool false] ty.bool]
  let J : Nat → World → Prop := fun q wx => (∀ i (h1 : i < cs.length) (h2 : i < row.length), i < q → fitV cs[i] row[i] = true) ∧ St (.loop rr) wx
  let D : World → Prop := fun wx => fitL cs row = false ∧ St (.loop { rr with state := .done, pending := some .ret }) wx
  have hcall := pairs_c1_ok (w := (w3.alloc (.deferred (some []))).alloc (.loop rr)) (c := c) (L := L) (b1 := b1) hn hlen' J D (fun q wx hj => ⟨hl.grown hj.2.bel, hr.grown hj.2.bel, hj.2.cell 2 rfl rfl⟩) (fun q wx wy hj B => ⟨hj.1, hj.2.grown B⟩) (by
    rintro q wx h1 h2 ⟨hall, S⟩
    refine hy _ _ _ _ _ _ _ wx (S.get 0 rfl) ?_
    refine S.lit3 fun b14 w8 _ S => S.lit3 fun b15 w12 _ S => S.begr 2 rfl fun w13 S => ⟨_, S.cell 0 rfl rfl, _, S.cell 0 rfl rfl, _, S.cell 0 rfl rfl, (value_Right_ok w13 row[q]).mono ?_⟩
    rintro _ w14 ⟨_, rfl, rfl, B14⟩
    have S := S.grown B14
    have good : fitV cs[q] row[q] = true → ENDR rr L (fun y w' => (y = true ∧ J (q + 1) w') ∨ (y = false ∧ D w')) none w14 := fun hf => S.endr0 2 hst hpe rfl fun w' S => .inl ⟨rfl, ⟨fun i g1 g2 hi => by
      rcases Nat.lt_or_ge i q with h | h
      · exact hall i g1 g2 h
      · obtain rfl : i = q := by omega
        exact hf, S.drop 2⟩⟩
    have bad : fitV cs[q] row[q] = false → STO ⟨b3, 0, none⟩ (.bool false) (fun w15 => ENDR rr L (fun y w' => (y = true ∧ J (q + 1) w') ∨ (y = false ∧ D w')) (some .ret) w15) w14 := fun hf => S.sto 6 rfl (cs' := #[.bool false]) (by simp) rfl fun w15 S => S.endr1 2 rfl fun w' S => .inr ⟨rfl, ⟨fitL_bad h1 h2 hf, S.drop 2⟩⟩
    refine ⟨_, rfl, IFB_not (IFB_of (fun hR => ⟨_, S.cell 0 rfl rfl, _, S.cell 1 rfl rfl, ?_⟩) (fun hR => bad (by simp [fitV, hR])))⟩
    refine IFB_ne (fun hk => ⟨_, S.cell 1 rfl rfl, IFB_of (fun hnu => ⟨_, S.cell 0 rfl rfl, IFB_not (IFB_eq (fun hz => good ?_) (fun hz => bad ?_))⟩) (fun hnu => bad ?_)⟩) (fun hk => good ?_)
    · simp [fitV, hR, hnu, hz]
    · simp [fitV, hR, hk, hz]
    · simp [fitV, hk, hnu]
    · simp [fitV, hR, hk]) ⟨fun i _ _ h => by omega, S4⟩ (S4.cell 3 rfl rfl)
  refine hcall.mono ?_
  rintro _ w18 ⟨_, rfl, h⟩
  refine ⟨⟨_, rfl⟩, ?_⟩
  rcases h with ⟨hall, S⟩ | ⟨hf, S⟩
  · refine S.endl0 0 hst hpe rfl fun w19 S => .inl ⟨rfl, S.sto 4 rfl (cs' := #[.bool true]) (by simp) rfl fun w20 S => ⟨S.get 1 rfl, ?_⟩⟩
    have S := S.put 1 rfl (.deferred none)
    refine ⟨_, S.cell 4 rfl rfl, ?_, S.bel⟩
    rw [hfb, fitL_all fun i h1 h2 => hall i h1 h2 h1]
  · refine S.endl1 0 rfl fun w19 S => .inr ⟨rfl, S.get 1 rfl, ?_⟩
    have S := S.put 1 rfl (.deferred none)
    refine ⟨_, S.cell 4 rfl rfl, ?_, S.bel⟩
    rw [hfb, hf]
theorem schema_Fits_ok (hl : Rd w a (colsL cs)) (hn : cs.length ≤ 9223372036854775807) (hq : ∀ c ∈ cs, c.1.size ≤ 9223372036854775807) (hr : Rd w a2 (valsL row)) :
    Calls Tryz.prog f.schema_Fits #[.slice a cs.length c, .slice a2 row.length c2] w (Ret fun r w' => r = .bool (rightCols cs && fitsB cs row) ∧ Below w.heap.size w w') := by
  apply R.schema_Fits_calls
  unfold R.schema_Fits
  refine (schema_Right_ok hl hn hq).mono ?_
  rintro _ w1 ⟨_, rfl, rfl, B1⟩
  refine ⟨_, rfl, IFB_of (fun h => (schema_fits_ok (hl.grown B1) hn (hr.grown B1)).mono ?_) (fun h => ⟨by simp [h], B1⟩)⟩
  rintro _ w2 ⟨_, rfl, rfl, B2⟩
  exact ⟨_, rfl, by simp [h], below_trans B1 B2⟩
end
def bytesI (a : Option Addr) (c : Nat) (l : List UInt8) : It := It.row ty.uint8 1 a l.length c (l.map byteV)
section
variable {w0 w : World} {H : List It} {a : Option Addr} {c : Nat} {l : List UInt8}
theorem stAddB (S : ST w0 w H) {w' : World} (h : NewB w w' l a c) : ST w0 w' (bytesI a c l :: H) := S.add h.bel _ h.row h.new
theorem stNew (S : ST w0 w H) (n : Nat) (hn : H[n]? = some (bytesI a c l)) : NewB w0 w l a c := ⟨S.get n hn, fun k hk => S.own _ (List.mem_of_getElem? hn) k hk, S.bel⟩
theorem stRdB (S : ST w0 w H) (n : Nat) (hn : H[n]? = some (bytesI a c l)) : Rd w a (l.map byteV) := (stNew S n hn).rd
theorem stAppB (S : ST w0 w H) (n : Nat) (hn : H[n]? = some (bytesI a c l)) {m : List UInt8} {b : Option Addr} {mc : Nat} (hs : Rd w b (m.map byteV)) (hl : l.length + m.length ≤ 140737488355328) {f : Value → World → Prop}
    (hf : ∀ a' c' w', ST w0 w' (H.set n (bytesI a' c' (l ++ m))) → f (.slice a' (l ++ m).length c') w') :
    OPR Tryz.prog (Builtin.append_ #[ty.L_uint8, ty.L_uint8] ty.L_uint8 #[.slice a l.length c, .slice b m.length mc]) f w :=
  append_bytes (S.get n hn) hs hl fun a' c' w' hr hk hn' => hf a' c' w' (S.chg n hn hk _ hr hn')
end
def flagB (b : Bool) : UInt8 := if b then 1 else 0
def colB (c : Col) : List UInt8 := textL c.1 ++ [UInt8.ofNat c.2.1.toNat, flagB c.2.2]
def schL (cs : List Col) : List UInt8 := digitsL cs.length ++ cs.flatMap colB
theorem right_len {cs : List Col} (h : rightCols cs = true) : 1 ≤ cs.length ∧ cs.length ≤ 16 := by
  simp [rightCols] at h
  exact h.1.1
theorem right_col {cs : List Col} (h : rightCols cs = true) {c : Col} (hc : c ∈ cs) : isNameB c.1 = true ∧ 1 ≤ c.2.1 ∧ c.2.1 ≤ 3 ∧ c.1.size ≤ 24 := by
  simp only [rightCols, Bool.and_eq_true, List.all_eq_true] at h
  have := h.1.2 c hc
  simp only [colOk, Bool.and_eq_true, decide_eq_true_eq] at this
  have hn := this.1
  simp only [isNameB, Bool.and_eq_true, decide_eq_true_eq] at hn
  exact ⟨this.1, this.2.1, this.2.2, hn.2⟩
theorem colB_len {c : Col} (h : c.1.size ≤ 24) : (colB c).length ≤ 36 := by
  have := digitsL_len10 (n := c.1.size) (by omega)
  have := bl_length c.1
  simp only [colB, textL, List.length_append, List.length_cons, List.length_nil]
  omega
theorem colsB_len {cs : List Col} (h : ∀ c ∈ cs, c.1.size ≤ 24) : (cs.flatMap colB).length ≤ cs.length * 36 := by
  induction cs with
  | nil => simp
  | cons c cs ih =>
    have h1 := colB_len (h c (by simp))
    have h2 := ih fun x hx => h x (by simp [hx])
    rw [List.flatMap_cons, List.length_append, List.length_cons]
    omega
theorem colsB_take {cs : List Col} {i : Nat} (hi : i < cs.length) : (cs.take (i + 1)).flatMap colB = (cs.take i).flatMap colB ++ colB cs[i] := by
  rw [List.take_succ_eq_append_getElem hi, List.flatMap_append]
  simp
theorem schL_len {cs : List Col} (h : rightCols cs = true) : (schL cs).length ≤ 600 := by
  have h1 := right_len h
  have := digitsL_len10 (n := cs.length) (by omega)
  have := colsB_len fun c hc => (right_col h hc).2.2.2
  simp only [schL, List.length_append]
  omega
def SchV (l : List UInt8) (cs : List Col) (w w' : World) (v : Value) : Prop :=
  (rightCols cs = false ∧ v = .tuple #[.slice none 0 0, .int .i64 50] ∧ Below w.heap.size w w') ∨ (rightCols cs = true ∧ ∃ a c, v = .tuple #[.slice a (l ++ schL cs).length c, .int .i64 0] ∧ NewB w w' (l ++ schL cs) a c)
section
variable {w : World} {a a2 : Option Addr} {c c2 : Nat} {cs : List Col} {l : List UInt8}
theorem schema_flag_ok (b : Bool) (w : World) : Calls Tryz.prog f.schema_flag #[.bool b] w (Ret fun v w' => v = .int .u8 ((flagB b).toNat : Int) ∧ w' = w) := by
  apply R.schema_flag_calls
  unfold R.schema_flag
  exact IFB_of (fun h => ⟨by rw [h]; rfl, rfl⟩) (fun h => ⟨by rw [h]; rfl, rfl⟩)
theorem byteV_def (c : UInt8) : Value.int .u8 (c.toNat : Int) = byteV c := rfl
theorem two_bytes {w : World} {b : Nat} {x y : Value} {t : TypeId} {u v : UInt8} (h : w.heap[b]? = some (.cells #[x, y] t (0, 0))) (hx : x = byteV u) (hy : y = byteV v) : Rd w (some ⟨b, 0, none⟩) ([u, v].map byteV) := by
  subst hx hy
  exact Rd.of_block0 h
theorem kind_byte {k : Int} (h1 : 1 ≤ k) (h2 : k ≤ 3) : Value.int .u8 (IntKind.u8.wrap k) = byteV (UInt8.ofNat k.toNat) := by
  rw [wrap_u8_id (by omega) (by omega), ← byteV_of (x := k.toNat) (by omega)]
  congr 1
  omega
theorem schema_Lay_ok (hl : Rd w a (l.map byteV)) (hs : l.length + 1000 ≤ 140737488355328) (hcs : Rd w a2 (colsL cs)) (hn : cs.length ≤ 9223372036854775807) (hq : ∀ c ∈ cs, c.1.size ≤ 9223372036854775807) :
    Calls Tryz.prog f.schema_Lay #[.slice a l.length c, .slice a2 cs.length c2] w (Ret fun v w' => SchV l cs w w' v) := by
  apply R.schema_Lay_calls
  unfold R.schema_Lay
  refine (schema_Right_ok hcs hn hq).mono ?_
  rintro _ w1 ⟨_, rfl, rfl, B1⟩
  refine ⟨_, rfl, IFB_not (IFB_of (fun hR => ?_) (fun hR => .inl ⟨hR, rfl, B1⟩))⟩
  have hlen := right_len hR
  have d1 := digitsL_len10 (n := cs.length) (by omega)
  rw [wrap_u64_id (by omega) (by omega)]
  refine (wire_Number_ok l (hl.grown B1) cs.length (by omega) (by omega)).mono ?_
  rintro _ w2 ⟨_, rfl, a2', c2', rfl, h2⟩
  refine ⟨_, _, _, rfl, fun s w3 => ∃ (i : Nat) (o : List UInt8) (oa : Option Addr) (oc : Nat), s = [.slice oa o.length oc, .int .i64 (i : Int)] ∧ i ≤ cs.length ∧ o = l ++ digitsL cs.length ++ (cs.take i).flatMap colB ∧ ST w w3 [bytesI oa oc o], fun s _ => match s with
      | [_, .int _ i] => cs.length - i.toNat
      | _ => 0, ⟨0, _, a2', c2', rfl, by omega, by simp, stAddB ((ST.start w).grown B1) h2⟩, ?_⟩
  rintro oa _ oc _ w3 ⟨i, o, _, _, hst, hi, ho, S⟩
  cases hst
  have ho' : o.length ≤ l.length + 10 + 16 * 36 := by
    have := colsB_len (cs := cs.take i) fun c hc => (right_col hR (List.mem_of_mem_take hc)).2.2.2
    rw [List.length_take] at this
    rw [ho]
    simp only [List.length_append]
    omega
  refine IFB_dec (fun hlt => ⟨⟨by omega, hlt⟩, ?_⟩) (fun hge => .inr ⟨hR, ?_⟩)
  · have hil : i < cs.length := by omega
    obtain ⟨hN, hk1, hk2, hsz⟩ := right_col hR (List.getElem_mem hil)
    obtain ⟨p, rfl, c0, c1, c2⟩ := col_at (hcs.grown S.bel) hil
    have hT := digitsL_len10 (n := cs[i].1.size) (by omega)
    have hbl := bl_length cs[i].1
    refine ⟨_, by rw [Int.toNat_natCast]; exact c0, _, by rw [Int.toNat_natCast]; exact c1, _, by rw [Int.toNat_natCast]; exact c2, S.lit3 fun b14 w7 _ S => ⟨_, S.cell 0 rfl rfl, ?_⟩⟩
    have hrd7 : Rd w7 oa (o.map byteV) := stRdB S 1 rfl
    refine (wire_Text_ok o hrd7 cs[i].1 (by omega) (by omega)).mono ?_
    rintro _ w8 ⟨_, rfl, a8, c8, rfl, h8⟩
    refine ⟨_, _, _, _, rfl, (stAddB S h8).draw fun w9 _ S => ⟨_, S.cell 1 rfl rfl, _, S.cell 1 rfl rfl, (schema_flag_ok _ w9).mono ?_⟩⟩
    rintro _ w9 ⟨_, rfl, rfl, rfl⟩
    refine ⟨_, rfl, S.cell 1 rfl rfl, S.newB fun b23 w11 _ _ S => ?_⟩
    refine stAppB (m := [UInt8.ofNat cs[i].2.1.toNat, flagB cs[i].2.2]) S 1 rfl (two_bytes (S.blk 0 rfl) (kind_byte hk1 hk2) (byteV_def _)) (by simp only [textL, List.length_append, List.length_cons, List.length_nil]; omega) fun a12 c12 w12 S => ⟨_, _, _, rfl, ?_⟩
    rw [wrap_succ (by omega)]
    refine ⟨⟨i + 1, _, a12, c12, rfl, by omega, ?_, S.sub (by simp)⟩, ?_⟩
    · rw [colsB_take hil, ho]
      simp [colB]
    · show cs.length - ((i + 1 : Nat) : Int).toNat < cs.length - ((i : Nat) : Int).toNat
      simp only [Int.toNat_natCast]
      omega
  · rw [List.take_of_length_le (by omega)] at ho
    have : o = l ++ schL cs := by rw [ho]; simp [schL]
    subst this
    exact ⟨oa, oc, rfl, stNew S 0 rfl⟩
theorem ref05_Lay_ok (hl : Rd w a (l.map byteV)) (hs : l.length + 1000 ≤ 140737488355328) (hcs : Rd w a2 (colsL cs)) (hn : cs.length ≤ 9223372036854775807) (hq : ∀ c ∈ cs, c.1.size ≤ 9223372036854775807) :
    Calls Tryz.prog f.ref05_Lay #[.slice a l.length c, .slice a2 cs.length c2] w (Ret fun v w' => SchV l cs w w' v) := by
  apply R.ref05_Lay_calls
  unfold R.ref05_Lay
  refine (ref05_Right_ok hcs hn hq).mono ?_
  rintro _ w1 ⟨_, rfl, rfl, rfl⟩
  refine ⟨_, rfl, IFB_not (IFB_of (fun hR => ?_) (fun hR => .inl ⟨hR, rfl, .refl _ _⟩))⟩
  have hlen := right_len hR
  have d1 := digitsL_len10 (n := cs.length) (by omega)
  rw [wrap_u64_id (by omega) (by omega)]
  refine (ref_Number_ok l hl cs.length (by omega) (by omega)).mono ?_
  rintro _ w2 ⟨_, rfl, a2', c2', rfl, h2⟩
  refine ⟨_, _, _, rfl, fun s w3 => ∃ (i : Nat) (o : List UInt8) (oa : Option Addr) (oc : Nat), s = [.slice oa o.length oc, .int .i64 (i : Int)] ∧ i ≤ cs.length ∧ o = l ++ digitsL cs.length ++ (cs.take i).flatMap colB ∧ ST w1 w3 [bytesI oa oc o], fun s _ => match s with
      | [_, .int _ i] => cs.length - i.toNat
      | _ => 0, ⟨0, _, a2', c2', rfl, by omega, by simp, stAddB (ST.start w1) h2⟩, ?_⟩
  rintro oa _ oc _ w3 ⟨i, o, _, _, hst, hi, ho, S⟩
  cases hst
  have ho' : o.length ≤ l.length + 10 + 16 * 36 := by
    have := colsB_len (cs := cs.take i) fun c hc => (right_col hR (List.mem_of_mem_take hc)).2.2.2
    rw [List.length_take] at this
    rw [ho]
    simp only [List.length_append]
    omega
  refine IFB_dec (fun hlt => ⟨⟨by omega, hlt⟩, ?_⟩) (fun hge => .inr ⟨hR, ?_⟩)
  · have hil : i < cs.length := by omega
    obtain ⟨hN, hk1, hk2, hsz⟩ := right_col hR (List.getElem_mem hil)
    obtain ⟨p, rfl, c0, c1, c2⟩ := col_at (hcs.grown S.bel) hil
    have hT := digitsL_len10 (n := cs[i].1.size) (by omega)
    have hbl := bl_length cs[i].1
    have hb : (0 : Int) ≤ (i : Int) ∧ (i : Int) < (cs.length : Int) := ⟨by omega, hlt⟩
    refine ⟨_, by rw [Int.toNat_natCast]; exact c0, (ref_Text_ok o (stRdB S 0 rfl) cs[i].1 (by omega) (by omega)).mono ?_⟩
    rintro _ w4 ⟨_, rfl, a8, c8, rfl, h8⟩
    have S := stAddB S h8
    obtain ⟨p, hp, c0, c1, c2⟩ := col_at (hcs.grown S.bel) hil
    cases hp
    refine ⟨_, _, _, _, rfl, fun s w5 => w5 = w4 ∧ s = [byteV (flagB cs[i].2.2)], ⟨hb, _, by rw [Int.toNat_natCast]; exact c2, IFB_of (fun h => ⟨rfl, by rw [h]; rfl⟩) (fun h => ⟨rfl, by rw [h]; rfl⟩)⟩, ?_⟩
    rintro nu w5 ⟨rfl, hnu⟩
    have hnu' : Value.int .u8 nu = byteV (flagB cs[i].2.2) := by simpa using hnu
    refine ⟨hb, _, by rw [Int.toNat_natCast]; exact c1, S.newB fun b23 w11 _ _ S => ?_⟩
    refine stAppB (m := [UInt8.ofNat cs[i].2.1.toNat, flagB cs[i].2.2]) S 1 rfl (two_bytes (S.blk 0 rfl) (kind_byte hk1 hk2) hnu') (by simp only [textL, List.length_append, List.length_cons, List.length_nil]; omega) fun a12 c12 w12 S => ⟨_, _, _, rfl, ?_⟩
    rw [wrap_succ (by omega)]
    refine ⟨⟨i + 1, _, a12, c12, rfl, by omega, ?_, S.sub (by simp)⟩, ?_⟩
    · rw [colsB_take hil, ho]
      simp [colB]
    · show cs.length - ((i + 1 : Nat) : Int).toNat < cs.length - ((i : Nat) : Int).toNat
      simp only [Int.toNat_natCast]
      omega
  · rw [List.take_of_length_le (by omega)] at ho
    have : o = l ++ schL cs := by rw [ho]; simp [schL]
    subst this
    exact ⟨oa, oc, rfl, stNew S 0 rfl⟩
end
def unArg (n wd : Int) : Prop := 0 ≤ n ∧ n ≤ 4096 ∧ 0 ≤ wd ∧ wd ≤ 64
instance (n wd : Int) : Decidable (unArg n wd) := by unfold unArg; infer_instance
def unOk (l : List UInt8) (n wd : Nat) : Prop := l.length = sizeN n wd ∧ packL (unpackL l n wd) wd = l
instance (l : List UInt8) (n wd : Nat) : Decidable (unOk l n wd) := by unfold unOk; infer_instance
section
variable {w : World} {a : Option Addr} {c : Nat} {l : List UInt8}
end
section
variable {w : World} {a : Option Addr} {c : Nat} {l : List UInt8}
end
theorem takeT_le {l : List UInt8} {at_ : Int} {most : Nat} {s : List UInt8} {k : Nat} (h : takeT l at_ most = some (s, k)) : k ≤ l.length := by
  unfold takeT at h
  split at h
  · rename_i x hx
    have hb := takeN_bounds (n := x.1) (k := x.2) hx
    split at h
    · cases h
    · simp only [Option.some.injEq, Prod.mk.injEq] at h
      omega
  · cases h
section
variable {w0 w : World} {a : Option Addr} {c : Nat} {l : List UInt8}
end
structure Two (B : Nat) (w : World) (ns : List Int) (na : Option Addr) (nc : Nat) (ss : List ByteArray) (sa : Option Addr) (sc : Nat) : Prop where
  rn : Row w ty.int64 1 na ns.length nc (ns.map i64V)
  rs : Row w ty.string 1 sa ss.length sc (ss.map Value.string)
  nn : ∀ x, rowB na = some x → B ≤ x
  sn : ∀ x, rowB sa = some x → B ≤ x
  ne : ∀ x, rowB na = some x → rowB sa ≠ some x
theorem Two.nil (B : Nat) (w : World) : Two B w [] none 0 [] none 0 := ⟨Row.nil _ _ _, Row.nil _ _ _, by simp [rowB], by simp [rowB], by simp [rowB]⟩
section
variable {B : Nat} {w w' : World} {ns : List Int} {na : Option Addr} {nc : Nat} {ss : List ByteArray} {sa : Option Addr} {sc : Nat}
theorem Two.keeps (h : Two B w ns na nc ss sa sc) {F : Nat → Prop} (K : Keeps F w w') (hF : ∀ x, F x → x < B ∨ w.heap.size ≤ x) : Two B w' ns na nc ss sa sc :=
  ⟨h.rn.keeps K fun x hx hf => by have := h.nn x hx; have := h.rn.lt hx; have := hF x hf; omega, h.rs.keeps K fun x hx hf => by have := h.sn x hx; have := h.rs.lt hx; have := hF x hf; omega, h.nn, h.sn, h.ne⟩
theorem Two.grown (h : Two B w ns na nc ss sa sc) (hb : Below w.heap.size w w') : Two B w' ns na nc ss sa sc := h.keeps (F := fun _ => False) (Keeps.of_below hb) (by simp)
theorem tL64 : slT Tryz.prog ty.L_int64 = some (ty.int64, 1, 8, .int .i64 0) := by kernel_rfl
theorem Two.appN (h : Two B w ns na nc ss sa sc) (hB : B ≤ w.heap.size) (hl : ns.length ≤ 1000000) {x : Int} {b : Nat} {t : TypeId} (hb : w.heap[b]? = some (.cells #[i64V x] t (0, 0))) {f : Value → World → Prop}
    (hf : ∀ a' c' w', Two B w' (ns ++ [x]) a' c' ss sa sc → Keeps (fun k => rowB na = some k) w w' → f (.slice a' (ns ++ [x]).length c') w') : OPR Tryz.prog (Builtin.append_ #[ty.L_int64, ty.L_int64] ty.L_int64 #[.slice na ns.length nc, .slice (some ⟨b, 0, none⟩) 1 1]) f w := by
  have hsrc : Rd w (some ⟨b, 0, none⟩) ([x].map i64V) := by
    have := Rd.of_block0 hb
    simpa using this
  obtain ⟨a5, c5, w2, hrun, hrow, hk5, hnw⟩ := append_row (ty := ty.L_int64) (mc := 1) tL64 rfl (by omega) (by omega) h.rn hsrc (m := 1) rfl (by simp [i64V]; rfl) (by omega)
  unfold OPR
  rw [hrun]
  have e : ns.length + 1 = (ns ++ [x]).length := by simp
  rw [e] at hrow ⊢
  refine hf a5 c5 w2 ⟨by rw [List.map_append]; exact hrow, h.rs.keeps hk5 fun k hk hr => h.ne k hr hk, fun k hk => ?_, h.sn, fun k hk hs => ?_⟩ hk5
  · rcases hnw k hk with h1 | h1
    · exact h.nn k h1
    · omega
  · rcases hnw k hk with h1 | h1
    · exact h.ne k h1 hs
    · have := h.rs.lt hs
      omega
theorem Two.appS (h : Two B w ns na nc ss sa sc) (hB : B ≤ w.heap.size) (hl : ss.length ≤ 1000000) {x : ByteArray} {b : Nat} {t : TypeId} (hb : w.heap[b]? = some (.cells #[.string x] t (0, 0))) {f : Value → World → Prop}
    (hf : ∀ a' c' w', Two B w' ns na nc (ss ++ [x]) a' c' → Keeps (fun k => rowB sa = some k) w w' → f (.slice a' (ss ++ [x]).length c') w') : OPR Tryz.prog (Builtin.append_ #[ty.L_string, ty.L_string] ty.L_string #[.slice sa ss.length sc, .slice (some ⟨b, 0, none⟩) 1 1]) f w := by
  have hsrc : Rd w (some ⟨b, 0, none⟩) ([x].map Value.string) := by
    have := Rd.of_block0 hb
    simpa using this
  obtain ⟨a5, c5, w2, hrun, hrow, hk5, hnw⟩ := append_row (ty := ty.L_string) (mc := 1) tS rfl (by omega) (by omega) h.rs hsrc (m := 1) rfl (by simp; rfl) (by omega)
  unfold OPR
  rw [hrun]
  have e : ss.length + 1 = (ss ++ [x]).length := by simp
  rw [e] at hrow ⊢
  refine hf a5 c5 w2 ⟨h.rn.keeps hk5 fun k hk hr => h.ne k hk hr, by rw [List.map_append]; exact hrow, h.nn, fun k hk => ?_, fun k hk hs => ?_⟩ hk5
  · rcases hnw k hk with h1 | h1
    · exact h.sn k h1
    · omega
  · rcases hnw k hs with h1 | h1
    · exact h.ne k hk h1
    · have := h.rn.lt hk
      omega
end
def numsL (ls : List Val) : List Int := (fullL ls).map (·.2.1)
def textsL (ls : List Val) : List ByteArray := (fullL ls).map (·.2.2)
theorem numsL_len (ls : List Val) : (numsL ls).length ≤ ls.length := by unfold numsL fullL; rw [List.length_map]; exact List.length_filter_le ..
theorem textsL_len (ls : List Val) : (textsL ls).length ≤ ls.length := by unfold textsL fullL; rw [List.length_map]; exact List.length_filter_le ..
theorem nums_take {ls : List Val} {i : Nat} (hi : i < ls.length) : (ls[i].1 = 0 → numsL (ls.take (i + 1)) = numsL (ls.take i) ∧ textsL (ls.take (i + 1)) = textsL (ls.take i)) ∧
    (ls[i].1 ≠ 0 → numsL (ls.take (i + 1)) = numsL (ls.take i) ++ [ls[i].2.1] ∧ textsL (ls.take (i + 1)) = textsL (ls.take i) ++ [ls[i].2.2]) := by
  unfold numsL textsL
  rw [fullL_take hi]
  constructor
  · intro h; simp [h]
  · intro h; simp [h]
inductive OthIs (kind : Int) (ls : List Val) : List UInt8 → Prop
  | text (h : kind = 3) (b0 b1 : List UInt8) (h0 : EncIs (textsL ls) 0 b0) (h1 : EncIs (textsL ls) 1 b1) : OthIs kind ls (if b1.length < b0.length then b1 else b0)
  | num (h : kind ≠ 3) : OthIs kind ls (intsL (bestN (numsL ls)) (numsL ls))
structure Good1 (kind : Int) (ls : List Val) : Prop where
  right : rightL kind ls = true
  ok : ∀ v ∈ ls, ValOk v
theorem Good1.len {kind : Int} {ls : List Val} (h : Good1 kind ls) : ls.length ≤ 1024 := by
  have := h.right
  simp [rightL] at this
  omega
theorem Good1.kind {kind : Int} {ls : List Val} (h : Good1 kind ls) : 1 ≤ kind ∧ kind ≤ 3 := by
  have := h.right
  simp [rightL] at this
  omega
theorem Good1.all {kind : Int} {ls : List Val} (h : Good1 kind ls) : ∀ v ∈ ls, okV kind v = true := by
  have := h.right
  simp only [rightL, Bool.and_eq_true, List.all_eq_true] at this
  exact this.1
theorem Good1.nums {kind : Int} {ls : List Val} (h : Good1 kind ls) : ∀ x ∈ numsL ls, I64 x := by
  intro x hx
  obtain ⟨v, hv, rfl⟩ := List.mem_map.1 hx
  have := h.ok v (List.mem_filter.1 hv).1
  exact ⟨this.lo, this.hi⟩
theorem Good1.texts {kind : Int} {ls : List Val} (h : Good1 kind ls) : longB (textsL ls) = false := by
  unfold longB
  rw [List.any_eq_false]
  intro s hs
  obtain ⟨v, hv, rfl⟩ := List.mem_map.1 hs
  have := h.all v (List.mem_filter.1 hv).1
  simp only [okV, Bool.and_eq_true] at this
  have hr := this.1
  simp only [decide_eq_true_eq]
  unfold rightB at hr
  have hE : ∀ s : ByteArray, s = E0 → s.size = 0 := by rintro s rfl; rfl
  split at hr
  · simp at hr; have := hE _ hr.2; omega
  · split at hr
    · simp at hr; have := hE _ hr; omega
    · split at hr
      · simp at hr; have := hE _ hr.2; omega
      · split at hr
        · simp at hr; omega
        · cases hr
theorem Good1.enc {kind : Int} {ls : List Val} (h : Good1 kind ls) (f : Int) (hf : 0 ≤ f ∧ f ≤ 1) : encOk f (textsL ls) := ⟨hf.1, hf.2, by have := textsL_len ls; have := h.len; omega, h.texts⟩
theorem EncIs.len {f : Int} {ls : List ByteArray} {b : List UInt8} (hok : encOk f ls) (h : EncIs ls f b) : b.length ≤ 60000 + ls.length * 1034 := by
  obtain ⟨_, _, hn, hlong⟩ := hok
  have hz := longB_false hlong
  cases h with
  | plain =>
    have := laidL_len hz
    simp only [List.length_cons]
    omega
  | table t w ht hw =>
    have htl : t.length ≤ ls.length := by
      have := nodup_len (lt_nodup ht.up) (fun x hx => (ht.mem x).1 hx)
      simpa using this
    have htz : ∀ s ∈ t.map sof, s.size ≤ 1024 := by
      intro s hs
      obtain ⟨x, hx, rfl⟩ := List.mem_map.1 hs
      obtain ⟨s', hs', rfl⟩ := List.mem_map.1 ((ht.mem x).1 hx)
      rw [sof_bl]
      exact hz s' hs'
    have l1 := laidL_len htz
    rw [List.length_map] at l1
    have l2 := digitsL_len10 (n := t.length) (by omega)
    have hw13 : w ≤ 13 := hw.le.2 ((orL_lt _ _).2 fun x hx => by
      obtain ⟨s, hs, rfl⟩ := List.mem_map.1 hx
      have := List.idxOf_le_length (l := t) (a := bl s)
      omega)
    have hpl : (placesL t ls).length = ls.length := by simp [placesL]
    have l3 : (placesL t ls).length * w ≤ 4096 * 13 := Nat.mul_le_mul (by omega) hw13
    simp only [List.length_append, List.length_cons, packL_len]
    unfold sizeN
    omega
theorem OthIs.len {kind : Int} {ls : List Val} {b : List UInt8} (hg : Good1 kind ls) (h : OthIs kind ls b) : b.length ≤ 2000000 := by
  have l1 := textsL_len ls
  have l2 := numsL_len ls
  have l3 := hg.len
  cases h with
  | text h b0 b1 h0 h1 =>
    have k0 := h0.len (hg.enc 0 (by omega))
    have k1 := h1.len (hg.enc 1 (by omega))
    split <;> omega
  | num h =>
    have := intsL_len (bestN (numsL ls)) (by omega) hg.nums
    omega
section
variable {w : World} {a : Option Addr} {c : Nat} {ls : List Val}
end
section
variable {w : World} {a : Option Addr} {c : Nat} {ls : List Val}
theorem chunk_encoded_ok {kind : Int} (hg : Good1 kind ls) (hl : Rd w a (valsL ls)) :
    Calls Tryz.prog f.chunk_encoded #[.int .i64 kind, .slice a ls.length c] w (Ret fun v w' => ∃ b a' c', v = .slice a' b.length c' ∧ OthIs kind ls b ∧ NewB w w' b a' c') := by
  have hlen := hg.len
  apply R.chunk_encoded_calls
  unfold R.chunk_encoded
  refine (SH.start (fun _ => False) w).newB fun b3 w1 hb3 B1 S1 => S1.newB fun b4 w2 hb4 B2 S2 => chunk_full_ok.mono ?_
  rintro _ w9 ⟨_, rfl, bI, rfl, P9⟩
  refine ⟨_, _, _, rfl, by kernel_rfl, fun rr hst hpe hy => ?_⟩
  obtain ⟨W1, hW1⟩ : ∃ W1, W1 = (w9.alloc (.deferred (some []))).alloc (.loop rr) := ⟨_, rfl⟩
  rw [← hW1]
  have B91 : Below w9.heap.size w9 W1 := by rw [hW1]; exact (((Below.refl _ w9).alloc (Nat.le_refl _) _).alloc (by simp) _)
  have sz1 : W1.heap.size = w9.heap.size + 2 := by rw [hW1]; simp
  have hL1 : W1.heap[w9.heap.size + 1]? = some (.loop rr) := by
    rw [hW1]; have := World.alloc_heap_new (w9.alloc (.deferred (some []))) (.loop rr); rwa [World.size_alloc] at this
  have hD1 : W1.heap[w9.heap.size]? = some (.deferred (some [])) := by
    rw [hW1]; exact (Below.heap_alloc _ _ _ (by simp)).trans (World.alloc_heap_new w9 _)
  have K91 := Keeps.of_below (F := fun _ => False) B91
  obtain ⟨L, hLd⟩ : ∃ L, L = w9.heap.size + 1 := ⟨_, rfl⟩
  rw [← hLd] at hL1 hy ⊢
  have S9 := S2.grown P9.below
  have h39 := S9.lt (x := (b3, _, _)) (List.mem_cons_of_mem _ (List.mem_cons_self ..))
  have h49 := S9.lt (x := (b4, _, _)) (List.mem_cons_self ..)
  have hb34 : b4 ≠ b3 := S9.ne 0 1 rfl rfl (by decide)
  have Bw9 : Below w.heap.size w w9 := S9.below
  have Bw1 : Below w.heap.size w W1 := Bw9.trans (B91.mono Bw9.size)
  have w09 := Bw9.size
  have hb3w : w.heap.size ≤ b3 := hb3
  have hb4w : w.heap.size ≤ b4 := by have := B1.size; omega
  let F : Nat → Prop := fun x => x = b3 ∨ x = b4 ∨ x = L
  let J : Nat → World → Prop := fun q wx => Keeps F W1 wx ∧ wx.heap[L]? = some (.loop rr) ∧ ∃ na nc sa sc, wx.heap[b3]? = some (.cells #[.slice na (numsL (ls.take q)).length nc] ty.L_int64 (0, 0)) ∧
    wx.heap[b4]? = some (.cells #[.slice sa (textsL (ls.take q)).length sc] ty.L_string (0, 0)) ∧ Two W1.heap.size wx (numsL (ls.take q)) na nc (textsL (ls.take q)) sa sc
  have low : ∀ {w' : World}, Keeps F W1 w' → Below w.heap.size w w' := fun K => Bw1.trans (K.below Bw1.size fun k hk h => by
    rcases h with h | h | h <;> omega)
  have hI : W1.cell? ⟨bI, 0, none⟩ = some (.slice a ls.length c) := cell0 (K91.at (P9.get 0 rfl) (by simp))
  have hcall := full_c1_ok (w := W1) (L := L) (b := bI) (by omega) J (fun q wx hj => hl.grown (low hj.1)) (fun q wx wy hj B => by
      obtain ⟨j1, j2, na, nc, sa, sc, j3, j4, j5⟩ := hj
      have K := Keeps.of_below (F := fun _ => False) B
      exact ⟨j1.trans K (fun x _ h => h.elim), K.at j2 (by simp), na, nc, sa, sc, K.at j3 (by simp), K.at j4 (by simp), j5.grown B⟩) (fun q wx hq hz hj => by
      obtain ⟨j1, j2, na, nc, sa, sc, j3, j4, j5⟩ := hj
      obtain ⟨e1, e2⟩ := (nums_take hq).1 hz
      exact ⟨j1, j2, na, nc, sa, sc, by rw [e1]; exact j3, by rw [e2]; exact j4, by rw [e1, e2]; exact j5⟩) (by
    rintro q wx hq hne ⟨K, hL, na, nc, sa, sc, g3, g4, hT⟩
    obtain ⟨e1, e2⟩ := (nums_take hq).2 hne
    have hn1 := numsL_len (ls.take q)
    have hn2 := textsL_len (ls.take q)
    rw [List.length_take] at hn1 hn2
    refine hy _ _ _ _ wx hL ?_
    refine (SH.start (fun _ => False) wx).lit3 fun b11 w8 hb11 B8 S8 => ?_
    have K8 := Keeps.of_below (F := fun _ => False) B8
    have hL8 := K8.at hL (by simp)
    refine ⟨hL8, ?_⟩
    obtain ⟨wB, hwB⟩ : ∃ wB, wB = w8.putObj L (.loop { rr with state := .busy }) := ⟨_, rfl⟩
    rw [← hwB]
    have hLlt : L < w8.heap.size := (Array.getElem?_eq_some_iff.1 hL8).1
    have KB : Keeps (fun k => k = L) w8 wB := by rw [hwB]; exact keeps_putObj _ _ _
    have hLB : wB.heap[L]? = some (.loop { rr with state := .busy }) := by rw [hwB]; exact World.putObj_heap_same hLlt
    unfold DRAW
    obtain ⟨wD, hwD⟩ : ∃ wD, wD = wB.drew := ⟨_, rfl⟩
    rw [← hwD]
    have KD : Keeps (fun _ => False) wB wD := by rw [hwD]; exact (Keeps.refl _ _).drew
    have sx := K.size
    have s8 := B8.size
    -- facts at wD
    have d3 : wD.heap[b3]? = some (.cells #[.slice na (numsL (ls.take q)).length nc] ty.L_int64 (0, 0)) := KD.at (KB.at (K8.at g3 (by simp)) (by show ¬ b3 = L; omega)) (by simp)
    have d4 : wD.heap[b4]? = some (.cells #[.slice sa (textsL (ls.take q)).length sc] ty.L_string (0, 0)) := KD.at (KB.at (K8.at g4 (by simp)) (by show ¬ b4 = L; omega)) (by simp)
    have dL : wD.heap[L]? = some (.loop { rr with state := .busy }) := KD.at hLB (by simp)
    have d11 : wD.heap[b11]? = some (.cells #[.int .i64 ls[q].1, .int .i64 ls[q].2.1, .string ls[q].2.2] ty.api_Value (0, 0)) := KD.at (KB.at (S8.get 0 rfl) (by show ¬ b11 = L; omega)) (by simp)
    have dT : Two W1.heap.size wD (numsL (ls.take q)) na nc (textsL (ls.take q)) sa sc := ((hT.grown B8).keeps KB (fun x hx => .inl (by omega))).keeps KD (by simp)
    have dK : Keeps F W1 wD := ((K.trans K8 (fun x _ h => h.elim)).trans KB (fun x _ h => .inr (.inr h))).trans KD (fun x _ h => h.elim)
    have l3 : b3 < W1.heap.size := by omega
    have l4 : b4 < W1.heap.size := by omega
    have lL : L < W1.heap.size := by omega
    have l11 : W1.heap.size ≤ b11 := by omega
    -- the end: both stores
    have fin : ∀ (wy : World) (na' : Option Addr) (nc' : Nat) (sa' : Option Addr) (sc' : Nat), Keeps F W1 wy → wy.heap[L]? = some (.loop { rr with state := .busy }) → wy.heap[b3]? = some (.cells #[.slice na (numsL (ls.take q)).length nc] ty.L_int64 (0, 0)) →
        wy.heap[b4]? = some (.cells #[.slice sa (textsL (ls.take q)).length sc] ty.L_string (0, 0)) → Two W1.heap.size wy (numsL (ls.take q) ++ [ls[q].2.1]) na' nc' (textsL (ls.take q) ++ [ls[q].2.2]) sa' sc' →
        STO ⟨b3, 0, none⟩ (.slice na' (numsL (ls.take q) ++ [ls[q].2.1]).length nc') (fun w15 => STO ⟨b4, 0, none⟩ (.slice sa' (textsL (ls.take q) ++ [ls[q].2.2]).length sc') (fun w16 => ENDR rr L (fun y w' => y = true ∧ (Keeps F W1 w' ∧ w'.heap[L]? = some (.loop rr) ∧ ∃ na nc sa sc, w'.heap[b3]? = some (.cells #[.slice na (numsL (ls.take (q + 1))).length nc] ty.L_int64 (0, 0)) ∧
    w'.heap[b4]? = some (.cells #[.slice sa (textsL (ls.take (q + 1))).length sc] ty.L_string (0, 0)) ∧ Two W1.heap.size w' (numsL (ls.take (q + 1))) na nc (textsL (ls.take (q + 1))) sa sc)) none w16) w15) wy := by
      intro wy na' nc' sa' sc' yK yL y3 y4 yT
      refine sto_blk y3 (by simp) fun wz Kz z3 => sto_blk (Kz.at y4 hb34) (by simp) fun wq Kq q4 => ?_
      have qL : wq.heap[L]? = some (.loop { rr with state := .busy }) := Kq.at (Kz.at yL (by show ¬ L = b3; omega)) (by show ¬ L = b4; omega)
      refine ⟨qL, rfl, ?_⟩
      rw [rr_eta hst hpe]
      have lq : L < wq.heap.size := (Array.getElem?_eq_some_iff.1 qL).1
      have KP := keeps_putObj wq L (.loop rr)
      have q3 := Kq.at z3 (show ¬ b3 = b4 from fun h => hb34 h.symm)
      refine ⟨((yK.trans Kz (fun x _ h => .inl h)).trans Kq (fun x _ h => .inr (.inl h))).trans KP (fun x _ h => .inr (.inr h)), World.putObj_heap_same lq, na', nc', sa', sc', ?_, ?_, ?_⟩
      · rw [e1]; exact KP.at q3 (by show ¬ b3 = L; omega)
      · rw [e2]; exact KP.at q4 (by show ¬ b4 = L; omega)
      · rw [e1, e2]
        exact ((yT.keeps Kz (fun x hx => .inl (by omega))).keeps Kq (fun x hx => .inl (by omega))).keeps KP (fun x hx => .inl (by omega))
    have offN : ∀ {x : Nat}, x < W1.heap.size → ¬ rowB na = some x := fun hx h => by have := hT.nn _ h; omega
    have offS : ∀ {x : Nat}, x < W1.heap.size → ¬ rowB sa = some x := fun hx h => by have := hT.sn _ h; omega
    have sB : w8.heap.size ≤ wB.heap.size := KB.size
    have sD : wB.heap.size ≤ wD.heap.size := KD.size
    have c11a : wD.cell? ⟨b11, 1, none⟩ = some (.int .i64 ls[q].2.1) := by simp [World.cell?, d11]
    have c11b : wD.cell? ⟨b11, 2, none⟩ = some (.string ls[q].2.2) := by simp [World.cell?, d11]
    refine ⟨_, _, _, cell0 d3, _, c11a, _, _, _, cell0 d4, _, c11b, ?_, ?_⟩
    · refine (SH.start (fun _ => False) wD).newB fun b16 wE hb16 BE SE => ?_
      have KE := Keeps.of_below (F := fun _ => False) BE
      have f3 := KE.at d3 (by simp)
      have f4 := KE.at d4 (by simp)
      have fL := KE.at dL (by simp)
      have f11 := KE.at d11 (by simp)
      have fT := dT.grown BE
      have fK : Keeps F W1 wE := dK.trans KE (fun x _ h => h.elim)
      have sE := BE.size
      refine ⟨by simp [World.cell?, f11], cell0 f4, cell0 f3, ?_, ?_⟩
      · refine fT.appN (by omega) (by omega) (SE.get 0 rfl) fun aN cN wN hN KN => ⟨_, _, _, rfl, ?_⟩
        have n11 : ¬ rowB na = some b11 := fun h => by have := hT.rn.lt h; omega
        have m11 := KN.at f11 n11
        have m3 := KN.at f3 (offN l3)
        have m4 := KN.at f4 (offN l4)
        have mL := KN.at fL (offN lL)
        have mK : Keeps F W1 wN := fK.trans KN (fun x hx h => absurd h (offN hx))
        have sN := KN.size
        refine ⟨by simp [World.cell?, m11], cell0 m4, (SH.start (fun _ => False) wN).newB fun b19 wO hb19 BO SO => ⟨cell0 ((Keeps.of_below (F := fun _ => False) BO).at m4 (by simp)), ?_⟩⟩
        have KO := Keeps.of_below (F := fun _ => False) BO
        have sO := BO.size
        refine (hN.grown BO).appS (by omega) (by omega) (SO.get 0 rfl) fun aS cS wS hS KS => ⟨_, _, _, rfl, ?_⟩
        refine fin wS aN cN aS cS ((mK.trans KO (fun x _ h => h.elim)).trans KS (fun x hx h => absurd h (offS hx))) (KS.at (KO.at mL (by simp)) (offS lL)) (KS.at (KO.at m3 (by simp)) (offS l3)) (KS.at (KO.at m4 (by simp)) (offS l4)) hS
      · refine (SH.start (fun _ => False) wE).newB fun b22 wO hb22 BO SO => ?_
        have KO := Keeps.of_below (F := fun _ => False) BO
        have sO := BO.size
        have o3 := KO.at f3 (by simp)
        have o4 := KO.at f4 (by simp)
        have oL := KO.at fL (by simp)
        have o16 : wO.heap[b16]? = some (.cells #[.int .i64 ls[q].2.1] ty.int64 (0, 0)) := KO.at (SE.get 0 rfl) (by simp)
        have oK : Keeps F W1 wO := fK.trans KO (fun x _ h => h.elim)
        refine ⟨cell0 o4, cell0 o3, (fT.grown BO).appN (by omega) (by omega) o16 fun aN cN wN hN KN => ⟨_, _, _, rfl, cell0 (KN.at o4 (offN l4)), ?_⟩⟩
        have n22 : ¬ rowB na = some b22 := fun h => by have := hT.rn.lt h; omega
        have sN := KN.size
        refine hN.appS (by omega) (by omega) (KN.at (SO.get 0 rfl) n22) fun aS cS wS hS KS => ⟨_, _, _, rfl, ?_⟩
        exact fin wS aN cN aS cS ((oK.trans KN (fun x hx h => absurd h (offN hx))).trans KS (fun x hx h => absurd h (offS hx))) (KS.at (KN.at oL (offN lL)) (offS lL)) (KS.at (KN.at o3 (offN l3)) (offS l3)) (KS.at (KN.at o4 (offN l4)) (offS l4)) hS
    · refine (SH.start (fun _ => False) wD).newB fun b27 wE hb27 BE SE => ?_
      have KE := Keeps.of_below (F := fun _ => False) BE
      have f3 := KE.at d3 (by simp)
      have f4 := KE.at d4 (by simp)
      have fL := KE.at dL (by simp)
      have f11 := KE.at d11 (by simp)
      have fT := dT.grown BE
      have fK : Keeps F W1 wE := dK.trans KE (fun x _ h => h.elim)
      have sE := BE.size
      refine ⟨cell0 f4, by simp [World.cell?, f11], cell0 f3, (SH.start (fun _ => False) wE).newB fun b28 wO hb28 BO SO => ?_⟩
      have KO := Keeps.of_below (F := fun _ => False) BO
      have sO := BO.size
      have o3 := KO.at f3 (by simp)
      have o4 := KO.at f4 (by simp)
      have oL := KO.at fL (by simp)
      have o27 : wO.heap[b27]? = some (.cells #[.string ls[q].2.2] ty.string (0, 0)) := KO.at (SE.get 0 rfl) (by simp)
      have oK : Keeps F W1 wO := fK.trans KO (fun x _ h => h.elim)
      refine ⟨cell0 o4, cell0 o3, (fT.grown BO).appN (by omega) (by omega) (SO.get 0 rfl) fun aN cN wN hN KN => ⟨_, _, _, rfl, cell0 (KN.at o4 (offN l4)), ?_⟩⟩
      have n27 : ¬ rowB na = some b27 := fun h => by have := hT.rn.lt h; omega
      have sN := KN.size
      refine hN.appS (by omega) (by omega) (KN.at o27 n27) fun aS cS wS hS KS => ⟨_, _, _, rfl, ?_⟩
      exact fin wS aN cN aS cS ((oK.trans KN (fun x hx h => absurd h (offN hx))).trans KS (fun x hx h => absurd h (offS hx))) (KS.at (KN.at oL (offN lL)) (offS lL)) (KS.at (KN.at o3 (offN l3)) (offS l3)) (KS.at (KN.at o4 (offN l4)) (offS l4)) hS)
    ⟨.refl _ _, hL1, none, 0, none, 0, K91.at (S9.get 1 rfl) (by simp), K91.at (S9.get 0 rfl) (by simp), Two.nil _ _⟩ hI
  refine hcall.mono ?_
  rintro _ w14 ⟨_, rfl, K14, hL14, na, nc, sa, sc, g3, g4, hT⟩
  rw [List.take_length] at g3 g4 hT
  refine ⟨⟨_, rfl⟩, none, by rw [rr_eta hst hpe]; exact hL14, rfl, ?_⟩
  obtain ⟨w15, hw15⟩ : ∃ w15, w15 = w14.putObj L (.loop { rr with state := .exhausted, pending := none }) := ⟨_, rfl⟩
  rw [← hw15]
  have K15 : Keeps (fun k => k = L) w14 w15 := by rw [hw15]; exact keeps_putObj _ _ _
  have KF := K14.trans K15 (fun x _ h => .inr (.inr h))
  have g3' := K15.at g3 (show ¬ b3 = L by omega)
  have g4' := K15.at g4 (show ¬ b4 = L by omega)
  have hT' := hT.keeps K15 (fun x hx => .inl (by omega))
  have hD15 : w15.heap[w9.heap.size]? = some (.deferred (some [])) := KF.at hD1 (by show ¬ (w9.heap.size = b3 ∨ w9.heap.size = b4 ∨ w9.heap.size = L); omega)
  have B15 := low KF
  have hn4 : (textsL ls).length ≤ 9223372036854775807 := by have := textsL_len ls; omega
  have hn5 : (numsL ls).length ≤ 4096 := by have := numsL_len ls; omega
  have s15 := KF.size
  have fin2 : ∀ {wz : World} {b : List UInt8} {az : Option Addr} {cz : Nat}, NewB w15 wz b az cz → wz.heap[w9.heap.size]? = some (.deferred (some [])) ∧ NewB w (wz.putObj w9.heap.size (.deferred none)) b az cz := by
    intro wz b az cz hN
    have KP := keeps_putObj wz w9.heap.size (.deferred none)
    have hB := below_trans B15 hN.bel
    refine ⟨(Keeps.of_below (F := fun _ => False) hN.bel).at hD15 (by simp), hN.row.keeps KP fun x hx he => by have := hN.new x hx; omega, fun k hk => by have := hN.new k hk; omega, hB.trans (KP.below hB.size fun k hk he => by omega)⟩
  refine IFB_eq (fun h3 => ⟨_, _, _, cell0 g4', ?_⟩) (fun h3 => ⟨_, _, _, cell0 g3', ?_⟩)
  · refine (dict_Best_ok hT'.rs.rd hn4).mono ?_
    rintro _ w30 ⟨_, rfl, hB, B30⟩
    rcases hB with ⟨hno, _⟩ | ⟨b0, b1, h0, h1, _, rfl⟩
    · exact absurd (hg.enc 0 (by omega)) hno
    refine ⟨_, _, rfl, _, _, _, cell0 ((Keeps.of_below (F := fun _ => False) B30).at g4' (by simp)), ?_⟩
    have hf : 0 ≤ (if b1.length < b0.length then (1 : Int) else 0) ∧ (if b1.length < b0.length then (1 : Int) else 0) ≤ 1 := by split <;> omega
    refine (dict_Encode_ok _ (hT'.rs.rd.grown B30) hn4).mono ?_
    rintro _ w31 ⟨_, rfl, hE⟩
    rcases hE with ⟨hno, _⟩ | ⟨_, b, az, cz, hE, rfl, hN⟩
    · exact absurd (hg.enc _ hf) hno
    obtain ⟨q1, q2⟩ := fin2 (hN.before B30)
    refine ⟨_, _, _, _, rfl, q1, b, az, cz, rfl, ?_, q2⟩
    have := OthIs.text (kind := kind) (ls := ls) h3 b0 b1 h0 h1
    split at hE
    · rename_i hlt
      rw [if_pos hlt] at this
      rw [hE.one h1]; exact this
    · rename_i hlt
      rw [if_neg hlt] at this
      rw [hE.one h0]; exact this
  · refine (ints_Best_ok hT'.rn.rd hT'.rn.le hn5 hg.nums).mono ?_
    rintro _ w30 ⟨_, rfl, rfl, B30⟩
    refine ⟨_, _, rfl, _, _, _, cell0 ((Keeps.of_below (F := fun _ => False) B30).at g3' (by simp)), (ints_Encode_ok _ (hT'.rn.rd.grown B30) hT'.rn.le hg.nums).mono ?_⟩
    rintro _ w31 ⟨_, rfl, hE⟩
    obtain ⟨az, cz, rfl, hN⟩ := IntsV.good (bestN_le _) hn5 hE
    obtain ⟨q1, q2⟩ := fin2 (hN.before B30)
    exact ⟨_, _, _, _, rfl, q1, _, az, cz, rfl, .num h3, q2⟩
end
theorem sealed_bytes (x : BitVec 32) (w : World) (b : Nat) (t : TypeId) (hb : w.heap[b]? = some (.cells #[.int .u8 (IntKind.u8.wrap (x.toNat : Int)), .int .u8 (IntKind.u8.wrap ((Int.fdiv (x.toNat : Int) (2 ^ (min 8 32))))), .int .u8 (IntKind.u8.wrap ((Int.fdiv (x.toNat : Int) (2 ^ (min 16 32))))), .int .u8 (IntKind.u8.wrap ((Int.fdiv (x.toNat : Int) (2 ^ (min 24 32)))))] t (0, 0))) :
    Rd w (some ⟨b, 0, none⟩) ((sum4 x).map byteV) := by
  have := Rd.of_block0 hb
  rw [u8of_nat, u8of_shift, u8of_shift, u8of_shift] at this
  exact this
def headL (kind : Int) (ls : List Val) : List UInt8 := [UInt8.ofNat kind.toNat] ++ digitsL ls.length ++ digitsL (nullsN ls)
def maskL (ls : List Val) : List UInt8 := if 0 < nullsN ls ∧ nullsN ls < ls.length then packL (bitsN ls) 1 else []
structure ChIs (kind : Int) (ls : List Val) (b : List UInt8) : Prop where
  ex : ∃ o, (nullsN ls < ls.length → OthIs kind ls o) ∧ (¬ nullsN ls < ls.length → o = []) ∧ b = (headL kind ls ++ maskL ls ++ o) ++ sum4 (crc (headL kind ls ++ maskL ls ++ o))
def ChV (kind : Int) (ls : List Val) (w w' : World) (r : Value) : Prop :=
  (rightL kind ls = false ∧ r = .tuple #[.slice none 0 0, .int .i64 2] ∧ Below w.heap.size w w') ∨ (rightL kind ls = true ∧ ∃ b a c, ChIs kind ls b ∧ r = .tuple #[.slice a b.length c, .int .i64 0] ∧ NewB w w' b a c)
theorem headL_len {kind : Int} {ls : List Val} (hg : Good1 kind ls) : (headL kind ls).length ≤ 21 := by
  have h1 := digitsL_len10 (n := ls.length) (by have := hg.len; omega)
  have h2 := digitsL_len10 (n := nullsN ls) (by have := hg.len; have := nullsN_le ls; omega)
  simp only [headL, List.length_append, List.length_cons, List.length_nil]
  omega
theorem maskL_len {kind : Int} {ls : List Val} (hg : Good1 kind ls) : (maskL ls).length ≤ 200 := by
  have := hg.len
  unfold maskL
  split
  · rw [packL_len]
    unfold sizeN
    have : (bitsN ls).length = ls.length := by simp [bitsN]
    rw [this]
    omega
  · simp
theorem bits_lt (ls : List Val) : ∀ x ∈ bitsN ls, x < 2 ^ 1 := by
  intro x hx
  obtain ⟨v, _, rfl⟩ := List.mem_map.1 hx
  split <;> omega
section
variable {w : World} {a : Option Addr} {c : Nat} {ls : List Val}
theorem chunk_Encode_ok (kind : Int) (hl : Rd w a (valsL ls)) (hn : ls.length ≤ 9223372036854775807) (hv : ∀ v ∈ ls, ValOk v) :
    Calls Tryz.prog f.chunk_Encode #[.int .i64 kind, .slice a ls.length c] w (Ret fun v w' => ChV kind ls w w' v) := by
  apply R.chunk_Encode_calls
  unfold R.chunk_Encode
  refine (chunk_right_ok kind hl hn).mono ?_
  rintro _ w1 ⟨_, rfl, rfl, B1⟩
  refine ⟨_, rfl, IFB_not (IFB_of (fun hr => ?_) (fun hr => .inl ⟨hr, rfl, B1⟩))⟩
  have hg : Good1 kind ls := ⟨hr, hv⟩
  have hlen := hg.len
  have hk := hg.kind
  have hnl := nullsN_le ls
  refine ⟨fun s w2 => ∃ (i : Nat) (ba : Option Addr) (bc : Nat), s = [.slice ba (bitsN (ls.take i)).length bc, .int .i64 (nullsN (ls.take i) : Int), .int .i64 (i : Int)] ∧ i ≤ ls.length ∧ NewU w1 w2 (bitsN (ls.take i)) ba bc, fun s _ => match s with
      | [_, _, .int _ i] => ls.length - i.toNat
      | _ => 0, ⟨0, none, 0, rfl, by omega, NewU.nil w1⟩, ?_⟩
  rintro ba _ bc _ _ w2 ⟨i, _, _, hst, hi, h2⟩
  cases hst
  have C2 := below_trans B1 h2.bel
  refine IFB_dec (fun hlt => ⟨⟨by omega, hlt⟩, ?_⟩) (fun hge => ?_)
  · have hil : i < ls.length := by omega
    obtain ⟨p, rfl, c0, c1, c2⟩ := val_at (hl.grown C2) hil
    have hbl : (bitsN (ls.take i)).length ≤ 1024 := by simp [bitsN]; omega
    have hnl2 := nullsN_le (ls.take i)
    rw [List.length_take] at hnl2
    have mes : ls.length - ((i + 1 : Nat) : Int).toNat < ls.length - ((i : Nat) : Int).toNat := by
      simp only [Int.toNat_natCast]
      omega
    refine ⟨_, by rw [Int.toNat_natCast]; exact c0, _, by rw [Int.toNat_natCast]; exact c1, _, by rw [Int.toNat_natCast]; exact c2, (SH.start (fun _ => False) w2).lit3 fun b13 w6 hb13 B6 S6 => ⟨_, S6.cell 0 rfl rfl, ?_⟩⟩
    rw [wrap_succ (by omega), wrap_succ (by omega)]
    refine IFB_eq (fun hz => ?_) (fun hz => ?_)
    · refine S6.newB fun b15 w7 hb15 B7 S7 => append_u64 ((h2.grown B6).grown B7) (by omega) (x := 1) rfl (S7.get 0 rfl) fun a8 c8 w8 h8 => ⟨_, _, _, rfl, ⟨i + 1, a8, c8, ?_, by omega, ?_⟩, mes⟩
      · rw [nullsN_take hil, bitsN_take hil, if_pos hz]
      · rw [bitsN_take hil, if_pos hz]; exact h8
    · refine S6.newB fun b15 w7 hb15 B7 S7 => append_u64 ((h2.grown B6).grown B7) (by omega) (x := 0) rfl (S7.get 0 rfl) fun a8 c8 w8 h8 => ⟨_, _, _, rfl, ⟨i + 1, a8, c8, ?_, by omega, ?_⟩, mes⟩
      · rw [nullsN_take hil, bitsN_take hil, if_neg hz]; rfl
      · rw [bitsN_take hil, if_neg hz]; exact h8
  have hie : ls.take i = ls := List.take_of_length_le (by omega)
  rw [hie] at h2 ⊢
  have hbl : (bitsN ls).length = ls.length := by simp [bitsN]
  rw [wrap_u8_id (by omega) (by omega)]
  refine (SH.start (fun _ => False) w2).newB fun b21 w11 hb21 B11 S11 => ?_
  have C11 := below_trans C2 B11
  have hN11 : Rd w11 (some ⟨b21, 0, none⟩) ([UInt8.ofNat kind.toNat].map byteV) := by
    have := Rd.of_block0 (S11.get 0 rfl)
    have e : Value.int .u8 kind = byteV (UInt8.ofNat kind.toNat) := by
      have := byteV_of (x := kind.toNat) (by omega)
      rw [← this]
      congr 1
      omega
    simpa [e] using this
  rw [wrap_u64_id (by omega) (by omega)]
  refine (wire_Number_ok (c := 1) [UInt8.ofNat kind.toNat] hN11 ls.length (by omega) (by simp)).mono ?_
  rintro _ w12 ⟨_, rfl, a12, c12, rfl, h12⟩
  have d1 := digitsL_len10 (n := ls.length) (by omega)
  rw [wrap_u64_id (by omega) (by omega)]
  refine ⟨_, _, _, rfl, (wire_Number_ok _ h12.rd (nullsN ls) (by omega) (by simp; omega)).mono ?_⟩
  rintro _ w13 ⟨_, rfl, a13, c13, rfl, h13⟩
  have C12 := below_trans C11 h12.bel
  have h13' := h13.before C12
  have hhead : [UInt8.ofNat kind.toNat] ++ digitsL ls.length ++ digitsL (nullsN ls) = headL kind ls := rfl
  rw [hhead] at h13' ⊢
  have hhl := headL_len hg
  have hml := maskL_len hg
  refine ⟨_, _, _, rfl, fun s w17 => ∃ (b : List UInt8) (ab : Option Addr) (cb : Nat), s = [.slice ab b.length cb] ∧ b = headL kind ls ++ maskL ls ∧ NewB w w17 b ab cb, ?_, ?_⟩
  · refine ⟨fun s w14 => ∃ t : Bool, s = [.bool t] ∧ w14 = w13 ∧ (t = true ↔ 0 < nullsN ls ∧ nullsN ls < ls.length), ?_, ?_⟩
    · refine IFB_dec (fun h => ⟨_, rfl, rfl, by simp; omega⟩) (fun h => ⟨_, rfl, rfl, by simp; omega⟩)
    rintro _ w14 ⟨t, hst, rfl, ht⟩
    cases hst
    refine IFB_of (fun h => ?_) (fun h => ?_)
    · have hcond := ht.1 h
      have hrd : Rd w14 ba ((bitsN ls).map u64V) := ((h2.row.rd.grown B11).grown h12.bel).grown h13.bel
      refine (pack_Pack_ok (wd := 1) hrd (by omega) (by omega) (bits_lt ls)).mono ?_
      rintro _ w15 ⟨_, rfl, a15, c15, rfl, h15⟩
      have hpl : (packL (bitsN ls) 1).length ≤ 200 := by
        have := maskL_len hg
        unfold maskL at this
        rwa [if_pos hcond] at this
      refine ⟨_, _, _, _, rfl, append_bytes (h13'.grown h15.bel).row h15.rd (by omega) fun a16 c16 w16 R16 K16 N16 => ⟨_, _, _, rfl, _, a16, c16, rfl, ?_, h13'.appended h15.bel R16 K16 N16⟩⟩
      unfold maskL
      rw [if_pos hcond]
    · have hcond : ¬ (0 < nullsN ls ∧ nullsN ls < ls.length) := fun hh => by rw [ht.2 hh] at h; cases h
      refine ⟨_, a13, c13, rfl, ?_, h13'⟩
      unfold maskL
      rw [if_neg hcond, List.append_nil]
  rintro ab _ cb w17 ⟨b, _, _, hst, hb, h17⟩
  cases hst
  have hbl2 : b.length ≤ 221 := by rw [hb, List.length_append]; omega
  refine ⟨fun s w20 => ∃ (o b2 : List UInt8) (ab : Option Addr) (cb : Nat), s = [.slice ab b2.length cb] ∧ b2 = b ++ o ∧ o.length ≤ 2000000 ∧ (nullsN ls < ls.length → OthIs kind ls o) ∧ (¬ nullsN ls < ls.length → o = []) ∧ NewB w w20 b2 ab cb, ?_, ?_⟩
  · refine IFB_dec (fun h => ?_) (fun h => ⟨[], b, ab, cb, rfl, by simp, by simp, fun hh => absurd hh (by omega), fun _ => rfl, h17⟩)
    refine (chunk_encoded_ok hg (hl.grown h17.bel)).mono ?_
    rintro _ w18 ⟨_, rfl, o, a18, c18, rfl, hO, h18⟩
    have hol := hO.len hg
    refine ⟨_, _, _, rfl, append_bytes (h17.grown h18.bel).row h18.rd (by omega) fun a19 c19 w19 R19 K19 N19 => ⟨_, _, _, rfl, o, _, a19, c19, rfl, rfl, hol, fun _ => hO, fun hh => absurd (by omega) hh, h17.appended h18.bel R19 K19 N19⟩⟩
  rintro ab2 _ cb2 w20 ⟨o, b2, _, _, hst, hb2, hol, ho1, ho2, h20⟩
  cases hst
  have hb2l : b2.length ≤ 2000221 := by rw [hb2, List.length_append]; omega
  refine (SH.start (fun _ => False) w20).newB fun b41 w21 hb41 B21 S21 => ?_
  have hS := wire_Sum_ok (w := w21) (a := some ⟨b41, 0, none⟩) (c := 1) [(ab2, cb2, b2)] (by
    have := Rd.of_block0 (S21.get 0 rfl)
    simpa [partV1] using this) (by
    intro p hp
    rw [List.mem_singleton.1 hp]
    exact h20.rd.grown B21) (by simp) (by
    intro p hp
    rw [List.mem_singleton.1 hp]
    simp only
    omega)
  refine hS.mono ?_
  rintro _ w22 ⟨_, rfl, rfl, rfl⟩
  have ef : ([(ab2, cb2, b2)] : List PartB).flatMap (·.2.2) = b2 := by simp
  rw [ef]
  refine ⟨_, rfl, (SH.start (fun _ => False) w22).newB fun b44 w23 hb44 B23 S23 => ?_⟩
  have hR := sealed_bytes (crc b2) w23 b44 _ (S23.get 0 rfl)
  have h23 := (h20.grown B21).grown B23
  refine append_bytes (m := sum4 (crc b2)) h23.row hR (by simp [sum4]; omega) fun a24 c24 w24 R24 K24 N24 => ⟨_, _, _, rfl, .inr ⟨hr, _, a24, c24, ⟨o, ho1, ho2, ?_⟩, rfl, h20.appended (below_trans B21 B23) R24 K24 N24⟩⟩
  rw [hb2, hb]
end
theorem valok_small {v : Val} (h1 : -10 ≤ v.2.1) (h2 : v.2.1 ≤ 10) : ValOk v := ⟨by omega, by omega⟩
theorem unzig_zig {n : Int} : unzig (zigN n) = n := by unfold unzig zigN; split <;> split <;> omega
section
variable {w : World} {a : Option Addr} {c : Nat} {l : List UInt8}
end
section
variable {w : World} {a : Option Addr} {c : Nat} {l : List UInt8}
end
theorem takeN_drop {l r : List UInt8} {at_ m : Nat} (hm : m < 18446744073709551616) (h : l.drop at_ = digitsL m ++ r) : takeN l (at_ : Int) = some (m, at_ + (digitsL m).length) := by
  unfold takeN
  rw [if_neg (by omega), Int.toNat_natCast, h, readN_digits m 0 0 r (by simpa using hm) (by omega) (by intro; rfl)]
  simp
theorem drop_more {l r d : List UInt8} {at_ : Nat} (h : l.drop at_ = d ++ r) : l.drop (at_ + d.length) = r := by
  rw [← List.drop_drop, h, List.drop_left]
section
variable {w : World} {a : Option Addr} {c : Nat} {l : List UInt8}
end
section
variable {w : World} {a : Option Addr} {c : Nat} {l : List UInt8}
end
section
variable {w : World} {a : Option Addr} {c : Nat} {l : List UInt8}
end
theorem tVals : slT Tryz.prog ty.L_api_Value = some (ty.api_Value, 3, 32, .agg #[.int .i64 0, .int .i64 0, .string ⟨#[]⟩]) := by kernel_rfl
/-! ### the values that are not null -/
section
variable {w : World} {a : Option Addr} {c : Nat} {l : List UInt8}
end
/-! ### spread -/
theorem vals_set (cur : List Val) {i : Nat} (hi : i < cur.length) (v : Val) :
    (((⟨valsL cur⟩ : Array Value).setIfInBounds (i * 3) (.int .i64 v.1)).setIfInBounds (i * 3 + 1) (.int .i64 v.2.1)).setIfInBounds (i * 3 + 2) (.string v.2.2) = ⟨valsL (cur.set i v)⟩ := by
  apply Array.ext'
  simp only [Array.toList_setIfInBounds]
  apply List.ext_getElem?
  intro j
  have hl := vals_len cur
  have hl2 := vals_len (cur.set i v)
  rw [List.length_set] at hl2
  by_cases hj : j < cur.length * 3
  · have hq : j / 3 < cur.length := by omega
    have e : j = j / 3 * 3 + j % 3 := by omega
    have g1 := vals_get cur (j / 3) (j % 3) hq (by omega)
    have g2 := vals_get (cur.set i v) (j / 3) (j % 3) (by rw [List.length_set]; exact hq) (by omega)
    rw [← e] at g1 g2
    rw [g2]
    simp only [List.getElem?_set, List.length_set, hl]
    by_cases hji : j / 3 = i
    · subst hji
      simp only [List.getElem_set_self]
      rcases (by omega : j % 3 = 0 ∨ j % 3 = 1 ∨ j % 3 = 2) with h | h | h
      · rw [h] at e ⊢
        rw [if_neg (by omega), if_neg (by omega), if_pos (by omega), if_pos (by omega)]; rfl
      · rw [h] at e ⊢
        rw [if_neg (by omega), if_pos (by omega), if_pos (by omega)]; rfl
      · rw [h] at e ⊢
        rw [if_pos (by omega), if_pos (by omega)]; rfl
    · rw [if_neg (by omega), if_neg (by omega), if_neg (by omega), g1]
      rw [List.getElem_set_ne (fun h => hji h.symm)]
  · rw [List.getElem?_eq_none (by simp only [List.length_set, hl]; omega), List.getElem?_eq_none (by rw [hl2]; omega)]
theorem vals_zero (n : Nat) : madeCells (Value.agg #[.int .i64 0, .int .i64 0, .string ⟨#[]⟩]).cells (n * 3) = ⟨valsL (List.replicate n (0, 0, E0))⟩ := by
  apply Array.ext'
  apply List.ext_getElem?
  intro j
  by_cases hj : j < n * 3
  · have g2 := vals_get (List.replicate n (0, 0, E0)) (j / 3) (j % 3) (by rw [List.length_replicate]; omega) (by omega)
    have e : j / 3 * 3 + j % 3 = j := by omega
    rw [e] at g2
    rw [g2, List.getElem_replicate]
    have hc : (Value.agg #[.int .i64 0, .int .i64 0, .string ⟨#[]⟩]).cells = #[.int .i64 0, .int .i64 0, .string ⟨#[]⟩] := rfl
    rw [hc]
    have hsz : (#[Value.int .i64 0, .int .i64 0, .string ⟨#[]⟩] : Array Value).size = 3 := rfl
    rcases (by omega : j % 3 = 0 ∨ j % 3 = 1 ∨ j % 3 = 2) with h | h | h <;> simp [madeCells, hj, h, valC]
  · rw [List.getElem?_eq_none (by rw [Array.length_toList, madeCells_size]; omega), List.getElem?_eq_none (by rw [vals_len, List.length_replicate]; omega)]
structure RdN (w w' : World) (a : Option Addr) (xs : List Value) : Prop where
  rd : Rd w' a xs
  new : ∀ k, rowB a = some k → w.heap.size ≤ k
section
variable {w : World} {a a2 : Option Addr} {c c2 : Nat} {bits : List Nat} {vs : List Val}
end
def colsI (a : Option Addr) (c : Nat) (cs : List Col) : It := It.row ty.api_Column 3 a cs.length c (colsL cs)
theorem tCols : slT Tryz.prog ty.L_api_Column = some (ty.api_Column, 3, 32, .agg #[.string ⟨#[]⟩, .int .i64 0, .bool false]) := by kernel_rfl
section
variable {w0 w : World} {H : List It} {a : Option Addr} {c : Nat} {cs : List Col}
theorem stRdC (S : ST w0 w H) (n : Nat) (hn : H[n]? = some (colsI a c cs)) : Rd w a (colsL cs) := S.rd n hn
theorem stAppC (S : ST w0 w H) (n : Nat) (hn : H[n]? = some (colsI a c cs)) {x : Col} {b : Nat} (hs : Rd w (some ⟨b, 0, none⟩) (colC x)) (hl : cs.length + 1 ≤ 1000000) {f : Value → World → Prop}
    (hf : ∀ a' c' w', ST w0 w' (H.set n (colsI a' c' (cs ++ [x]))) → f (.slice a' (cs ++ [x]).length c') w') :
    OPR Tryz.prog (Builtin.append_ #[ty.L_api_Column, ty.L_api_Column] ty.L_api_Column #[.slice a cs.length c, .slice (some ⟨b, 0, none⟩) 1 1]) f w := by
  refine S.app n hn tCols rfl (by omega) (by omega) hs (mm := 1) rfl (by simp [colC]; exact ⟨rfl, rfl, rfl⟩) (by omega) fun a' c' w' S' => ?_
  have e1 : (cs ++ [x]).length = cs.length + 1 := by simp
  have e2 : colsL cs ++ colC x = colsL (cs ++ [x]) := by simp [colsL]
  rw [e2] at S'
  have := hf a' c' w' (by unfold colsI; rw [e1]; exact S')
  rwa [e1] at this
end
def takeCols (l : List UInt8) (at_ : Nat) : Nat → Option (List Col × Nat)
  | 0 => some ([], at_)
  | n + 1 => match takeT l (at_ : Int) 24 with
    | none => none
    | some x => if l.length - x.2 < 2 ∨ 1 < (l.getD (x.2 + 1) 0).toNat then none else
      (takeCols l (x.2 + 2) n).map fun r => ((sof x.1, ((l.getD x.2 0).toNat : Int), (l.getD (x.2 + 1) 0).toNat == 1) :: r.1, r.2)
def takeSch (l : List UInt8) (at_ : Int) : Option (List Col × Nat) :=
  match takeN l at_ with
  | none => none
  | some x => if 16 < x.1 then none else match takeCols l x.2 x.1 with
    | none => none
    | some r => if rightCols r.1 then some r else none
theorem takeT_len {l : List UInt8} {at_ : Int} {most : Nat} {s : List UInt8} {k : Nat} (h : takeT l at_ most = some (s, k)) : s.length ≤ l.length := by
  unfold takeT at h
  split at h
  · split at h
    · cases h
    · simp only [Option.some.injEq, Prod.mk.injEq] at h
      obtain ⟨rfl, _⟩ := h
      rw [List.length_take, List.length_drop]
      omega
  · cases h
def SchTV (o : Option (List Col × Nat)) (w w' : World) (v : Value) : Prop :=
  match o with
  | none => v = .tuple #[.slice none 0 0, .int .i64 0, .int .i64 52] ∧ Below w.heap.size w w'
  | some r => ∃ a c, v = .tuple #[.slice a r.1.length c, .int .i64 (r.2 : Int), .int .i64 0] ∧ ST w w' [colsI a c r.1]
theorem SchTV.bad {o : Option (List Col × Nat)} {w w' : World} (h : o = none) (B : Below w.heap.size w w') : SchTV o w w' (.tuple #[.slice none 0 0, .int .i64 0, .int .i64 52]) := by
  subst h
  exact ⟨rfl, B⟩
section
variable {w : World} {a : Option Addr} {c : Nat} {l : List UInt8}
theorem col_bytes (hl : Rd w a (l.map byteV)) {k : Nat} (h : 2 ≤ l.length - k) : ∃ p, a = some p ∧ w.cell? (p.add (k * 1)) = some (.int .u8 ((l.getD k 0).toNat : Int)) ∧ w.cell? (p.add ((k + 1) * 1)) = some (.int .u8 ((l.getD (k + 1) 0).toNat : Int)) := by
  have h1 : k < l.length := by omega
  have h2 : k + 1 < l.length := by omega
  obtain ⟨p, rfl, c1⟩ := byte_at hl h1
  obtain ⟨p', hp, c2⟩ := byte_at hl h2
  cases hp
  exact ⟨p, rfl, by rw [c1]; simp [List.getD, h1], by rw [c2]; simp [List.getD, h2]⟩
theorem schema_Take_ok (hl : Rd w a (l.map byteV)) (hc : l.length ≤ c) (hs : l.length ≤ 140737488355328) (at_ : Int) :
    Calls Tryz.prog f.schema_Take #[.slice a l.length c, .int .i64 at_] w (Ret fun v w' => SchTV (takeSch l at_) w w' v) := by
  apply R.schema_Take_calls
  unfold R.schema_Take
  refine (wire_TakeNumber_ok hl hc (by omega) at_).mono ?_
  rintro _ w1 ⟨_, rfl, rfl, rfl⟩
  cases hx : takeN l at_ with
  | none => exact ⟨_, _, _, rfl, IFB_ne (fun _ => .bad (by simp [takeSch, hx]) (.refl _ _)) (fun h => by cases h)⟩
  | some x =>
    obtain ⟨n, at0⟩ := x
    obtain ⟨hn, _, _, hb2, _⟩ := takeN_bounds hx
    refine ⟨_, _, _, rfl, IFB_ne (fun h => absurd rfl h) (fun _ => IFB_dec (fun h => .bad ?_ (.refl _ _)) (fun h16 => ?_))⟩
    · have : 16 < n := by simp only at h; omega
      simp [takeSch, hx, this]
    have h16' : n ≤ 16 := by simp only at h16; omega
    have hT : takeSch l at_ = match takeCols l at0 n with
      | none => none
      | some r => if rightCols r.1 then some r else none := by
      have : ¬ 16 < n := by omega
      simp [takeSch, hx, this]
    rw [hT]
    refine ⟨fun s w2 => ∃ (i at1 : Nat) (cs : List Col) (ca : Option Addr) (cc : Nat), s = [.int .i64 (at1 : Int), .slice ca cs.length cc, .int .u64 (i : Int)] ∧ i ≤ n ∧ cs.length = i ∧ at1 ≤ l.length ∧ (∀ c ∈ cs, c.1.size ≤ 9223372036854775807) ∧
        takeCols l at0 n = ((takeCols l at1 (n - i)).map fun r => (cs ++ r.1, r.2)) ∧ ST w1 w2 [colsI ca cc cs], fun s _ => match s with
      | [_, _, .int _ i] => n - i.toNat
      | _ => 0, ⟨0, at0, [], none, 0, rfl, by omega, rfl, by omega, by simp, by simp, (ST.start w1).nil _ _⟩, ?_⟩
    rintro _ ca _ cc _ w2 ⟨i, at1, cs, _, _, hst, hi, hci, hat, hq, hrel, S⟩
    cases hst
    refine IFB_dec (fun hlt => ?_) (fun hge => ?_)
    · obtain ⟨m, hm⟩ : ∃ m, n - i = m + 1 := ⟨n - i - 1, by simp only at hlt; omega⟩
      rw [hm] at hrel
      have hl2 := hl.grown S.bel
      refine (wire_TakeText_any hl2 hc (by omega) (at1 : Int) 24).mono ?_
      rintro _ w3 ⟨_, rfl, rfl, rfl⟩
      cases ht : takeT l (at1 : Int) 24 with
      | none =>
        refine ⟨_, _, _, rfl, IFB_ne (fun _ => .bad ?_ S.bel) (fun h => by cases h)⟩
        rw [hrel]
        simp [takeCols, ht]
      | some x =>
        obtain ⟨nm, k⟩ := x
        have hk := takeT_le ht
        have hnm := takeT_len ht
        refine ⟨_, _, _, rfl, IFB_ne (fun h => absurd rfl h) (fun _ => ?_)⟩
        simp only
        rw [wrap_i64 (n := (l.length : Int) - (k : Int)) (by omega) (by omega), wrap_succ (k := k) (by omega)]
        refine IFB_dec (fun h2 => .bad ?_ S.bel) (fun h2 => ?_)
        · rw [hrel]
          have : l.length - k < 2 := by omega
          simp [takeCols, ht, this]
        obtain ⟨p, rfl, d0, d1⟩ := col_bytes hl2 (k := k) (by omega)
        refine ⟨⟨by omega, by omega⟩, _, by rw [Int.toNat_natCast]; exact d1, IFB_dec (fun h3 => .bad ?_ S.bel) (fun h3 => S.draw fun w4 B4 S => ?_)⟩
        · rw [hrel]
          have : l.length - k < 2 ∨ 1 < (l.getD (k + 1) 0).toNat := .inr (by omega)
          simp only [takeCols, ht, if_pos this, Option.map_none]
        have hl4 := hl2.grown B4
        obtain ⟨p', hp', d0, d1⟩ := col_bytes hl4 (k := k) (by omega)
        cases hp'
        have hby := (l.getD k 0).toNat_lt
        refine ⟨⟨by omega, by omega⟩, ⟨by omega, by omega⟩, _, by rw [Int.toNat_natCast]; exact d0, _, by rw [Int.toNat_natCast]; exact d1, ?_⟩
        rw [wrap_i64 (n := ((l.getD k 0).toNat : Int)) (by omega) (by omega), wrap_i64 (n := (k : Int) + 2) (by omega) (by omega), wrap_u64_id (n := (i : Int) + 1) (by omega) (by simp only at hlt; omega)]
        obtain ⟨x, hx⟩ : ∃ x : Col, x = (sof nm, ((l.getD k 0).toNat : Int), (l.getD (k + 1) 0).toNat == 1) := ⟨_, rfl⟩
        refine S.newB fun b21 w5 _ _ S => ?_
        have hsrc : Rd w5 (some ⟨b21, 0, none⟩) (colC x) := by
          have h := S.rdc 0 rfl
          have e : (((l.getD (k + 1) 0).toNat : Int) == 1) = ((l.getD (k + 1) 0).toNat == 1) := by rw [Bool.eq_iff_iff]; simp; omega
          rw [e] at h
          rw [hx]
          exact h
        refine stAppC S 1 rfl hsrc (by simp only at hlt; omega) fun a6 c6 w6 S => ⟨_, _, _, rfl, ?_⟩
        refine ⟨⟨i + 1, k + 2, cs ++ [x], a6, c6, ?_, by simp only at hlt; omega, by simp [hci], by omega, ?_, ?_, S.drop 1⟩, ?_⟩
        · simp only [List.length_append, List.length_cons, List.length_nil, List.cons.injEq, Value.int.injEq, true_and, and_true]
          constructor <;> omega
        · intro c hc
          rcases List.mem_append.1 hc with h | h
          · exact hq c h
          · rw [List.mem_singleton.1 h, hx]
            show (sof nm).size ≤ _
            rw [size_sof]
            omega
        · rw [hrel, show n - (i + 1) = m by omega]
          have h2' : ¬ (l.length - k < 2 ∨ 1 < (l.getD (k + 1) 0).toNat) := by omega
          simp only [takeCols, ht, h2', if_false, Option.map_map]
          congr 1
          funext r
          simp [hx]
        · show n - ((i : Int) + 1).toNat < n - (i : Int).toNat
          simp only at hlt
          omega
    · have : n - i = 0 := by simp only at hge; omega
      rw [this] at hrel
      simp only [takeCols, Option.map_some, List.append_nil] at hrel
      rw [hrel]
      refine (schema_Right_ok (stRdC S 0 rfl) (by omega) hq).mono ?_
      rintro _ w7 ⟨_, rfl, rfl, B7⟩
      refine ⟨_, rfl, IFB_not (IFB_of (fun hR => ?_) (fun hR => .bad (by simp [hR]) (S.grown B7).bel))⟩
      simp only [hR, if_true]
      exact ⟨ca, cc, rfl, S.grown B7⟩
theorem ref05_Take_ok (hl : Rd w a (l.map byteV)) (hc : l.length ≤ c) (hs : l.length ≤ 140737488355328) (at_ : Int) (hat0 : at_ ≤ 9223372036854775807) :
    Calls Tryz.prog f.ref05_Take #[.slice a l.length c, .int .i64 at_] w (Ret fun v w' => SchTV (takeSch l at_) w w' v) := by
  apply R.ref05_Take_calls
  unfold R.ref05_Take
  refine (ref_TakeNumber_ok hl (by omega) at_ hat0).mono ?_
  rintro _ w1 ⟨_, rfl, rfl, rfl⟩
  cases hx : takeN l at_ with
  | none => exact ⟨_, _, _, rfl, IFB_ne (fun _ => .bad (by simp [takeSch, hx]) (.refl _ _)) (fun h => by cases h)⟩
  | some x =>
    obtain ⟨n, at0⟩ := x
    obtain ⟨hn, _, _, hb2, _⟩ := takeN_bounds hx
    refine ⟨_, _, _, rfl, IFB_ne (fun h => absurd rfl h) (fun _ => IFB_dec (fun h => .bad ?_ (.refl _ _)) (fun h16 => ?_))⟩
    · have : 16 < n := by simp only at h; omega
      simp [takeSch, hx, this]
    have h16' : n ≤ 16 := by simp only at h16; omega
    have hT : takeSch l at_ = match takeCols l at0 n with
      | none => none
      | some r => if rightCols r.1 then some r else none := by
      have : ¬ 16 < n := by omega
      simp [takeSch, hx, this]
    rw [hT]
    simp only
    rw [wrap_i64 (n := (n : Int)) (by omega) (by omega)]
    refine ⟨fun s w2 => ∃ (i at1 : Nat) (cs : List Col) (ca : Option Addr) (cc : Nat), s = [.int .i64 (at1 : Int), .slice ca cs.length cc, .int .i64 (i : Int)] ∧ i ≤ n ∧ cs.length = i ∧ at1 ≤ l.length ∧ (∀ c ∈ cs, c.1.size ≤ 9223372036854775807) ∧
        takeCols l at0 n = ((takeCols l at1 (n - i)).map fun r => (cs ++ r.1, r.2)) ∧ ST w1 w2 [colsI ca cc cs], fun s _ => match s with
      | [_, _, .int _ i] => n - i.toNat
      | _ => 0, ⟨0, at0, [], none, 0, rfl, by omega, rfl, by omega, by simp, by simp, (ST.start w1).nil _ _⟩, ?_⟩
    rintro _ ca _ cc _ w2 ⟨i, at1, cs, _, _, hst, hi, hci, hat, hq, hrel, S⟩
    cases hst
    refine IFB_dec (fun hlt => ?_) (fun hge => ?_)
    · obtain ⟨m, hm⟩ : ∃ m, n - i = m + 1 := ⟨n - i - 1, by omega⟩
      rw [hm] at hrel
      have hl2 := hl.grown S.bel
      refine (ref_TakeText_ok hl2 hc (by omega) (at1 : Int) (by omega) 24).mono ?_
      rintro _ w3 ⟨_, rfl, rfl, rfl⟩
      cases ht : takeT l (at1 : Int) 24 with
      | none =>
        refine ⟨_, _, _, rfl, IFB_ne (fun _ => .bad ?_ S.bel) (fun h => by cases h)⟩
        rw [hrel]
        simp [takeCols, ht]
      | some x =>
        obtain ⟨nm, k⟩ := x
        have hk := takeT_le ht
        have hnm := takeT_len ht
        refine ⟨_, _, _, rfl, IFB_ne (fun h => absurd rfl h) (fun _ => ?_)⟩
        simp only
        rw [wrap_i64 (n := (l.length : Int) - (k : Int)) (by omega) (by omega), wrap_succ (k := k) (by omega)]
        refine IFB_dec (fun h2 => .bad ?_ S.bel) (fun h2 => ?_)
        · rw [hrel]
          have : l.length - k < 2 := by omega
          simp [takeCols, ht, this]
        obtain ⟨p, rfl, d0, d1⟩ := col_bytes hl2 (k := k) (by omega)
        refine ⟨⟨by omega, by omega⟩, _, by rw [Int.toNat_natCast]; exact d1, IFB_dec (fun h3 => .bad ?_ S.bel) (fun h3 => S.draw fun w4 B4 S => ?_)⟩
        · rw [hrel]
          have : l.length - k < 2 ∨ 1 < (l.getD (k + 1) 0).toNat := .inr (by omega)
          simp only [takeCols, ht, if_pos this, Option.map_none]
        have hl4 := hl2.grown B4
        obtain ⟨p', hp', d0, d1⟩ := col_bytes hl4 (k := k) (by omega)
        cases hp'
        have hby := (l.getD k 0).toNat_lt
        refine ⟨⟨by omega, by omega⟩, ⟨by omega, by omega⟩, _, by rw [Int.toNat_natCast]; exact d0, _, by rw [Int.toNat_natCast]; exact d1, ?_⟩
        rw [wrap_i64 (n := ((l.getD k 0).toNat : Int)) (by omega) (by omega), wrap_i64 (n := (k : Int) + 2) (by omega) (by omega), wrap_succ (k := i) (by omega)]
        obtain ⟨x, hx⟩ : ∃ x : Col, x = (sof nm, ((l.getD k 0).toNat : Int), (l.getD (k + 1) 0).toNat == 1) := ⟨_, rfl⟩
        refine S.newB fun b21 w5 _ _ S => ?_
        have hsrc : Rd w5 (some ⟨b21, 0, none⟩) (colC x) := by
          have h := S.rdc 0 rfl
          have e : (((l.getD (k + 1) 0).toNat : Int) == 1) = ((l.getD (k + 1) 0).toNat == 1) := by rw [Bool.eq_iff_iff]; simp; omega
          rw [e] at h
          rw [hx]
          exact h
        refine stAppC S 1 rfl hsrc (by omega) fun a6 c6 w6 S => ⟨_, _, _, rfl, ?_⟩
        refine ⟨⟨i + 1, k + 2, cs ++ [x], a6, c6, ?_, by omega, by simp [hci], by omega, ?_, ?_, S.drop 1⟩, ?_⟩
        · simp only [List.length_append, List.length_cons, List.length_nil, List.cons.injEq, Value.int.injEq, true_and, and_true]
          omega
        · intro c hc
          rcases List.mem_append.1 hc with h | h
          · exact hq c h
          · rw [List.mem_singleton.1 h, hx]
            show (sof nm).size ≤ _
            rw [size_sof]
            omega
        · rw [hrel, show n - (i + 1) = m by omega]
          have h2' : ¬ (l.length - k < 2 ∨ 1 < (l.getD (k + 1) 0).toNat) := by omega
          simp only [takeCols, ht, h2', if_false, Option.map_map]
          congr 1
          funext r
          simp [hx]
        · show n - ((i + 1 : Nat) : Int).toNat < n - (i : Int).toNat
          omega
    · have : n - i = 0 := by omega
      rw [this] at hrel
      simp only [takeCols, Option.map_some, List.append_nil] at hrel
      rw [hrel]
      refine (ref05_Right_ok (stRdC S 0 rfl) (by omega) hq).mono ?_
      rintro _ w7 ⟨_, rfl, rfl, rfl⟩
      refine ⟨_, rfl, IFB_not (IFB_of (fun hR => ?_) (fun hR => .bad (by simp [hR]) S.bel))⟩
      simp only [hR, if_true]
      exact ⟨ca, cc, rfl, S⟩
end
end Go.Proofs.YtpnaifmmggnimaaGreatDoor
namespace Go.Proofs.YtpnaifmmggnimaaGreatDoor
set_option maxRecDepth 100000
open Go.Dn Go.Proofs
open Go.RowKit (Below)
set_option linter.unusedVariables false
/-! ### the order -/
def compI (x y : Int) : Int := if x < y then -1 else if x > y then 1 else 0
def cmpV (a b : Val) : Int :=
  if compI a.1 b.1 ≠ 0 then compI a.1 b.1 else if compI a.2.1 b.2.1 ≠ 0 then compI a.2.1 b.2.1 else Lib.compareBytes (bl a.2.2) (bl b.2.2)
theorem cmp_isNaN64 (w : World) (x : Int) : Calls Tryz.prog f.cmp_isNaN_int64 #[.int .i64 x] w (Ret fun r w' => r = .bool false ∧ w' = w) := by
  apply R.cmp_isNaN_int64_calls
  exact ⟨by simp, rfl⟩
theorem cmp_Compare64 (w : World) (x y : Int) : Calls Tryz.prog f.cmp_Compare_int64 #[.int .i64 x, .int .i64 y] w (Ret fun r w' => r = .int .i64 (compI x y) ∧ w' = w) := by
  apply R.cmp_Compare_int64_calls
  unfold R.cmp_Compare_int64
  refine (cmp_isNaN64 w x).mono ?_
  rintro _ w ⟨_, rfl, rfl, rfl⟩
  refine ⟨_, rfl, (cmp_isNaN64 w y).mono ?_⟩
  rintro _ w ⟨_, rfl, rfl, rfl⟩
  refine ⟨_, rfl, IFB_false (IFB_false (IFB_dec (fun h => ⟨?_, rfl⟩) (fun h => IFB_dec (fun h2 => ⟨?_, rfl⟩) (fun h2 => ⟨?_, rfl⟩))))⟩
  · simp [compI, h]
  · simp [compI, h, h2]
  · simp [compI, h, h2]
theorem cmp_isNaNI (w : World) (x : Int) : Calls Tryz.prog f.cmp_isNaN_int #[.int .i64 x] w (Ret fun r w' => r = .bool false ∧ w' = w) := by
  apply R.cmp_isNaN_int_calls
  unfold R.cmp_isNaN_int
  exact ⟨by simp, rfl⟩
theorem cmpInt (x y : Int) (w : World) : Calls Tryz.prog f.cmp_Compare_int #[.int .i64 x, .int .i64 y] w fun e w' => e = .returned (.int .i64 (compI x y)) ∧ w' = w := by
  have h : Calls Tryz.prog f.cmp_Compare_int #[.int .i64 x, .int .i64 y] w (Ret fun r w' => r = .int .i64 (compI x y) ∧ w' = w) := by
    apply R.cmp_Compare_int_calls
    unfold R.cmp_Compare_int
    refine (cmp_isNaNI w x).mono ?_
    rintro _ w ⟨_, rfl, rfl, rfl⟩
    refine ⟨_, rfl, (cmp_isNaNI w y).mono ?_⟩
    rintro _ w ⟨_, rfl, rfl, rfl⟩
    refine ⟨_, rfl, IFB_false (IFB_false (IFB_dec (fun h => ⟨?_, rfl⟩) (fun h => IFB_dec (fun h2 => ⟨?_, rfl⟩) (fun h2 => ⟨?_, rfl⟩))))⟩
    · simp [compI, h]
    · simp [compI, h, h2]
    · simp [compI, h, h2]
  refine h.mono ?_
  rintro _ _ ⟨_, rfl, rfl, rfl⟩
  exact ⟨rfl, rfl⟩
theorem cmp_Or3 {w : World} {b : Nat} {t : TypeId} (x y z : Int) (hb : w.heap[b]? = some (.cells #[.int .i64 x, .int .i64 y, .int .i64 z] t (0, 0))) :
    Calls Tryz.prog f.cmp_Or_int #[.slice (some ⟨b, 0, none⟩) 3 3] w (Ret fun r w' => r = .int .i64 (if x ≠ 0 then x else if y ≠ 0 then y else z) ∧ w' = w) := by
  apply R.cmp_Or_int_calls
  unfold R.cmp_Or_int
  have cell : ∀ (k : Nat) (v : Value), [Value.int .i64 x, .int .i64 y, .int .i64 z][k]? = some v → w.cell? ((⟨b, 0, none⟩ : Addr).add ((k : Int).toNat * 1)) = some v := by
    intro k v hv
    rw [Int.toNat_natCast, Nat.mul_one, addr_add_blk, Nat.zero_add]
    simp only [World.cell?, hb]
    simpa using hv
  refine ⟨fun s w1 => w1 = w ∧ (s = [.int .i64 ((0 : Nat) : Int)] ∨ (s = [.int .i64 ((1 : Nat) : Int)] ∧ x = 0) ∨ (s = [.int .i64 ((2 : Nat) : Int)] ∧ x = 0 ∧ y = 0) ∨ (s = [.int .i64 ((3 : Nat) : Int)] ∧ x = 0 ∧ y = 0 ∧ z = 0)),
    fun s _ => match s with
      | [.int _ i] => 3 - i.toNat
      | _ => 0, ⟨rfl, .inl rfl⟩, ?_⟩
  rintro i w1 ⟨rfl, hs⟩
  rcases hs with hs | ⟨hs, h0⟩ | ⟨hs, h0, h1⟩ | ⟨hs, h0, h1, h2⟩
  · cases hs
    refine IFB_true ⟨by decide, _, cell 0 _ rfl, IFB_ne (fun h => ⟨by rw [if_pos h], rfl⟩) (fun h => ?_)⟩
    rw [wrap_succ (by omega)]
    exact ⟨⟨rfl, .inr (.inl ⟨rfl, h⟩)⟩, show 2 < 3 by decide⟩
  · cases hs
    refine IFB_true ⟨by decide, _, cell 1 _ rfl, IFB_ne (fun h => ⟨by rw [if_neg (by omega), if_pos h], rfl⟩) (fun h => ?_)⟩
    rw [wrap_succ (by omega)]
    exact ⟨⟨rfl, .inr (.inr (.inl ⟨rfl, h0, h⟩))⟩, show 1 < 2 by decide⟩
  · cases hs
    refine IFB_true ⟨by decide, _, cell 2 _ rfl, IFB_ne (fun h => ⟨by rw [if_neg (by omega), if_neg (by omega)], rfl⟩) (fun h => ?_)⟩
    rw [wrap_succ (by omega)]
    exact ⟨⟨rfl, .inr (.inr (.inr ⟨rfl, h0, h1, h⟩))⟩, show 0 < 1 by decide⟩
  · cases hs
    exact IFB_false ⟨by rw [if_neg (by omega), if_neg (by omega), h2], rfl⟩
theorem value_Compare_ok (w : World) (a b : Val) : Calls Tryz.prog f.value_Compare #[valV a, valV b] w (Ret fun r w' => r = .int .i64 (cmpV a b) ∧ Below w.heap.size w w') := by
  apply R.value_Compare_calls
  unfold R.value_Compare
  refine (SH.start (fun _ => False) w).newB fun b7 w1 hb7 B1 S1 => S1.newB fun b8 w2 hb8 B2 S2 => S2.drawB fun w3 B3 S3 => ?_
  refine ⟨_, S3.cell 1 rfl rfl, _, S3.cell 0 rfl rfl, _, S3.cell 1 rfl rfl, _, S3.cell 0 rfl rfl, _, S3.cell 1 rfl rfl, _, S3.cell 0 rfl rfl, (cmpInt _ _ w3).mono ?_⟩
  rintro _ w3 ⟨rfl, rfl⟩
  refine ⟨_, rfl, S3.cell 0 rfl rfl, S3.cell 1 rfl rfl, S3.cell 0 rfl rfl, S3.cell 1 rfl rfl, (cmp_Compare64 w3 _ _).mono ?_⟩
  rintro _ w3 ⟨_, rfl, rfl, rfl⟩
  refine ⟨_, rfl, S3.cell 0 rfl rfl, S3.cell 1 rfl rfl, (Tryz.strings_Compare _ _ w3).mono ?_⟩
  rintro _ w3 ⟨rfl, rfl⟩
  refine ⟨_, rfl, S3.newB fun b21 w7 hb21 B7 S7 => (cmp_Or3 _ _ _ (S7.get 0 rfl)).mono ?_⟩
  rintro _ w7 ⟨_, rfl, rfl, rfl⟩
  exact ⟨_, rfl, rfl, S7.below⟩
end Go.Proofs.YtpnaifmmggnimaaGreatDoor
namespace Go.Dn
end Go.Dn
namespace Go.Proofs.YtpnaifmmggnimaaGreatDoor
open Go.Dn Go.Proofs
open Go.RowKit (Below)
set_option linter.unusedVariables false
set_option maxRecDepth 20000
/-! ### orders -/
structure IsOrd {α : Type} (f : α → α → Int) : Prop where
  neg : ∀ x y, f y x = - f x y
  zero : ∀ x y, f x y = 0 ↔ x = y
  trans : ∀ x y z, f x y ≤ 0 → f y z ≤ 0 → f x z ≤ 0
theorem IsOrd.strict {α : Type} {f : α → α → Int} (h : IsOrd f) (x y z : α) (h1 : f x y < 0) (h2 : f y z ≤ 0) : f x z < 0 := by
  have h3 := h.trans x y z (by omega) h2
  rcases Int.lt_or_eq_of_le h3 with h4 | h4
  · exact h4
  · have := (h.zero x z).1 h4
    subst this
    have := h.neg x y
    omega
theorem ord_int : IsOrd compI := by
  refine ⟨fun x y => ?_, fun x y => ?_, fun x y z => ?_⟩
  · unfold compI
    split <;> split <;> (try split) <;> (try split) <;> omega
  · unfold compI
    split
    · constructor <;> intro h <;> omega
    · split
      · constructor <;> intro h <;> omega
      · constructor <;> intro h <;> omega
  · unfold compI
    intro h1 h2
    split at h1 <;> split at h2 <;> split <;> (try split at h1) <;> (try split at h2) <;> (try split) <;> omega
theorem cb_neg : ∀ x y : List UInt8, Lib.compareBytes y x = - Lib.compareBytes x y
  | [], [] => rfl
  | [], _ :: _ => rfl
  | _ :: _, [] => rfl
  | a :: x, b :: y => by
    simp only [Lib.compareBytes]
    by_cases h1 : a < b
    · have h2 : ¬ b < a := fun h => absurd (UInt8.lt_trans h1 h) (UInt8.lt_irrefl a)
      simp [h1, h2]
    · by_cases h2 : b < a
      · simp [h1, h2]
      · simp [h1, h2, cb_neg x y]
theorem u8_eq {a b : UInt8} (h1 : ¬ a < b) (h2 : ¬ b < a) : a = b := UInt8.le_antisymm (UInt8.not_lt.1 h2) (UInt8.not_lt.1 h1)
theorem cb_zero : ∀ x y : List UInt8, Lib.compareBytes x y = 0 ↔ x = y
  | [], [] => by simp [Lib.compareBytes]
  | [], _ :: _ => by simp [Lib.compareBytes]
  | _ :: _, [] => by simp [Lib.compareBytes]
  | a :: x, b :: y => by
    simp only [Lib.compareBytes]
    by_cases h1 : a < b
    · rw [if_pos h1]
      constructor
      · intro h; cases h
      · intro h; cases h; exact absurd h1 (UInt8.lt_irrefl a)
    · rw [if_neg h1]
      by_cases h2 : b < a
      · rw [if_pos h2]
        constructor
        · intro h; cases h
        · intro h; cases h; exact absurd h2 (UInt8.lt_irrefl a)
      · rw [if_neg h2, cb_zero x y, u8_eq h1 h2]
        simp
theorem cb_trans : ∀ x y z : List UInt8, Lib.compareBytes x y ≤ 0 → Lib.compareBytes y z ≤ 0 → Lib.compareBytes x z ≤ 0
  | [], _, [], _, _ => by simp [Lib.compareBytes]
  | [], _, _ :: _, _, _ => by simp [Lib.compareBytes]
  | _ :: _, [], _, h, _ => by simp [Lib.compareBytes] at h
  | _ :: _, _ :: _, [], _, h => by simp [Lib.compareBytes] at h
  | a :: x, b :: y, c :: z, h1, h2 => by
    simp only [Lib.compareBytes] at h1 h2 ⊢
    by_cases e1 : a < b
    · by_cases e2 : b < c
      · rw [if_pos (UInt8.lt_trans e1 e2)]; decide
      · rw [if_neg e2] at h2
        by_cases e3 : c < b
        · rw [if_pos e3] at h2; omega
        · have := u8_eq e2 e3; subst this
          rw [if_pos e1]; decide
    · rw [if_neg e1] at h1
      by_cases e2 : b < a
      · rw [if_pos e2] at h1; omega
      · have := u8_eq e1 e2
        subst this
        rw [if_neg e2] at h1
        by_cases e3 : a < c
        · rw [if_pos e3]; decide
        · rw [if_neg e3] at h2 ⊢
          by_cases e4 : c < a
          · rw [if_pos e4] at h2; omega
          · rw [if_neg e4] at h2 ⊢
            exact cb_trans x y z h1 h2
def lexF {α β : Type} (f : α → α → Int) (g : β → β → Int) (x y : α × β) : Int := if f x.1 y.1 ≠ 0 then f x.1 y.1 else g x.2 y.2
theorem IsOrd.lex {α β : Type} {f : α → α → Int} {g : β → β → Int} (hf : IsOrd f) (hg : IsOrd g) : IsOrd (lexF f g) := by
  refine ⟨fun x y => ?_, fun x y => ?_, fun x y z => ?_⟩
  · have h1 := hf.neg x.1 y.1
    have h2 := hg.neg x.2 y.2
    unfold lexF
    split <;> split <;> omega
  · have h1 := hf.zero x.1 y.1
    have h2 := hg.zero x.2 y.2
    unfold lexF
    split
    · rename_i h
      constructor
      · intro e; exact absurd e h
      · intro e; rw [e] at h; exact absurd ((hf.zero _ _).2 rfl) h
    · rename_i h
      have e1 : x.1 = y.1 := h1.1 (by omega)
      rw [h2]
      constructor
      · intro e; exact Prod.ext e1 e
      · intro e; rw [e]
  · unfold lexF
    intro a b
    by_cases h1 : f x.1 y.1 = 0
    · have e1 := (hf.zero _ _).1 h1
      rw [if_neg (by omega)] at a
      rw [← e1] at b
      by_cases h2 : f x.1 z.1 = 0
      · rw [if_neg (by omega)] at b ⊢
        exact hg.trans _ _ _ a b
      · rw [if_pos h2] at b ⊢
        exact b
    · rw [if_pos h1] at a
      by_cases h2 : f y.1 z.1 = 0
      · have e2 := (hf.zero _ _).1 h2
        rw [← e2, if_pos h1]
        exact a
      · rw [if_pos h2] at b
        have := hf.strict x.1 y.1 z.1 (by omega) b
        rw [if_pos (by omega)]
        omega
def cmpT (a b : Val) : Int := lexF compI (lexF compI (fun s t => Lib.compareBytes (bl s) (bl t))) a b
theorem cmpV_eq (a b : Val) : cmpV a b = cmpT a b := by
  simp only [cmpV, cmpT, lexF]
theorem ord_str : IsOrd (fun s t : ByteArray => Lib.compareBytes (bl s) (bl t)) :=
  ⟨fun x y => cb_neg _ _, fun x y => (cb_zero _ _).trans ⟨fun h => bl_inj h, fun h => by rw [h]⟩, fun x y z => cb_trans _ _ _⟩
theorem ord_val : IsOrd cmpV := by
  have : cmpV = cmpT := by funext a b; exact cmpV_eq a b
  rw [this]
  exact ord_int.lex (ord_int.lex ord_str)
/-! ### the laws -/
end Go.Proofs.YtpnaifmmggnimaaGreatDoor
namespace Go.Dn
open Go.RowKit (Below)
section
variable {F : Nat → Prop} {w0 w : World} {H : List Ent}
theorem SH.chg (S : SH F w0 w H) (n : Nat) {b : Nat} {cs cs' : Array Value} {t : TypeId} (hn : H[n]? = some (b, cs, t)) {i : Nat} {v : Value} {k : World → Prop} (hi : i < cs.size) (hc : cs.setIfInBounds i v = cs')
    (hk : ∀ w', Keeps (· = b) w w' → SH F w0 w' (H.set n (b, cs', t)) → k w') : STO ⟨b, i, none⟩ v k w := by
  subst hc
  exact S.stoK n hn hi hk
theorem SH.sto7 (S : SH F w0 w H) (n : Nat) {b : Nat} {x0 x1 x2 x3 x4 x5 x6 v0 v1 v2 v3 v4 v5 v6 : Value} {t : TypeId} (hn : H[n]? = some (b, #[x0, x1, x2, x3, x4, x5, x6], t)) {k : World → Prop}
    (hk : ∀ w', Keeps (· = b) w w' → SH F w0 w' (H.set n (b, #[v0, v1, v2, v3, v4, v5, v6], t)) → k w') :
    STO ⟨b, 0, none⟩ v0 (fun w => STO ⟨b, 1, none⟩ v1 (fun w => STO ⟨b, 2, none⟩ v2 (fun w => STO ⟨b, 3, none⟩ v3 (fun w => STO ⟨b, 4, none⟩ v4 (fun w => STO ⟨b, 5, none⟩ v5 (fun w => STO ⟨b, 6, none⟩ v6 k w) w) w) w) w) w) w := by
  have hlt := (List.getElem?_eq_some_iff.1 hn).1
  have tr : ∀ {a c d : World}, Keeps (· = b) a c → Keeps (· = b) c d → Keeps (· = b) a d := fun h h' => h.trans h' (fun _ _ h => h)
  refine S.chg n hn (cs' := #[v0, x1, x2, x3, x4, x5, x6]) (by simp) rfl fun w1 K1 S1 => ?_
  refine S1.chg n (List.getElem?_set_self hlt) (cs' := #[v0, v1, x2, x3, x4, x5, x6]) (by simp) rfl fun w2 K2 S2 => ?_
  rw [List.set_set] at S2
  refine S2.chg n (List.getElem?_set_self hlt) (cs' := #[v0, v1, v2, x3, x4, x5, x6]) (by simp) rfl fun w3 K3 S3 => ?_
  rw [List.set_set] at S3
  refine S3.chg n (List.getElem?_set_self hlt) (cs' := #[v0, v1, v2, v3, x4, x5, x6]) (by simp) rfl fun w4 K4 S4 => ?_
  rw [List.set_set] at S4
  refine S4.chg n (List.getElem?_set_self hlt) (cs' := #[v0, v1, v2, v3, v4, x5, x6]) (by simp) rfl fun w5 K5 S5 => ?_
  rw [List.set_set] at S5
  refine S5.chg n (List.getElem?_set_self hlt) (cs' := #[v0, v1, v2, v3, v4, v5, x6]) (by simp) rfl fun w6 K6 S6 => ?_
  rw [List.set_set] at S6
  refine S6.chg n (List.getElem?_set_self hlt) (cs' := #[v0, v1, v2, v3, v4, v5, v6]) (by simp) rfl fun w7 K7 S7 => ?_
  rw [List.set_set] at S7
  exact hk w7 (tr (tr (tr (tr (tr (tr K1 K2) K3) K4) K5) K6) K7) S7
theorem SH.stoMin (S : SH F w0 w H) (n : Nat) {b : Nat} {x0 x1 x2 x3 x4 x5 x6 v1 v2 v3 : Value} {t : TypeId} (hn : H[n]? = some (b, #[x0, x1, x2, x3, x4, x5, x6], t)) {k : World → Prop}
    (hk : ∀ w', Keeps (· = b) w w' → SH F w0 w' (H.set n (b, #[x0, v1, v2, v3, x4, x5, x6], t)) → k w') : STO ⟨b, 1, none⟩ v1 (fun w => STO ⟨b, 2, none⟩ v2 (fun w => STO ⟨b, 3, none⟩ v3 k w) w) w := by
  have hlt := (List.getElem?_eq_some_iff.1 hn).1
  have tr : ∀ {a c d : World}, Keeps (· = b) a c → Keeps (· = b) c d → Keeps (· = b) a d := fun h h' => h.trans h' (fun _ _ h => h)
  refine S.chg n hn (cs' := #[x0, v1, x2, x3, x4, x5, x6]) (by simp) rfl fun w1 K1 S1 => ?_
  refine S1.chg n (List.getElem?_set_self hlt) (cs' := #[x0, v1, v2, x3, x4, x5, x6]) (by simp) rfl fun w2 K2 S2 => ?_
  rw [List.set_set] at S2
  refine S2.chg n (List.getElem?_set_self hlt) (cs' := #[x0, v1, v2, v3, x4, x5, x6]) (by simp) rfl fun w3 K3 S3 => ?_
  rw [List.set_set] at S3
  exact hk w3 (tr (tr K1 K2) K3) S3
theorem SH.stoMax (S : SH F w0 w H) (n : Nat) {b : Nat} {x0 x1 x2 x3 x4 x5 x6 v4 v5 v6 : Value} {t : TypeId} (hn : H[n]? = some (b, #[x0, x1, x2, x3, x4, x5, x6], t)) {k : World → Prop}
    (hk : ∀ w', Keeps (· = b) w w' → SH F w0 w' (H.set n (b, #[x0, x1, x2, x3, v4, v5, v6], t)) → k w') : STO ⟨b, 4, none⟩ v4 (fun w => STO ⟨b, 5, none⟩ v5 (fun w => STO ⟨b, 6, none⟩ v6 k w) w) w := by
  have hlt := (List.getElem?_eq_some_iff.1 hn).1
  have tr : ∀ {a c d : World}, Keeps (· = b) a c → Keeps (· = b) c d → Keeps (· = b) a d := fun h h' => h.trans h' (fun _ _ h => h)
  refine S.chg n hn (cs' := #[x0, x1, x2, x3, v4, x5, x6]) (by simp) rfl fun w1 K1 S1 => ?_
  refine S1.chg n (List.getElem?_set_self hlt) (cs' := #[x0, x1, x2, x3, v4, v5, x6]) (by simp) rfl fun w2 K2 S2 => ?_
  rw [List.set_set] at S2
  refine S2.chg n (List.getElem?_set_self hlt) (cs' := #[x0, x1, x2, x3, v4, v5, v6]) (by simp) rfl fun w3 K3 S3 => ?_
  rw [List.set_set] at S3
  exact hk w3 (tr (tr K1 K2) K3) S3
end
end Go.Dn
namespace Go.Proofs.YtpnaifmmggnimaaGreatDoor
open Go.Dn Go.Proofs
open Go.RowKit (Below)
set_option linter.unusedVariables false
set_option maxRecDepth 20000
abbrev Z0 : Val := (0, 0, E0)
def zstep (z : Option (Val × Val)) (v : Val) : Option (Val × Val) :=
  if v.1 = 0 then z else match z with
  | none => some (v, v)
  | some p => some (if cmpV v p.1 < 0 then v else p.1, if 0 < cmpV v p.2 then v else p.2)
def zoneS (ls : List Val) : Option (Val × Val) := ls.foldl zstep none
def zmm (ls : List Val) : Val × Val := (zoneS ls).getD (Z0, Z0)
def zC (n : Int) (p : Val × Val) : Array Value := #[.int .i64 n, .int .i64 p.1.1, .int .i64 p.1.2.1, .string p.1.2.2, .int .i64 p.2.1, .int .i64 p.2.2.1, .string p.2.2.2]
def zV (n : Int) (p : Val × Val) (e : Int) : Value := .tuple #[.agg (zC n p), .int .i64 e]
theorem zoneS_take {ls : List Val} {i : Nat} (hi : i < ls.length) : zoneS (ls.take (i + 1)) = zstep (zoneS (ls.take i)) ls[i] := by
  unfold zoneS
  rw [List.take_succ_eq_append_getElem hi, List.foldl_append]
  rfl
theorem zone_none {ls : List Val} : ∀ i, i ≤ ls.length → ((zoneS (ls.take i)).isNone = true ↔ (fullL (ls.take i)).length = 0)
  | 0, _ => by simp [zoneS, fullL]
  | i + 1, h => by
    have ih := zone_none (ls := ls) i (by omega)
    have hi : i < ls.length := by omega
    rw [zoneS_take hi, fullL_take hi]
    unfold zstep
    by_cases h0 : ls[i].1 = 0
    · rw [if_pos h0, if_pos h0, List.append_nil]
      exact ih
    · rw [if_neg h0, if_neg h0]
      cases zoneS (ls.take i) <;> simp
theorem zmm_step {ls : List Val} {i : Nat} (hi : i < ls.length) (h0 : ls[i].1 ≠ 0) : zmm (ls.take (i + 1)) = (if (fullL (ls.take i)).length = 0 ∨ cmpV ls[i] (zmm (ls.take i)).1 < 0 then ls[i] else (zmm (ls.take i)).1, if (fullL (ls.take i)).length = 0 ∨ 0 < cmpV ls[i] (zmm (ls.take i)).2 then ls[i] else (zmm (ls.take i)).2) := by
  have hn := zone_none (ls := ls) i (by omega)
  unfold zmm
  rw [zoneS_take hi]
  unfold zstep
  rw [if_neg h0]
  cases hz : zoneS (ls.take i) with
  | none =>
    rw [hz] at hn
    have : (fullL (ls.take i)).length = 0 := hn.1 rfl
    simp [this]
  | some p =>
    rw [hz] at hn
    have : ¬ (fullL (ls.take i)).length = 0 := fun h => by simpa using hn.2 h
    simp [this]
theorem zmm_skip {ls : List Val} {i : Nat} (hi : i < ls.length) (h0 : ls[i].1 = 0) : zmm (ls.take (i + 1)) = zmm (ls.take i) := by
  unfold zmm
  rw [zoneS_take hi]
  unfold zstep
  rw [if_pos h0]
theorem nulls_full (ls : List Val) : nullsN ls + (fullL ls).length = ls.length := by
  induction ls with
  | nil => rfl
  | cons v ls ih =>
    unfold nullsN fullL at ih ⊢
    by_cases h : v.1 = 0
    · simp [h]; omega
    · simp [h]; omega
def zoneOk (ls : List Val) : Prop := ls.length ≤ 1024 ∧ ∀ v ∈ ls, rightB v = true
def ZoneV (ls : List Val) (r : Value) : Prop := (zoneOk ls ∧ r = zV (nullsN ls : Int) (zmm ls) 0) ∨ (¬ zoneOk ls ∧ r = zV 0 (Z0, Z0) 2)
section
variable {w : World} {a : Option Addr} {c : Nat} {ls : List Val}
theorem zone_bad {H : List Ent} {wx : World} {b2 n : Nat} {x : Int} {p : Val × Val} (S : SH (fun _ => False) w wx H) (hn : H[n]? = some (b2, zC x p, ty.api_Zone)) (hno : ¬ zoneOk ls) :
    STO ⟨b2, 0, none⟩ (.int .i64 0) (fun w2 => STO ⟨b2, 1, none⟩ (.int .i64 0) (fun w3 => STO ⟨b2, 2, none⟩ (.int .i64 0) (fun w4 => STO ⟨b2, 3, none⟩ (.string ⟨#[]⟩) (fun w5 => STO ⟨b2, 4, none⟩ (.int .i64 0) (fun w6 => STO ⟨b2, 5, none⟩ (.int .i64 0) (fun w7 => STO ⟨b2, 6, none⟩ (.string ⟨#[]⟩) (fun w8 =>
      ∃ r0 : Int, w8.cell? ⟨b2, 0, none⟩ = some (.int .i64 r0) ∧ ∃ r1 : Int, w8.cell? ⟨b2, 1, none⟩ = some (.int .i64 r1) ∧ ∃ r2 : Int, w8.cell? ⟨b2, 2, none⟩ = some (.int .i64 r2) ∧ ∃ r3 : ByteArray, w8.cell? ⟨b2, 3, none⟩ = some (.string r3) ∧ ∃ r4 : Int, w8.cell? ⟨b2, 4, none⟩ = some (.int .i64 r4) ∧ ∃ r5 : Int, w8.cell? ⟨b2, 5, none⟩ = some (.int .i64 r5) ∧ ∃ r6 : ByteArray, w8.cell? ⟨b2, 6, none⟩ = some (.string r6) ∧
      (fun v w' => ZoneV ls v ∧ Below w.heap.size w w') (.tuple #[.agg #[.int .i64 r0, .int .i64 r1, .int .i64 r2, .string r3, .int .i64 r4, .int .i64 r5, .string r6], .int .i64 2]) w8) w7) w6) w5) w4) w3) w2) wx := by
  have hlt := (List.getElem?_eq_some_iff.1 hn).1
  refine S.sto7 n hn fun w8 K8 S8 => ?_
  have hn8 := List.getElem?_set_self (l := H) (a := (b2, (#[Value.int .i64 0, .int .i64 0, .int .i64 0, .string ⟨#[]⟩, .int .i64 0, .int .i64 0, .string ⟨#[]⟩] : Array Value), ty.api_Zone)) hlt
  exact ⟨_, S8.cell n hn8 rfl, _, S8.cell n hn8 rfl, _, S8.cell n hn8 rfl, _, S8.cell n hn8 rfl, _, S8.cell n hn8 rfl, _, S8.cell n hn8 rfl, _, S8.cell n hn8 rfl, .inr ⟨hno, rfl⟩, S8.below⟩
end
end Go.Proofs.YtpnaifmmggnimaaGreatDoor
namespace Go.Proofs.YtpnaifmmggnimaaGreatDoor
set_option maxRecDepth 100000
open Go.Dn Go.Proofs
open Go.RowKit (Below)
set_option linter.unusedVariables false
theorem if_left {α : Type} {p q : Prop} [Decidable p] [Decidable (p ∨ q)] (h : p) (x y : α) : (if p ∨ q then x else y) = x := if_pos (.inl h)
section
variable {w : World} {a : Option Addr} {c : Nat} {ls : List Val}
theorem chunk_Zone_ok (hl : Rd w a (valsL ls)) : Calls Tryz.prog f.chunk_Zone #[.slice a ls.length c] w (Ret fun v w' => ZoneV ls v ∧ Below w.heap.size w w') := by
  apply R.chunk_Zone_calls
  unfold R.chunk_Zone
  refine (SH.start (fun _ => False) w).newB fun b2 w1 hb2 B1 S1 => IFB_dec (fun hbig => ?_) (fun hle => ?_)
  · exact zone_bad (p := (Z0, Z0)) (x := 0) S1 (n := 0) rfl (fun h => by have := h.1; omega)
  have hlen : ls.length ≤ 1024 := by omega
  refine S1.newB fun b10 w9 hb10 B9 S9 => S9.sto7 0 rfl fun w16 K16 S16 => ?_
  refine ⟨fun s w17 => ∃ i : Nat, i ≤ ls.length ∧ s = [.int .i64 (i : Int)] ∧ SH (fun _ => False) w w17 [(b10, zC 0 (Z0, Z0), ty.api_Zone), (b2, zC 0 (Z0, Z0), ty.api_Zone)] ∧ ∀ v ∈ ls.take i, rightB v = true, fun s _ => match s with
      | [.int _ i] => ls.length - i.toNat
      | _ => 0, ⟨0, by omega, rfl, S16, by simp⟩, ?_⟩
  rintro _ w17 ⟨i, hi, hst, S17, hall⟩
  cases hst
  refine IFB_dec (fun hlt => ⟨⟨by omega, hlt⟩, ?_⟩) (fun hge => ?_)
  · have hil : i < ls.length := by omega
    obtain ⟨p, rfl, c0, c1, c2⟩ := val_at (hl.grown S17.below) hil
    refine ⟨_, by rw [Int.toNat_natCast]; exact c0, _, by rw [Int.toNat_natCast]; exact c1, _, by rw [Int.toNat_natCast]; exact c2, S17.lit3 fun b17 w21 hb17 B21 S21 => ?_⟩
    refine ⟨_, S21.cell 0 rfl rfl, _, S21.cell 0 rfl rfl, _, S21.cell 0 rfl rfl, (value_Right_ok w21 ls[i]).mono ?_⟩
    rintro _ w22 ⟨_, rfl, rfl, B22⟩
    have S22 := S21.grown B22
    refine ⟨_, rfl, IFB_not (IFB_of (fun hr => ?_) (fun hr => ?_))⟩
    · rw [wrap_succ (by omega)]
      refine ⟨⟨i + 1, by omega, rfl, S22.drop 1, fun v hv => ?_⟩, ?_⟩
      · rw [List.take_succ_eq_append_getElem hil] at hv
        rcases List.mem_append.1 hv with h | h
        · exact hall v h
        · rw [List.mem_singleton.1 h]; exact hr
      · simp only [Int.toNat_natCast]
        omega
    · exact zone_bad (p := (Z0, Z0)) (x := 0) S22 (n := 2) rfl (fun h => by have := h.2 _ (List.getElem_mem hil); rw [this] at hr; cases hr)
  have hie : ls.take i = ls := List.take_of_length_le (by omega)
  rw [hie] at hall
  have hok : zoneOk ls := ⟨hlen, hall⟩
  refine S17.newB fun b30 w30 hb30 B30 S30 => S30.chg 0 rfl (cs' := #[.int .i64 0]) (show 0 < 1 by decide) rfl fun w31 K31 S31 => chunk_full_ok.mono ?_
  rintro _ w32 ⟨_, rfl, bI, rfl, P32⟩
  have S32 : SH (fun _ => False) w w32 [(b30, #[.int .i64 0], ty.int), (b10, zC 0 (Z0, Z0), ty.api_Zone), (b2, zC 0 (Z0, Z0), ty.api_Zone)] := S31.grown P32.below
  refine ⟨_, _, _, rfl, by kernel_rfl, fun rr hst hpe hy => ?_⟩
  obtain ⟨W1, hW1⟩ : ∃ W1, W1 = (w32.alloc (.deferred (some []))).alloc (.loop rr) := ⟨_, rfl⟩
  rw [← hW1]
  have B91 : Below w32.heap.size w32 W1 := by rw [hW1]; exact (((Below.refl _ w32).alloc (Nat.le_refl _) _).alloc (by simp) _)
  have sz1 : W1.heap.size = w32.heap.size + 2 := by rw [hW1]; simp
  have hL1 : W1.heap[w32.heap.size + 1]? = some (.loop rr) := by
    rw [hW1]; have := World.alloc_heap_new (w32.alloc (.deferred (some []))) (.loop rr); rwa [World.size_alloc] at this
  have hD1 : W1.heap[w32.heap.size]? = some (.deferred (some [])) := by
    rw [hW1]; exact (Below.heap_alloc _ _ _ (by simp)).trans (World.alloc_heap_new w32 _)
  obtain ⟨L, hLd⟩ : ∃ L, L = w32.heap.size + 1 := ⟨_, rfl⟩
  rw [← hLd] at hL1 hy ⊢
  have l30 := S32.lt (x := (b30, _, _)) (List.mem_cons_self ..)
  have l10 := S32.lt (x := (b10, _, _)) (List.mem_cons_of_mem _ (List.mem_cons_self ..))
  have l2 := S32.lt (x := (b2, _, _)) (List.mem_cons_of_mem _ (List.mem_cons_of_mem _ (List.mem_cons_self ..)))
  have w0le := S32.below.size
  let H : Nat → List Ent := fun q => [(b30, #[.int .i64 ((fullL (ls.take q)).length : Int)], ty.int), (b10, zC 0 (zmm (ls.take q)), ty.api_Zone), (b2, zC 0 (Z0, Z0), ty.api_Zone)]
  let J : Nat → World → Prop := fun q wx => SH (fun _ => False) w wx (H q) ∧ wx.heap[L]? = some (.loop rr) ∧ wx.heap[w32.heap.size]? = some (.deferred (some []))
  have hI : W1.cell? ⟨bI, 0, none⟩ = some (.slice a ls.length c) := cell0 ((Keeps.of_below (F := fun _ => False) B91).at (P32.get 0 rfl) (by simp))
  have hcall := full_c1_ok (w := W1) (L := L) (b := bI) (by omega) J (fun q wx hj => hl.grown hj.1.below) (fun q wx wy hj B => by
      have K := Keeps.of_below (F := fun _ => False) B
      exact ⟨hj.1.grown B, K.at hj.2.1 (by simp), K.at hj.2.2 (by simp)⟩) (fun q wx hq hz hj => by
      have e1 : H (q + 1) = H q := by
        have := fullL_take hq
        rw [if_pos hz, List.append_nil] at this
        show [(b30, #[Value.int .i64 ((fullL (ls.take (q + 1))).length : Int)], ty.int), (b10, zC 0 (zmm (ls.take (q + 1))), ty.api_Zone), (b2, zC 0 (Z0, Z0), ty.api_Zone)] = _
        rw [this, zmm_skip hq hz]
      exact ⟨by rw [e1]; exact hj.1, hj.2⟩) (by
    rintro q wx hq hne ⟨SJ, hL, hD⟩
    have hfl : (fullL (ls.take q)).length ≤ 1024 := by
      have : (fullL (ls.take q)).length ≤ (ls.take q).length := List.length_filter_le ..
      rw [List.length_take] at this
      omega
    have hnext : H (q + 1) = [(b30, #[.int .i64 (((fullL (ls.take q)).length + 1 : Nat) : Int)], ty.int), (b10, zC 0 (if (fullL (ls.take q)).length = 0 ∨ cmpV ls[q] (zmm (ls.take q)).1 < 0 then ls[q] else (zmm (ls.take q)).1, if (fullL (ls.take q)).length = 0 ∨ 0 < cmpV ls[q] (zmm (ls.take q)).2 then ls[q] else (zmm (ls.take q)).2), ty.api_Zone), (b2, zC 0 (Z0, Z0), ty.api_Zone)] := by
      have e1 := fullL_take hq
      rw [if_neg hne] at e1
      show [(b30, #[Value.int .i64 ((fullL (ls.take (q + 1))).length : Int)], ty.int), (b10, zC 0 (zmm (ls.take (q + 1))), ty.api_Zone), (b2, zC 0 (Z0, Z0), ty.api_Zone)] = _
      rw [zmm_step hq hne, e1, List.length_append]
      rfl
    obtain ⟨n, hnd⟩ : ∃ n, n = (fullL (ls.take q)).length := ⟨_, rfl⟩
    obtain ⟨mm, hmm⟩ : ∃ mm, mm = zmm (ls.take q) := ⟨_, rfl⟩
    have SJ' : SH (fun _ => False) w wx [(b30, #[.int .i64 (n : Int)], ty.int), (b10, zC 0 mm, ty.api_Zone), (b2, zC 0 (Z0, Z0), ty.api_Zone)] := by rw [hnd, hmm]; exact SJ
    rw [← hnd, ← hmm] at hnext
    rw [← hnd] at hfl
    obtain ⟨v, hvd⟩ : ∃ v, v = ls[q] := ⟨_, rfl⟩
    rw [← hvd] at hnext ⊢
    refine hy _ _ _ _ wx hL ?_
    refine SJ'.lit3 fun b37 w37 hb37 B37 S37 => ?_
    have K37 := Keeps.of_below (F := fun _ => False) B37
    have hL37 := K37.at hL (by simp)
    have hD37 := K37.at hD (by simp)
    refine ⟨hL37, ?_⟩
    obtain ⟨wB, hwB⟩ : ∃ wB, wB = w37.putObj L (.loop { rr with state := .busy }) := ⟨_, rfl⟩
    rw [← hwB]
    have hLlt : L < w37.heap.size := (Array.getElem?_eq_some_iff.1 hL37).1
    have hLx : L < wx.heap.size := (Array.getElem?_eq_some_iff.1 hL).1
    have KB : Keeps (fun k => k = L) w37 wB := by rw [hwB]; exact keeps_putObj _ _ _
    have hLB : wB.heap[L]? = some (.loop { rr with state := .busy }) := by rw [hwB]; exact World.putObj_heap_same hLlt
    have hDB := KB.at hD37 (show ¬ w32.heap.size = L by omega)
    have SB : SH (fun _ => False) w wB [(b37, #[.int .i64 v.1, .int .i64 v.2.1, .string v.2.2], ty.api_Value), (b30, #[.int .i64 (n : Int)], ty.int), (b10, zC 0 mm, ty.api_Zone), (b2, zC 0 (Z0, Z0), ty.api_Zone)] := S37.kept KB (by
      intro y hy
      simp only [List.mem_cons, List.not_mem_nil, or_false] at hy
      rcases hy with rfl | rfl | rfl | rfl <;> simp only <;> omega) (fun k hk h => by omega)
    -- what holds at any time of the round
    let G : World → Val → Val → Int → Prop := fun wy mn mx m => SH (fun _ => False) w wy [(b37, #[.int .i64 v.1, .int .i64 v.2.1, .string v.2.2], ty.api_Value), (b30, #[.int .i64 m], ty.int), (b10, zC 0 (mn, mx), ty.api_Zone), (b2, zC 0 (Z0, Z0), ty.api_Zone)] ∧ wy.heap[L]? = some (.loop { rr with state := .busy }) ∧ wy.heap[w32.heap.size]? = some (.deferred (some []))
    have keepG : ∀ {wy wz : World} {b : Nat}, Keeps (· = b) wy wz → b ≠ L → b ≠ w32.heap.size → wy.heap[L]? = some (.loop { rr with state := .busy }) ∧ wy.heap[w32.heap.size]? = some (.deferred (some [])) → wz.heap[L]? = some (.loop { rr with state := .busy }) ∧ wz.heap[w32.heap.size]? = some (.deferred (some [])) :=
      fun K h1 h2 h => ⟨K.at h.1 (fun e => h1 e.symm), K.at h.2 (fun e => h2 e.symm)⟩
    have growG : ∀ {wy wz : World} {mn mx : Val} {m : Int}, G wy mn mx m → Below wy.heap.size wy wz → G wz mn mx m := fun h B => by
      have K := Keeps.of_below (F := fun _ => False) B
      exact ⟨h.1.grown B, K.at h.2.1 (by simp), K.at h.2.2 (by simp)⟩
    have fin : ∀ {wy : World} {mn mx : Val}, G wy mn mx (n : Int) → mn = (if n = 0 ∨ cmpV v mm.1 < 0 then v else mm.1) → mx = (if n = 0 ∨ 0 < cmpV v mm.2 then v else mm.2) →
        ∃ t50 : Int, wy.cell? ⟨b30, 0, none⟩ = some (.int .i64 t50) ∧ STO ⟨b30, 0, none⟩ (.int .i64 (IntKind.i64.wrap (t50 + 1))) (fun w50 => ENDR rr L (fun y w' => y = true ∧ (SH (fun _ => False) w w' (H (q + 1)) ∧ w'.heap[L]? = some (.loop rr) ∧ w'.heap[w32.heap.size]? = some (.deferred (some [])))) none w50) wy := by
      rintro wy mn mx ⟨Sy, Ly⟩ rfl rfl
      refine ⟨_, Sy.cell 1 rfl rfl, ?_⟩
      rw [wrap_succ (by omega)]
      refine Sy.chg 1 rfl (cs' := #[.int .i64 ((n + 1 : Nat) : Int)]) (show 0 < 1 by decide) rfl fun wz Kz Sz => ?_
      obtain ⟨Lz, Dz⟩ := keepG Kz (by omega) (by omega) Ly
      refine ⟨Lz, rfl, ?_⟩
      rw [rr_eta hst hpe]
      have lz : L < wz.heap.size := (Array.getElem?_eq_some_iff.1 Lz).1
      have KP := keeps_putObj wz L (.loop rr)
      refine ⟨?_, World.putObj_heap_same lz, KP.at Dz (show ¬ w32.heap.size = L by omega)⟩
      rw [hnext]
      exact (Sz.drop 1).kept KP (by
        intro y hy
        simp only [List.set_cons_succ, List.set_cons_zero, List.drop_succ_cons, List.drop_zero, List.mem_cons, List.not_mem_nil, or_false] at hy
        rcases hy with rfl | rfl | rfl <;> simp only <;> omega) (fun k hk h => by omega)
    have GB : G wB mm.1 mm.2 (n : Int) := ⟨SB, hLB, hDB⟩
    refine ⟨fun s w46 => s = [] ∧ G w46 (if n = 0 ∨ cmpV v mm.1 < 0 then v else mm.1) mm.2 (n : Int), ?_, ?_⟩
    · refine ⟨_, GB.1.cell 1 rfl rfl, IFB_eq (fun h0 => ?_) (fun h0 => ?_)⟩
      · have hn0 : n = 0 := by omega
        refine ⟨_, GB.1.cell 0 rfl rfl, _, GB.1.cell 0 rfl rfl, _, GB.1.cell 0 rfl rfl, GB.1.stoMin 2 rfl fun w41 K41 S41 => ⟨rfl, ?_⟩⟩
        rw [if_left hn0]
        exact ⟨S41, keepG K41 (by omega) (by omega) GB.2⟩
      · have hn0 : ¬ n = 0 := by omega
        refine ⟨_, GB.1.cell 0 rfl rfl, _, GB.1.cell 0 rfl rfl, _, GB.1.cell 0 rfl rfl, _, GB.1.cell 2 rfl rfl, _, GB.1.cell 2 rfl rfl, _, GB.1.cell 2 rfl rfl, (value_Compare_ok wB v mm.1).mono ?_⟩
        rintro _ w42 ⟨_, rfl, rfl, B42⟩
        have G42 := growG GB B42
        refine ⟨_, rfl, IFB_dec (fun hc => ⟨_, G42.1.cell 0 rfl rfl, _, G42.1.cell 0 rfl rfl, _, G42.1.cell 0 rfl rfl, G42.1.stoMin 2 rfl fun w41 K41 S41 => ⟨rfl, ?_⟩⟩) (fun hc => ⟨rfl, ?_⟩)⟩
        · rw [if_pos (.inr hc)]
          exact ⟨S41, keepG K41 (by omega) (by omega) G42.2⟩
        · rw [if_neg (by omega)]
          exact G42
    rintro w46 ⟨_, G46⟩
    refine ⟨_, G46.1.cell 1 rfl rfl, IFB_eq (fun h0 => ?_) (fun h0 => ?_)⟩
    · have hn0 : n = 0 := by omega
      refine ⟨_, G46.1.cell 0 rfl rfl, _, G46.1.cell 0 rfl rfl, _, G46.1.cell 0 rfl rfl, G46.1.stoMax 2 rfl fun w49 K49 S49 => fin (mx := v) ⟨S49, keepG K49 (by omega) (by omega) G46.2⟩ rfl (by rw [if_left hn0])⟩
    · have hn0 : ¬ n = 0 := by omega
      refine ⟨_, G46.1.cell 0 rfl rfl, _, G46.1.cell 0 rfl rfl, _, G46.1.cell 0 rfl rfl, _, G46.1.cell 2 rfl rfl, _, G46.1.cell 2 rfl rfl, _, G46.1.cell 2 rfl rfl, (value_Compare_ok w46 v mm.2).mono ?_⟩
      rintro _ w51 ⟨_, rfl, rfl, B51⟩
      have G51 := growG G46 B51
      refine ⟨_, rfl, IFB_dec (fun hc => ⟨_, G51.1.cell 0 rfl rfl, _, G51.1.cell 0 rfl rfl, _, G51.1.cell 0 rfl rfl, G51.1.stoMax 2 rfl fun w49 K49 S49 => fin (mx := v) ⟨S49, keepG K49 (by omega) (by omega) G51.2⟩ rfl (by rw [if_pos (.inr (by omega))])⟩) (fun hc => fin G51 rfl (by rw [if_neg (by omega)]))⟩)
    ⟨S32.grown B91, hL1, hD1⟩ hI
  refine hcall.mono ?_
  rintro _ w57 ⟨_, rfl, SJ, hL57, hD57⟩
  have SJ' : SH (fun _ => False) w w57 [(b30, #[.int .i64 ((fullL ls).length : Int)], ty.int), (b10, zC 0 (zmm ls), ty.api_Zone), (b2, zC 0 (Z0, Z0), ty.api_Zone)] := by
    have := SJ
    simp only [H, List.take_length] at this
    exact this
  refine ⟨⟨_, rfl⟩, none, by rw [rr_eta hst hpe]; exact hL57, rfl, ?_⟩
  obtain ⟨w58, hw58⟩ : ∃ w58, w58 = w57.putObj L (.loop { rr with state := .exhausted, pending := none }) := ⟨_, rfl⟩
  rw [← hw58]
  have K58 : Keeps (fun k => k = L) w57 w58 := by rw [hw58]; exact keeps_putObj _ _ _
  have S58 := SJ'.kept K58 (by
    intro y hy
    simp only [List.mem_cons, List.not_mem_nil, or_false] at hy
    rcases hy with rfl | rfl | rfl <;> simp only <;> omega) (fun k hk h => by omega)
  have hD58 := K58.at hD57 (show ¬ w32.heap.size = L by omega)
  have hnf := nulls_full ls
  have en : IntKind.i64.wrap ((ls.length : Int) - ((fullL ls).length : Int)) = (nullsN ls : Int) := by rw [wrap_i64 (by omega) (by omega)]; omega
  refine ⟨_, S58.cell 0 rfl rfl, ?_⟩
  rw [en]
  refine S58.chg 1 rfl (cs' := zC (nullsN ls : Int) (zmm ls)) (show 0 < 7 by decide) rfl fun w59 K59 S59 => ?_
  refine ⟨_, S59.cell 1 rfl rfl, _, S59.cell 1 rfl rfl, _, S59.cell 1 rfl rfl, _, S59.cell 1 rfl rfl, _, S59.cell 1 rfl rfl, _, S59.cell 1 rfl rfl, _, S59.cell 1 rfl rfl, S59.sto7 2 rfl fun w66 K66 S66 => ?_⟩
  have hD66 := K66.at (K59.at hD58 (show ¬ w32.heap.size = b10 by omega)) (show ¬ w32.heap.size = b2 by omega)
  have KP := keeps_putObj w66 w32.heap.size (.deferred none)
  have SP := S66.kept KP (by
    intro y hy
    simp only [List.set_cons_succ, List.set_cons_zero, List.mem_cons, List.not_mem_nil, or_false] at hy
    rcases hy with rfl | rfl | rfl <;> simp only <;> omega) (fun k hk h => by omega)
  exact ⟨hD66, _, SP.cell 2 rfl rfl, _, SP.cell 2 rfl rfl, _, SP.cell 2 rfl rfl, _, SP.cell 2 rfl rfl, _, SP.cell 2 rfl rfl, _, SP.cell 2 rfl rfl, _, SP.cell 2 rfl rfl, .inl ⟨hok, rfl⟩, SP.below⟩
end
section
variable {w : World} {a : Option Addr} {c : Nat} {ls : List Val}
end
structure Within (ls : List Val) (i : Nat) : Prop where
  all : ∀ v ∈ ls.take i, v.1 ≠ 0 → 0 ≤ cmpV v (zmm (ls.take i)).1 ∧ cmpV v (zmm (ls.take i)).2 ≤ 0
  some : 0 < (fullL (ls.take i)).length → ((zmm (ls.take i)).1 ∈ ls.take i ∧ (zmm (ls.take i)).1.1 ≠ 0) ∧ ((zmm (ls.take i)).2 ∈ ls.take i ∧ (zmm (ls.take i)).2.1 ≠ 0)
  none : (fullL (ls.take i)).length = 0 → zmm (ls.take i) = (Z0, Z0)
theorem cmp_self (v : Val) : cmpV v v = 0 := (ord_val.zero v v).2 rfl
theorem full_none {ls : List Val} (h : (fullL ls).length = 0) : ∀ v ∈ ls, v.1 = 0 := by
  intro v hv
  have hf : fullL ls = [] := List.eq_nil_of_length_eq_zero h
  unfold fullL at hf
  have := List.filter_eq_nil_iff.1 hf v hv
  simpa using this
theorem within {ls : List Val} : ∀ i, i ≤ ls.length → Within ls i
  | 0, _ => ⟨by simp, by simp [fullL], fun _ => rfl⟩
  | i + 1, hi => by
    have hil : i < ls.length := by omega
    obtain ⟨h1, h2, h3⟩ := within (ls := ls) i (by omega)
    have hsub : ∀ v, v ∈ ls.take i → v ∈ ls.take (i + 1) := fun v hv => by rw [List.take_succ_eq_append_getElem hil]; exact List.mem_append_left _ hv
    have hin : ls[i] ∈ ls.take (i + 1) := by rw [List.take_succ_eq_append_getElem hil]; exact List.mem_append_right _ (List.mem_singleton.2 rfl)
    by_cases h0 : ls[i].1 = 0
    · have ef : fullL (ls.take (i + 1)) = fullL (ls.take i) := by rw [fullL_take hil, if_pos h0, List.append_nil]
      have ez := zmm_skip hil h0
      refine ⟨?_, ?_, ?_⟩
      · rw [ez]
        intro v hv hne
        rw [List.take_succ_eq_append_getElem hil] at hv
        rcases List.mem_append.1 hv with h | h
        · exact h1 v h hne
        · rw [List.mem_singleton.1 h] at hne; exact absurd h0 hne
      · rw [ef, ez]
        intro hp
        obtain ⟨⟨a1, a2⟩, b1, b2⟩ := h2 hp
        exact ⟨⟨hsub _ a1, a2⟩, hsub _ b1, b2⟩
      · rw [ef, ez]; exact h3
    · have ez := zmm_step hil h0
      have ef : (fullL (ls.take (i + 1))).length = (fullL (ls.take i)).length + 1 := by rw [fullL_take hil, if_neg h0, List.length_append]; rfl
      obtain ⟨mm, hmm⟩ : ∃ mm, mm = zmm (ls.take i) := ⟨_, rfl⟩
      obtain ⟨n, hn⟩ : ∃ n, n = (fullL (ls.take i)).length := ⟨_, rfl⟩
      rw [← hmm, ← hn] at ez h2
      rw [← hmm] at h1
      rw [← hn] at ef
      have min_le : 0 ≤ cmpV ls[i] (if n = 0 ∨ cmpV ls[i] mm.1 < 0 then ls[i] else mm.1) := by
        split
        · rw [cmp_self]; exact Int.le_refl _
        · omega
      have max_le : cmpV ls[i] (if n = 0 ∨ 0 < cmpV ls[i] mm.2 then ls[i] else mm.2) ≤ 0 := by
        split
        · rw [cmp_self]; exact Int.le_refl _
        · omega
      have old : ∀ v ∈ ls.take i, v.1 ≠ 0 → ¬ n = 0 := fun v hv hne h => hne (full_none (by rw [← hn]; exact h) v hv)
      refine ⟨?_, ?_, fun h => by omega⟩
      · rw [ez]
        intro v hv hne
        rw [List.take_succ_eq_append_getElem hil] at hv
        rcases List.mem_append.1 hv with h | h
        · obtain ⟨k1, k2⟩ := h1 v h hne
          have hn0 := old v h hne
          refine ⟨?_, ?_⟩
          · simp only
            split
            · rename_i hc
              have hc' : cmpV ls[i] mm.1 < 0 := hc.resolve_left hn0
              have k1' : cmpV mm.1 v ≤ 0 := by have := ord_val.neg v mm.1; omega
              have := ord_val.strict _ _ _ hc' k1'
              have := ord_val.neg ls[i] v
              omega
            · exact k1
          · simp only
            split
            · rename_i hc
              have hc' : 0 < cmpV ls[i] mm.2 := hc.resolve_left hn0
              have : cmpV mm.2 ls[i] ≤ 0 := by have := ord_val.neg ls[i] mm.2; omega
              exact ord_val.trans _ _ _ k2 this
            · exact k2
        · rw [List.mem_singleton.1 h]; exact ⟨min_le, max_le⟩
      · rw [ez]
        intro _
        refine ⟨?_, ?_⟩
        · simp only
          split
          · exact ⟨hin, h0⟩
          · rename_i hc
            obtain ⟨⟨a1, a2⟩, _⟩ := h2 (by omega)
            exact ⟨hsub _ a1, a2⟩
        · simp only
          split
          · exact ⟨hin, h0⟩
          · rename_i hc
            obtain ⟨_, b1, b2⟩ := h2 (by omega)
            exact ⟨hsub _ b1, b2⟩
structure ReadP (K : Int) (ls : List Val) (l : List UInt8) : Prop where
  good : Good1 K ls
  ex : ∃ o, (nullsN ls < ls.length → OthIs K ls o) ∧ (¬ nullsN ls < ls.length → o = []) ∧ l = headL K ls ++ maskL ls ++ o
section
variable {w : World} {a : Option Addr} {c : Nat} {l : List UInt8}
end
theorem ChIs.read {K : Int} {ls : List Val} {b : List UInt8} (hg : Good1 K ls) (h : ChIs K ls b) : ReadP K ls (b.take (b.length - 4)) ∧ 5 ≤ b.length ∧ b = b.take (b.length - 4) ++ sum4 (crc (b.take (b.length - 4))) := by
  obtain ⟨o, h1, h2, rfl⟩ := h.ex
  have hs : ∀ x, (sum4 x).length = 4 := fun x => rfl
  have hhead : 1 ≤ (headL K ls).length := by simp [headL]
  have e : (headL K ls ++ maskL ls ++ o ++ sum4 (crc (headL K ls ++ maskL ls ++ o))).take ((headL K ls ++ maskL ls ++ o ++ sum4 (crc (headL K ls ++ maskL ls ++ o))).length - 4) = headL K ls ++ maskL ls ++ o := by
    rw [List.length_append, hs, Nat.add_sub_cancel, List.take_left]
  rw [e]
  refine ⟨⟨hg, o, h1, h2, rfl⟩, ?_, rfl⟩
  simp only [List.length_append, hs]
  omega
section
variable {w : World} {a : Option Addr} {c : Nat} {l : List UInt8}
end
end Go.Proofs.YtpnaifmmggnimaaGreatDoor

namespace Go.Proofs.YtpnaifmmggnimaaGreatDoor
set_option maxRecDepth 100000
open Go.Dn Go.Proofs
open Go.RowKit (Below)
set_option linter.unusedVariables false
section
variable {w : World} {a : Option Addr} {c : Nat} {l : List UInt8}
end
section
variable {w : World} {a : Option Addr} {c : Nat} {l : List UInt8}
end
section
variable {w : World} {ab a : Option Addr} {cb c : Nat} {bits : List Nat} {l : List UInt8}
end
end Go.Proofs.YtpnaifmmggnimaaGreatDoor
