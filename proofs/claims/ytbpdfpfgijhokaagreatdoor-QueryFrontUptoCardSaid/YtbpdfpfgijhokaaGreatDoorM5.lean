/-
  Texts of this claim, laid one behind the other by a program of mine (install.py): P.Fits, P.Fits2, P.Fits3, P.Txt, P.Txt2, P.Txt3, P.Parts, P.Qtx, P.Rtx, P.Alk, P.Ld, P.Rp1, P.Rp2, P.Rp3, P.Rp4, P.Pl1, P.Pl2, P.Pl3, P.SortI, P.Pl4, P.Pl5, P.Pl6, P.Pl7, P.Rp5, P.Rp6, P.Qp1.
-/
import Derived.Test.YtbpdfpfgijhokaaGreatDoorM4
import Derived.Test.YtbpdfpfgijhokaaGreatDoorM3
import Derived.Lib.Join
namespace Go.Proofs.YtbpdfpfgijhokaaGreatDoor
set_option maxRecDepth 100000
open Go.Dn Go.Proofs
open Go.RowKit (Below)
set_option linter.unusedVariables false
/-! ### lists of expressions -/
def zEx : Value := .agg #[.int .i64 0, .string ⟨#[]⟩, .int .i64 0, .int .i64 0, .string ⟨#[]⟩, .slice none 0 0]
theorem tExs : slT Tryz.prog ty.L_api_Expr = some (ty.api_Expr, 6, 80, zEx) := by kernel_rfl
theorem zEx6 : zEx.cells.size = 6 := rfl
def exsI (a : Option Addr) (n c : Nat) (rs : List Value) : It := It.row ty.api_Expr 6 a n c rs
theorem exC_one {F : Nat → Prop} {w : World} {x : Ex} {cs : List Value} (h : ExC F w x cs) : ∀ u ∈ cs, u.oneCell' = true := by
  obtain ⟨a, cap, _, rfl, _⟩ := h.open
  intro u hu
  simp only [exHead, List.mem_cons, List.not_mem_nil, or_false] at hu
  rcases hu with rfl | rfl | rfl | rfl | rfl | rfl <;> rfl
theorem exL_one {F : Nat → Prop} {w : World} : ∀ {l : List Ex} {cs : List Value}, ExL F w l cs → ∀ u ∈ cs, u.oneCell' = true
  | [], cs, h => by unfold ExL at h; subst h; simp
  | x :: l, cs, h => by
    unfold ExL at h
    obtain ⟨c, r, rfl, h1, h2⟩ := h
    intro u hu
    rcases List.mem_append.1 hu with hu | hu
    · exact exC_one h1 u hu
    · exact exL_one h2 u hu
theorem concatGrow (w : World) (n : Nat) (hn : n ≤ 1000000) : Calls Tryz.prog f.slices_Grow_api_Expr_api_Expr #[.slice none 0 0, .int .i64 (n : Int)] w
    (Ret fun v w' => ∃ a c, v = .slice a 0 c ∧ Row w' ty.api_Expr 6 a 0 c [] ∧ (∀ k, rowB a = some k → w.heap.size ≤ k) ∧ Below w.heap.size w w') := by
  apply R.slices_Grow_api_Expr_api_Expr_calls
  unfold R.slices_Grow_api_Expr_api_Expr
  have e0 : IntKind.i64.wrap (((0 : Nat) : Int) - ((0 : Nat) : Int)) = 0 := by rw [wrap_i64 (by omega) (by omega)]; omega
  have e1 : IntKind.i64.wrap ((n : Int) - 0) = (n : Int) := by rw [wrap_i64 (by omega) (by omega)]; omega
  refine IFB_dec (fun h => by omega) (fun _ => ?_)
  rw [e0, e1]
  refine IFB_dec (fun hp => ⟨⟨by omega, by omega, by omega⟩, ?_⟩) (fun hp => ?_)
  · obtain ⟨c', w', hrun, hrow, hc, hb⟩ := append_zeros (u := ty.int) (ty := ty.L_api_Expr) tExs (show Tryz.prog.underlying ty.int = some (.int .i64) by kernel_rfl) zEx6 (by omega) (by omega) (w := w) (m := n) (by omega) (by omega)
    have hs : SLA none 0 0 6 = none := rfl
    unfold OPR
    rw [hs]
    simp only [Nat.sub_zero, hrun]
    refine ⟨_, _, _, rfl, ⟨by omega, by omega, by omega⟩, some ⟨w.heap.size, 0, none⟩, c', ?_, hrow, fun k hk => by simp [rowB] at hk; omega, hb⟩
    have : SLA (some (⟨w.heap.size, 0, none⟩ : Addr)) 0 c' 6 = some ⟨w.heap.size, 0, none⟩ := by
      unfold SLA
      split
      · rfl
      · simp [addr_add_zero]
    rw [this]
  · have : n = 0 := by omega
    subst this
    exact ⟨none, 0, rfl, Row.nil _ _ _, by simp [rowB], .refl _ _⟩
theorem concatEx_ok {w : World} {b : Nat} {a1 a2 : Option Addr} {n1 n2 c1 c2 : Nat} {r1 r2 : List Value} {t : TypeId} (hb : w.heap[b]? = some (.cells #[.slice a1 n1 c1, .slice a2 n2 c2] t (0, 0))) (h1 : Rd w a1 r1) (h2 : Rd w a2 r2) (l1 : r1.length = n1 * 6) (l2 : r2.length = n2 * 6)
    (o1 : ∀ u ∈ r1, u.oneCell' = true) (o2 : ∀ u ∈ r2, u.oneCell' = true) (hn : n1 + n2 ≤ 1000) :
    Calls Tryz.prog f.slices_Concat_api_Expr_api_Expr #[.slice (some ⟨b, 0, none⟩) 2 2] w (Ret fun v w' => ∃ a c, v = .slice a (n1 + n2) c ∧ Rd w' a (r1 ++ r2) ∧ Below w.heap.size w w') := by
  apply R.slices_Concat_api_Expr_api_Expr_calls
  unfold R.slices_Concat_api_Expr_api_Expr
  have cell : ∀ {w' : World}, Below w.heap.size w w' → ∀ (i : Nat) (v : Value), (#[Value.slice a1 n1 c1, .slice a2 n2 c2] : Array Value)[i]? = some v → w'.cell? ((⟨b, 0, none⟩ : Addr).add (((i : Nat) : Int).toNat * 1)) = some v := by
    intro w' B i v hv
    rw [addr_one]
    have : w.cell? ⟨b, i, none⟩ = some v := by simp only [World.cell?, hb]; simpa using hv
    exact (Keeps.of_below (F := fun _ => False) B).cell this (by simp)
  refine ⟨fun s w1 => w1 = w ∧ (s = [.int .i64 0, .int .i64 ((0 : Nat) : Int)] ∨ s = [.int .i64 (n1 : Int), .int .i64 ((1 : Nat) : Int)] ∨ s = [.int .i64 ((n1 + n2 : Nat) : Int), .int .i64 ((2 : Nat) : Int)]), fun s _ => match s with
      | [_, .int _ i] => 2 - i.toNat
      | _ => 0, ⟨rfl, .inl rfl⟩, ?_⟩
  rintro _ _ w1 ⟨rfl, hs | hs | hs⟩
  · cases hs
    refine IFB_dec (fun hlt => ⟨⟨by omega, hlt⟩, _, _, _, cell (.refl _ _) 0 _ rfl, ?_⟩) (fun hge => absurd (show ((0 : Nat) : Int) < ((2 : Nat) : Int) by decide) hge)
    have e : IntKind.i64.wrap ((0 : Int) + (n1 : Int)) = (n1 : Int) := by rw [wrap_i64 (by omega) (by omega)]; omega
    rw [e]
    exact IFB_dec (fun h => by omega) (fun _ => ⟨⟨rfl, .inr (.inl rfl)⟩, show 1 < 2 by decide⟩)
  · cases hs
    refine IFB_dec (fun hlt => ⟨⟨by omega, hlt⟩, _, _, _, cell (.refl _ _) 1 _ rfl, ?_⟩) (fun hge => absurd (show ((1 : Nat) : Int) < ((2 : Nat) : Int) by decide) hge)
    have e : IntKind.i64.wrap ((n1 : Int) + (n2 : Int)) = ((n1 + n2 : Nat) : Int) := by rw [wrap_i64 (by omega) (by omega)]; omega
    rw [e]
    exact IFB_dec (fun h => by omega) (fun _ => ⟨⟨rfl, .inr (.inr rfl)⟩, show 0 < 1 by decide⟩)
  · cases hs
    refine IFB_dec (fun hlt => absurd hlt (by decide)) (fun hge => (concatGrow w1 (n1 + n2) (by omega)).mono ?_)
    rintro _ w2 ⟨_, rfl, a3, c3, rfl, R3, N3, B3⟩
    have S2 := (ST.start w1).add B3 (exsI a3 0 c3 []) R3 N3
    refine ⟨_, _, _, rfl, fun s w3 => ∃ (a4 : Option Addr) (c4 : Nat), (s = [.slice a4 0 c4, .int .i64 ((0 : Nat) : Int)] ∧ ST w1 w3 [exsI a4 0 c4 []]) ∨ (s = [.slice a4 n1 c4, .int .i64 ((1 : Nat) : Int)] ∧ ST w1 w3 [exsI a4 n1 c4 r1]) ∨ (s = [.slice a4 (n1 + n2) c4, .int .i64 ((2 : Nat) : Int)] ∧ ST w1 w3 [exsI a4 (n1 + n2) c4 (r1 ++ r2)]),
      fun s _ => match s with
        | [_, .int _ i] => 2 - i.toNat
        | _ => 0, ⟨a3, c3, .inl ⟨rfl, S2⟩⟩, ?_⟩
    rintro a4 q4 c4 _ w3 ⟨a5, c5, ⟨hs, S⟩ | ⟨hs, S⟩ | ⟨hs, S⟩⟩
    · cases hs
      refine IFB_dec (fun hlt => ⟨⟨by omega, hlt⟩, _, _, _, cell S.bel 0 _ rfl, ?_⟩) (fun hge => absurd (show ((0 : Nat) : Int) < ((2 : Nat) : Int) by decide) hge)
      refine S.app 0 rfl tExs zEx6 (by omega) (by omega) (h1.grown S.bel) (mm := n1) l1 o1 (by omega) fun a' c' w4 S4 => ⟨_, _, _, rfl, ⟨a', c', .inr (.inl ⟨by rw [Nat.zero_add]; rfl, ?_⟩)⟩, show 1 < 2 by decide⟩
      rw [Nat.zero_add, List.nil_append] at S4
      exact S4
    · cases hs
      refine IFB_dec (fun hlt => ⟨⟨by omega, hlt⟩, _, _, _, cell S.bel 1 _ rfl, ?_⟩) (fun hge => absurd (show ((1 : Nat) : Int) < ((2 : Nat) : Int) by decide) hge)
      exact S.app 0 rfl tExs zEx6 (by omega) (by omega) (h2.grown S.bel) (mm := n2) l2 o2 (by omega) fun a' c' w4 S4 => ⟨_, _, _, rfl, ⟨a', c', .inr (.inr ⟨rfl, S4⟩)⟩, show 0 < 1 by decide⟩
    · cases hs
      exact IFB_dec (fun hlt => absurd hlt (by decide)) (fun hge => ⟨_, _, rfl, S.rd 0 rfl, S.bel⟩)
/-! ### a query's value -/
structure QAt (w : World) (q : Qu) (ai aw ag ao : Option Addr) : Prop where
  it : ∃ rs, Rd w ai rs ∧ RowsC (ItC (fun _ => False) w) q.it rs
  wh : ∃ rs, Rd w aw rs ∧ RowsC (ExC (fun _ => False) w) q.wh rs
  gr : ∃ rs, Rd w ag rs ∧ RowsC (ExC (fun _ => False) w) q.gr rs
  od : ∃ rs, Rd w ao rs ∧ RowsC keyC q.od rs
  nit : q.it.length ≤ 9223372036854775807
  nwh : q.wh.length ≤ 9223372036854775807
  ngr : q.gr.length ≤ 9223372036854775807
  nod : q.od.length ≤ 9223372036854775807
  lim : i64 q.lim
def quL (q : Qu) (ai aw ag ao : Option Addr) (ci cw cg co : Nat) : List Value := [.slice ai q.it.length ci, .slice aw q.wh.length cw, .slice ag q.gr.length cg, .slice ao q.od.length co, .int .i64 q.lim]
theorem QAt.grown {w w' : World} {q : Qu} {ai aw ag ao : Option Addr} (h : QAt w q ai aw ag ao) (hk : Below w.heap.size w w') : QAt w' q ai aw ag ao := by
  obtain ⟨⟨r1, h1, h1'⟩, ⟨r2, h2, h2'⟩, ⟨r3, h3, h3'⟩, ⟨r4, h4, h4'⟩, n1, n2, n3, n4, hl⟩ := h
  exact ⟨⟨r1, h1.grown hk, h1'.mono fun _ _ h => h.grown hk⟩, ⟨r2, h2.grown hk, h2'.mono fun _ _ h => h.grown hk⟩, ⟨r3, h3.grown hk, h3'.mono fun _ _ h => h.grown hk⟩, ⟨r4, h4.grown hk, h4'⟩, n1, n2, n3, n4, hl⟩
theorem item_at {w0 w : World} {a : Option Addr} {rs : List Value} {l : List Itm} (hl : Rd w a rs) (hC : RowsC (ItC (fun _ => False) w0) l rs) {i : Nat} (hi : i < l.length) : ∃ p a' cap', a = some p ∧ XC w0 l[i].2.2 (exHead l[i].2.2 a' cap') ∧ l[i].1.size ≤ maxLen ∧
    ∀ j v, (itHead l[i] a' cap')[j]? = some v → w.cell? ((p.add (i * 8)).add j) = some v := by
  obtain ⟨q, cc, rfl, hc, cell⟩ := rows_at (n := 8) (fun x c h => ItC.len h) (by decide) hl hC hi
  obtain ⟨ce, rfl, hx, hy, _⟩ := hc
  obtain ⟨a9, cap9, _, rfl, _⟩ := ExC.open hx
  exact ⟨q, a9, cap9, rfl, hx, hy, cell⟩
theorem exs_at {w0 w : World} {a : Option Addr} {rs : List Value} {l : List Ex} (hl : Rd w a rs) (hC : RowsC (ExC (fun _ => False) w0) l rs) {i : Nat} (hi : i < l.length) : ∃ p a' cap', a = some p ∧ XC w0 l[i] (exHead l[i] a' cap') ∧
    ∀ j v, (exHead l[i] a' cap')[j]? = some v → w.cell? ((p.add (i * 6)).add j) = some v := by
  obtain ⟨q, cc, rfl, hc, cell⟩ := rows_at (n := 6) (fun x c h => ExC.len h) (by decide) hl hC hi
  obtain ⟨a9, cap9, _, rfl, _⟩ := ExC.open hc
  exact ⟨q, a9, cap9, rfl, hc, cell⟩
theorem all_snoc {α : Type} {p : α → Bool} {l : List α} {i : Nat} (hi : i < l.length) (h : ∀ x ∈ l.take i, p x = true) (h2 : p l[i] = true) : ∀ x ∈ l.take (i + 1), p x = true := by
  intro x hx
  rw [List.take_succ_eq_append_getElem hi] at hx
  rcases List.mem_append.1 hx with hx | hx
  · exact h x hx
  · rw [List.mem_singleton.1 hx]; exact h2
theorem small_no {q : Qu} (h : ¬ ((1 ≤ q.it.length ∧ q.it.length ≤ 16 ∧ q.wh.length ≤ 1 ∧ q.gr.length ≤ 4 ∧ q.od.length ≤ 4 ∧ -1 ≤ q.lim ∧ q.lim ≤ 4096) ∧ (∀ i ∈ q.it, rightI i = true) ∧ (∀ x ∈ q.wh ++ q.gr, rightX x = true) ∧ ∀ k ∈ q.od, rightK q.it k.1 = true)) : smallQ q = false := by
  rw [Bool.eq_false_iff, Ne, smallQ_iff]
  rintro ⟨h1, h2, h3, h4, h5⟩
  exact h ⟨h1, h2, fun x hx => (List.mem_append.1 hx).elim (h3 x) (h4 x), h5⟩
theorem small_yes {q : Qu} (h1 : 1 ≤ q.it.length ∧ q.it.length ≤ 16 ∧ q.wh.length ≤ 1 ∧ q.gr.length ≤ 4 ∧ q.od.length ≤ 4 ∧ -1 ≤ q.lim ∧ q.lim ≤ 4096) (h2 : ∀ i ∈ q.it, rightI i = true) (h3 : ∀ x ∈ q.wh ++ q.gr, rightX x = true) (h4 : ∀ k ∈ q.od, rightK q.it k.1 = true) : smallQ q = true :=
  smallQ_iff.2 ⟨h1, h2, fun x hx => h3 x (List.mem_append_left _ hx), fun x hx => h3 x (List.mem_append_right _ hx), h4⟩
theorem placeOf_eq {l : List Itm} {i : Nat} {s : ByteArray} : (idxV (placeOf l s) = (i : Int)) ↔ placeOf l s = some i := by
  cases placeOf l s with
  | none => simp [idxV]
  | some j => simp only [idxV, Option.some.injEq]; omega
theorem rightK_iff {l : List Itm} {k : Int} : rightK l k = true ↔ ∃ (i : Nat) (hi : i < l.length), k = i ∧ placeOf l l[i].1 = some i := by
  unfold rightK
  simp only [Bool.and_eq_true, decide_eq_true_eq]
  constructor
  · rintro ⟨⟨h0, h1⟩, h2⟩
    have hi : k.toNat < l.length := by omega
    rw [List.getD_eq_getElem?_getD, List.getElem?_eq_getElem hi, Option.getD_some] at h2
    exact ⟨k.toNat, hi, by omega, h2⟩
  · rintro ⟨i, hi, rfl, h⟩
    rw [Int.toNat_natCast, List.getD_eq_getElem?_getD, List.getElem?_eq_getElem hi, Option.getD_some]
    exact ⟨⟨by omega, by omega⟩, h⟩
end Go.Proofs.YtbpdfpfgijhokaaGreatDoor
namespace Go.Proofs.YtbpdfpfgijhokaaGreatDoor
set_option maxRecDepth 100000
open Go.Dn Go.Proofs
open Go.RowKit (Below)
set_option linter.unusedVariables false
def quI (b : Nat) (q : Qu) (ai aw ag ao : Option Addr) (ci cw cg co : Nat) : It := It.cells b ⟨quL q ai aw ag ao ci cw cg co⟩ ty.api_Query
def itI (b : Nat) (i : Itm) (a : Option Addr) (cap : Nat) : It := It.cells b ⟨itHead i a cap⟩ ty.api_Item
section
variable {w : World} {q : Qu} {ai aw ag ao : Option Addr} {ci cw cg co : Nat}
theorem fits_key_ok {w0 : World} {H : List It} {b : Nat} (n : Nat) (Q : QAt w q ai aw ag ao) (S : ST w0 w H) (hn : H[n]? = some (quI b q ai aw ag ao ci cw cg co)) (k : Int × Bool) :
    Calls Tryz.prog f.query_fits_c1 #[.agg #[.int .i64 k.1, .bool k.2], .pointer (some ⟨b, 0, none⟩)] w (Ret fun r w' => r = .bool (!rightK q.it k.1) ∧ Below w.heap.size w w') := by
  apply R.query_fits_c1_calls
  unfold R.query_fits_c1
  obtain ⟨rs, hrd, hC⟩ := Q.it
  refine (ST.start w).newB fun b4 w1 _ B1 S1 => S1.draw fun w2 B2 S2 => ⟨_, S2.cell 0 rfl rfl, ?_⟩
  have T2 := S.grown S2.bel
  have no : ¬ (∃ (i : Nat) (hi : i < q.it.length), k.1 = i ∧ placeOf q.it q.it[i].1 = some i) → Value.bool true = .bool (!rightK q.it k.1) ∧ Below w.heap.size w w2 := fun h => ⟨by rw [show rightK q.it k.1 = false from Bool.eq_false_iff.2 fun h2 => h (rightK_iff.1 h2)]; rfl, S2.bel⟩
  refine IFB_dec (fun h => no ?_) (fun h1 => ⟨_, S2.cell 0 rfl rfl, _, _, _, T2.cell n hn rfl, IFB_dec (fun h => no ?_) (fun h2 => ⟨_, _, _, T2.cell n hn rfl, _, _, _, T2.cell n hn rfl, _, S2.cell 0 rfl rfl, ⟨by omega, by omega⟩, ?_⟩)⟩)
  · rintro ⟨i, hi, he, _⟩; omega
  · rintro ⟨i, hi, he, _⟩; omega
  obtain ⟨i, hi⟩ : ∃ i : Nat, k.1 = i := ⟨k.1.toNat, by omega⟩
  have hil : i < q.it.length := by omega
  obtain ⟨p, rfl, hc⟩ := it_name (hrd.grown S2.bel) hC hil
  refine ⟨_, by rw [hi, Int.toNat_natCast]; exact hc, _, S2.cell 0 rfl rfl, (query_place_ok (hrd.grown S2.bel) (hC.mono fun _ _ h => h.grown S2.bel) Q.nit _).mono ?_⟩
  rintro _ w3 ⟨_, rfl, rfl, B3⟩
  have S3 := S2.grown B3
  refine ⟨_, rfl, S3.cell 0 rfl rfl, ?_, S3.bel⟩
  congr 1
  rw [Bool.eq_iff_iff, bne_iff_ne, Bool.not_eq_true', Bool.eq_false_iff, Ne, Ne]
  refine not_congr ?_
  rw [rightK_iff, hi, placeOf_eq]
  constructor
  · intro h; exact ⟨i, hil, rfl, h⟩
  · rintro ⟨j, hj, he, h⟩
    obtain rfl : i = j := by omega
    exact h
theorem query_fits_ok (E : Env w) (Q : QAt w q ai aw ag ao) : Calls Tryz.prog f.query_fits #[.agg ⟨quL q ai aw ag ao ci cw cg co⟩] w (Ret fun r w' => r = .bool (smallQ q) ∧ Below w.heap.size w w') := by
  apply R.query_fits_calls
  unfold R.query_fits
  obtain ⟨ri, hri, hCi⟩ := Q.it
  obtain ⟨rw_, hrw, hCw⟩ := Q.wh
  obtain ⟨rg, hrg, hCg⟩ := Q.gr
  obtain ⟨ro, hro, hCo⟩ := Q.od
  refine (ST.start w).newB fun b6 w1 _ _ S1 => ?_
  have no : ∀ w', ST w w' [quI b6 q ai aw ag ao ci cw cg co] → ¬ ((1 ≤ q.it.length ∧ q.it.length ≤ 16 ∧ q.wh.length ≤ 1 ∧ q.gr.length ≤ 4 ∧ q.od.length ≤ 4 ∧ -1 ≤ q.lim ∧ q.lim ≤ 4096) ∧ (∀ i ∈ q.it, rightI i = true) ∧ (∀ x ∈ q.wh ++ q.gr, rightX x = true) ∧ ∀ k ∈ q.od, rightK q.it k.1 = true) → Value.bool false = .bool (smallQ q) ∧ Below w.heap.size w w' := fun w' S h => ⟨by rw [small_no h], S.bel⟩
  have S1 : ST w w1 [quI b6 q ai aw ag ao ci cw cg co] := S1
  refine ⟨_, _, _, S1.cell 0 rfl rfl, IFB_dec (fun h => no _ S1 (by omega)) (fun g1 => ⟨_, _, _, S1.cell 0 rfl rfl, IFB_dec (fun h => no _ S1 (by omega)) (fun g2 => ⟨_, _, _, S1.cell 0 rfl rfl, IFB_dec (fun h => no _ S1 (by omega)) (fun g3 => ⟨_, _, _, S1.cell 0 rfl rfl, IFB_dec (fun h => no _ S1 (by omega)) (fun g4 => ⟨_, _, _, S1.cell 0 rfl rfl, IFB_dec (fun h => no _ S1 (by omega)) (fun g5 => ⟨_, S1.cell 0 rfl rfl, IFB_dec (fun h => no _ S1 (by omega)) (fun g6 => ⟨_, S1.cell 0 rfl rfl, IFB_dec (fun h => no _ S1 (by omega)) (fun g7 => ?_)⟩)⟩)⟩)⟩)⟩)⟩)⟩
  have nums : 1 ≤ q.it.length ∧ q.it.length ≤ 16 ∧ q.wh.length ≤ 1 ∧ q.gr.length ≤ 4 ∧ q.od.length ≤ 4 ∧ -1 ≤ q.lim ∧ q.lim ≤ 4096 := ⟨by omega, by omega, by omega, by omega, by omega, by omega, by omega⟩
  clear g1 g2 g3 g4 g5 g6 g7
  refine ⟨_, _, _, S1.cell 0 rfl rfl, fun st w2 => ∃ i : Nat, st = [.int .i64 (i : Int)] ∧ i ≤ q.it.length ∧ (∀ x ∈ q.it.take i, rightI x = true) ∧ ST w w2 [quI b6 q ai aw ag ao ci cw cg co], fun st _ => match st with | [.int _ t] => q.it.length - t.toNat | _ => 0, ⟨0, rfl, by omega, by simp, S1⟩, ?_⟩
  rintro t w2 ⟨i, hst, hi, hall, S2⟩
  cases hst
  refine IFB_dec (fun hlt => ⟨⟨by omega, hlt⟩, ?_⟩) (fun hge => ?_)
  · have hil : i < q.it.length := by omega
    obtain ⟨p, a3, cap3, rfl, hxk, hsz, cell⟩ := item_at (hri.grown S2.bel) hCi hil
    refine ⟨_, by rw [Int.toNat_natCast]; exact cell 0 _ rfl, _, by rw [Int.toNat_natCast]; exact cell 1 _ rfl, _, by rw [Int.toNat_natCast]; exact cell 2 _ rfl, _, by rw [Int.toNat_natCast]; exact cell 3 _ rfl, _, by rw [Int.toNat_natCast]; exact cell 4 _ rfl, _, by rw [Int.toNat_natCast]; exact cell 5 _ rfl, _, by rw [Int.toNat_natCast]; exact cell 6 _ rfl, _, _, _, by rw [Int.toNat_natCast]; exact cell 7 _ rfl, S2.lit8 fun b26 w11 _ S11 => ?_⟩
    have S11 : ST w w11 [itI b26 q.it[i] a3 cap3, quI b6 q (some p) aw ag ao ci cw cg co] := S11
    refine ⟨fun st w12 => st = [.bool (bareX q.it[i].2.2)] ∧ w12 = w11, ?_, ?_⟩
    · simp only [bytesEq_iff]
      refine ⟨_, S11.cell 0 rfl rfl, IFB_eq (fun h1 => ⟨_, S11.cell 0 rfl rfl, IFB_dec (fun h2 => ⟨_, S11.cell 0 rfl rfl, _, S11.cell 0 rfl rfl, _, S11.cell 0 rfl rfl, ?_⟩) (fun h2 => ⟨by simp [bareX, h2], trivial⟩)⟩) (fun h1 => ⟨by simp [bareX, h1], trivial⟩)⟩
      have e := valEq q.it[i].2.2.v V0
      simp only [V0] at e
      rw [e]
      refine IFB_dec (fun h3 => ⟨_, _, _, S11.cell 0 rfl rfl, ?_, trivial⟩) (fun h3 => ⟨by simp [bareX, h3], trivial⟩)
      congr 2
      rw [Bool.eq_iff_iff]
      simp [bareX, h1, h2, h3]
    · rintro em w12 ⟨he, rfl⟩
      obtain rfl : em = bareX q.it[i].2.2 := by simpa using he
      have bad : ∀ w', ST w w' [itI b26 q.it[i] a3 cap3, quI b6 q (some p) aw ag ao ci cw cg co] → rightI q.it[i] = false → Value.bool false = .bool (smallQ q) ∧ Below w.heap.size w w' := fun w' S h => no w' (S.drop 1) fun hh => by rw [hh.2.1 _ (List.getElem_mem hil)] at h; cases h
      have good : ∀ w', ST w w' [itI b26 q.it[i] a3 cap3, quI b6 q (some p) aw ag ao ci cw cg co] → rightI q.it[i] = true → (∃ j : Nat, [Value.int .i64 (IntKind.i64.wrap ((i : Int) + 1))] = [.int .i64 (j : Int)] ∧ j ≤ q.it.length ∧ (∀ x ∈ q.it.take j, rightI x = true) ∧ ST w w' [quI b6 q (some p) aw ag ao ci cw cg co]) ∧ q.it.length - (IntKind.i64.wrap ((i : Int) + 1)).toNat < q.it.length - ((i : Nat) : Int).toNat := by
        intro w' S h
        rw [wrap_succ (by omega)]
        refine ⟨⟨i + 1, rfl, by omega, all_snoc hil hall h, S.drop 1⟩, ?_⟩
        simp only [Int.toNat_natCast]
        omega
      refine ⟨_, S11.cell 0 rfl rfl, (query_isName_ok q.it[i].1 (E.grown S11.bel) (Nat.le_trans hsz (by decide))).mono ?_⟩
      rintro _ w13 ⟨_, rfl, rfl, B13⟩
      have S13 := S11.grown B13
      refine ⟨_, rfl, IFB_not (IFB_of (fun h1 => ⟨_, S13.cell 0 rfl rfl, IFB_dec (fun h => bad _ S13 ?_) (fun h2 => ⟨_, S13.cell 0 rfl rfl, IFB_dec (fun h => bad _ S13 ?_) (fun h3 => ⟨_, S13.cell 0 rfl rfl, IFB_eq (fun h4 => ?_) (fun h4 => ?_)⟩)⟩)⟩) (fun h1 => bad _ S13 (by simp [rightI, h1])))⟩
      · have : ¬ ((0 : Int) ≤ q.it[i].2.1 ∧ q.it[i].2.1 ≤ 5) := by omega
        simp [rightI, this]
      · have : ¬ ((0 : Int) ≤ q.it[i].2.1 ∧ q.it[i].2.1 ≤ 5) := by omega
        simp [rightI, this]
      · refine IFB_not (IFB_of (fun h5 => ⟨_, S13.cell 0 rfl rfl, IFB_ne (fun h => absurd h4 h) (fun _ => good _ S13 (by simp [rightI, h1, h4, h5]))⟩) (fun h5 => bad _ S13 (by simp [rightI, h4, h5])))
      · have hr : ((0 : Int) ≤ q.it[i].2.1 ∧ q.it[i].2.1 ≤ 5) := by omega
        refine ⟨_, S13.cell 0 rfl rfl, IFB_ne (fun _ => ⟨_, S13.cell 0 rfl rfl, _, S13.cell 0 rfl rfl, _, S13.cell 0 rfl rfl, _, S13.cell 0 rfl rfl, _, S13.cell 0 rfl rfl, _, _, _, S13.cell 0 rfl rfl, (query_right_ok (E.grown S13.bel) (hxk.grown S13.bel)).mono ?_⟩) (fun h => absurd h h4)⟩
        rintro _ w14 ⟨_, rfl, rfl, B14⟩
        have S14 := S13.grown B14
        refine ⟨_, rfl, IFB_not (IFB_of (fun h5 => good _ S14 ?_) (fun h5 => bad _ S14 ?_))⟩
        · simp only [rightI, h1, if_neg h4, h5, decide_eq_true hr, Bool.and_self]
        · simp only [rightI, if_neg h4, h5, Bool.and_false]
  have hits : ∀ x ∈ q.it, rightI x = true := by rwa [List.take_of_length_le (by omega)] at hall
  refine ⟨_, _, _, S2.cell 0 rfl rfl, _, _, _, S2.cell 0 rfl rfl, S2.newB fun b61 w16 _ _ S16 => (concatEx_ok (S16.blk 0 rfl) (hrw.grown S16.bel) (hrg.grown S16.bel) (hCw.len fun x c h => ExC.len h) (hCg.len fun x c h => ExC.len h) (exL_one (rowsC_exL.1 hCw)) (exL_one (rowsC_exL.1 hCg)) (by omega)).mono ?_⟩
  rintro _ w17 ⟨_, rfl, a3, c3, rfl, hr3, B17⟩
  have S17 := (S16.drop 1).grown B17
  have hC3 := RowsC.append hCw hCg
  have hlen : (q.wh ++ q.gr).length = q.wh.length + q.gr.length := List.length_append
  refine ⟨_, _, _, rfl, fun st w18 => ∃ i : Nat, st = [.int .i64 (i : Int)] ∧ i ≤ (q.wh ++ q.gr).length ∧ (∀ x ∈ (q.wh ++ q.gr).take i, rightX x = true) ∧ Below w17.heap.size w17 w18 ∧ ST w w18 [quI b6 q ai aw ag ao ci cw cg co], fun st _ => match st with | [.int _ t] => (q.wh ++ q.gr).length - t.toNat | _ => 0, ⟨0, rfl, by omega, by simp, .refl _ _, S17⟩, ?_⟩
  rintro t w18 ⟨j, hst, hj, hallx, B18, S18⟩
  cases hst
  rw [← hlen]
  refine IFB_dec (fun hlt => ⟨⟨by omega, hlt⟩, ?_⟩) (fun hge => ?_)
  · have hil : j < (q.wh ++ q.gr).length := by omega
    obtain ⟨p, a5, cap5, rfl, hxk, cell⟩ := exs_at (hr3.grown B18) hC3 hil
    refine ⟨_, by rw [Int.toNat_natCast]; exact cell 0 _ rfl, _, by rw [Int.toNat_natCast]; exact cell 1 _ rfl, _, by rw [Int.toNat_natCast]; exact cell 2 _ rfl, _, by rw [Int.toNat_natCast]; exact cell 3 _ rfl, _, by rw [Int.toNat_natCast]; exact cell 4 _ rfl, _, _, _, by rw [Int.toNat_natCast]; exact cell 5 _ rfl, (ST.start w18).lit6 fun b76 w26 _ S26 => ?_⟩
    have T26 := S18.grown S26.bel
    refine ⟨_, S26.cell 0 rfl rfl, _, S26.cell 0 rfl rfl, _, S26.cell 0 rfl rfl, _, S26.cell 0 rfl rfl, _, S26.cell 0 rfl rfl, _, _, _, S26.cell 0 rfl rfl, (query_right_ok (E.grown T26.bel) (hxk.grown T26.bel)).mono ?_⟩
    rintro _ w27 ⟨_, rfl, rfl, B27⟩
    have T27 := T26.grown B27
    refine ⟨_, rfl, IFB_not (IFB_of (fun h => ?_) (fun h => no _ T27 fun hh => by rw [hh.2.2.1 _ (List.getElem_mem hil)] at h; cases h))⟩
    rw [wrap_succ (by omega)]
    refine ⟨⟨j + 1, rfl, by omega, all_snoc hil hallx h, below_trans (below_trans B18 S26.bel) B27, T27⟩, ?_⟩
    show (q.wh ++ q.gr).length - ((j + 1 : Nat) : Int).toNat < (q.wh ++ q.gr).length - ((j : Nat) : Int).toNat
    simp only [Int.toNat_natCast]
    omega
  · have hexs : ∀ x ∈ q.wh ++ q.gr, rightX x = true := by rwa [List.take_of_length_le (by omega)] at hallx
    refine ⟨_, _, _, S18.cell 0 rfl rfl, (any_api_Key_ok (hro.grown S18.bel) hCo Q.nod (by kernel_rfl) (fun k => !rightK q.it k.1) ?_).mono ?_⟩
    · rintro w19 k cc B19 _ ⟨rfl, _⟩
      exact fits_key_ok 0 ((Q.grown S18.bel).grown B19) (S18.grown B19) rfl k
    · rintro _ w19 ⟨_, rfl, rfl, B19⟩
      have S19 := S18.grown B19
      refine ⟨_, rfl, ?_, S19.bel⟩
      congr 1
      by_cases hk : ∀ k ∈ q.od, rightK q.it k.1 = true
      · rw [small_yes nums hits hexs hk, ← List.all_eq_not_any_not, List.all_eq_true]
        exact hk
      · rw [small_no fun hh => hk hh.2.2.2, ← List.all_eq_not_any_not, List.all_eq_false]
        simp only [Classical.not_forall] at hk
        obtain ⟨k, h1, h2⟩ := hk
        exact ⟨k, h1, h2⟩
end
section
variable {w : World} {q : Qu} {ai aw ag ao : Option Addr} {ci cw cg co : Nat}
end
end Go.Proofs.YtbpdfpfgijhokaaGreatDoor
namespace Go.Proofs.YtbpdfpfgijhokaaGreatDoor
set_option maxRecDepth 100000
open Go.Dn Go.Proofs
open Go.RowKit (Below)
set_option linter.unusedVariables false
/-! ### signs, rows -/
def powers : List (Int × Int × ByteArray) := [(1, 13, ⟨#[111, 114]⟩), (2, 12, ⟨#[97, 110, 100]⟩), (5, 9, ⟨#[61]⟩), (5, 10, ⟨#[60]⟩), (5, 11, ⟨#[60, 61]⟩), (6, 3, ⟨#[43]⟩), (6, 4, ⟨#[45]⟩), (7, 5, ⟨#[42]⟩), (7, 6, ⟨#[47]⟩), (7, 7, ⟨#[37]⟩)]
def powAt (i : Nat) : Int × Int × ByteArray := powers.getD i (0, 0, E0)
theorem query_power_ok (w : World) (i : Nat) (hi : i < 10) : Calls Tryz.prog f.query_power #[.agg #[.int .i64 0, .int .i64 0, .string (powAt i).2.2]] w (Ret fun r w' => r = .tuple #[.int .i64 (powAt i).1, .int .i64 (powAt i).2.1] ∧ Below w.heap.size w w') := by
  apply R.query_power_calls
  unfold R.query_power
  refine (ST.start w).newB fun b4 w1 _ _ S1 => ⟨_, S1.cell 0 rfl rfl, ?_⟩
  refine IFB_eq (fun h => absurd h (by decide)) (fun _ => ⟨_, S1.cell 0 rfl rfl, ?_⟩)
  simp only [bytesEq_iff]
  match i, hi with
  | 0, _ => exact ⟨rfl, S1.bel⟩
  | 1, _ => exact ⟨rfl, S1.bel⟩
  | 2, _ => exact ⟨rfl, S1.bel⟩
  | 3, _ => exact ⟨rfl, S1.bel⟩
  | 4, _ => exact ⟨rfl, S1.bel⟩
  | 5, _ => exact ⟨rfl, S1.bel⟩
  | 6, _ => exact ⟨rfl, S1.bel⟩
  | 7, _ => exact ⟨rfl, S1.bel⟩
  | 8, _ => exact ⟨rfl, S1.bel⟩
  | 9, _ => exact ⟨rfl, S1.bel⟩
theorem pow_row {op : Int} (h : 3 ≤ op ∧ op ≤ 13 ∧ op ≠ 8) : ∃ i, i < 10 ∧ (powAt i).2.1 = op ∧ (powAt i).1 = rowOf op ∧ (powAt i).2.2 = signOf op ∧ ∀ j, j < i → (powAt j).2.1 ≠ op := by
  obtain ⟨n, rfl⟩ : ∃ n : Nat, op = n := ⟨op.toNat, by omega⟩
  obtain ⟨h1, h2, h3⟩ := h
  have hn : n = 3 ∨ n = 4 ∨ n = 5 ∨ n = 6 ∨ n = 7 ∨ n = 9 ∨ n = 10 ∨ n = 11 ∨ n = 12 ∨ n = 13 := by omega
  have two : ∀ (i : Nat), (∀ j, j < i → (powAt j).2.1 ≠ (powAt i).2.1) ↔ (∀ j ∈ List.range i, (powAt j).2.1 ≠ (powAt i).2.1) := fun i => by simp
  rcases hn with rfl | rfl | rfl | rfl | rfl | rfl | rfl | rfl | rfl | rfl
  · exact ⟨5, by decide, rfl, rfl, rfl, (two 5).2 (by decide)⟩
  · exact ⟨6, by decide, rfl, rfl, rfl, (two 6).2 (by decide)⟩
  · exact ⟨7, by decide, rfl, rfl, rfl, (two 7).2 (by decide)⟩
  · exact ⟨8, by decide, rfl, rfl, rfl, (two 8).2 (by decide)⟩
  · exact ⟨9, by decide, rfl, rfl, rfl, (two 9).2 (by decide)⟩
  · exact ⟨2, by decide, rfl, rfl, rfl, (two 2).2 (by decide)⟩
  · exact ⟨3, by decide, rfl, rfl, rfl, (two 3).2 (by decide)⟩
  · exact ⟨4, by decide, rfl, rfl, rfl, (two 4).2 (by decide)⟩
  · exact ⟨1, by decide, rfl, rfl, rfl, (two 1).2 (by decide)⟩
  · exact ⟨0, by decide, rfl, rfl, rfl, (two 0).2 (by decide)⟩
theorem query_operator_ok (w : World) {op : Int} (h : 3 ≤ op ∧ op ≤ 13 ∧ op ≠ 8) : Calls Tryz.prog f.query_operator #[.int .i64 op] w (Ret fun r w' => r = .tuple #[.int .i64 (rowOf op), .string (signOf op)] ∧ Below w.heap.size w w') := by
  apply R.query_operator_calls
  unfold R.query_operator
  obtain ⟨n, hn, e1, e2, e3, hmin⟩ := pow_row h
  refine (ST.start w).newB fun b2 w1 _ _ S1 => ⟨fun st w2 => ∃ i : Nat, st = [.int .i64 (i : Int)] ∧ i ≤ n ∧ Below w.heap.size w w2 ∧ w2.heap[b2]? = w1.heap[b2]?, fun st _ => match st with | [.int _ q] => 10 - q.toNat | _ => 0, ⟨0, rfl, by omega, S1.bel, rfl⟩, ?_⟩
  rintro q w2 ⟨i, hst, hi, B2, hb⟩
  cases hst
  have hi10 : i < 10 := by omega
  have hblk : w2.heap[b2]? = some (.cells (powers.map fun p => Value.string p.2.2).toArray ty.string (0, 0)) := hb.trans (S1.blk 0 rfl)
  refine IFB_dec (fun hlt => ⟨⟨by omega, hlt⟩, (powAt i).2.2, ?_, ?_⟩) (fun hge => absurd (show (i : Int) < 10 by omega) hge)
  · rw [addr_add_blk, Int.toNat_natCast, Nat.mul_one, Nat.zero_add]
    have hl : i < powers.length := hi10
    simp only [World.cell?, hblk]
    simp [powAt, hl, List.getD_eq_getElem?_getD]
  refine (query_power_ok w2 i hi10).mono ?_
  rintro _ w3 ⟨_, rfl, rfl, B3⟩
  refine ⟨_, _, rfl, IFB_eq (fun he => ?_) (fun he => ?_)⟩
  · have : i = n := by
      rcases Nat.lt_or_ge i n with h' | h'
      · exact absurd he (hmin i h')
      · omega
    subst this
    exact ⟨by rw [e2, e3], below_trans B2 B3⟩
  · have hin : i < n := by
      rcases Nat.lt_or_ge i n with h' | h'
      · exact h'
      · obtain rfl : i = n := by omega
        exact absurd e1 he
    rw [wrap_succ (by omega)]
    refine ⟨⟨i + 1, rfl, by omega, below_trans B2 B3, ?_⟩, ?_⟩
    · rw [B3.block b2 (Array.getElem?_eq_some_iff.1 hblk).1, hb]
    · show 10 - ((i + 1 : Nat) : Int).toNat < 10 - ((i : Nat) : Int).toNat
      simp only [Int.toNat_natCast]
      omega
end Go.Proofs.YtbpdfpfgijhokaaGreatDoor
namespace Go.Proofs.YtbpdfpfgijhokaaGreatDoor
set_option maxRecDepth 100000
open Go.Dn Go.Proofs
open Go.RowKit (Below)
set_option linter.unusedVariables false
section
variable {op : Int} {nm : ByteArray} {v : Val} {k k' : Ex}
theorem text_col : (Ex.mk 1 nm v []).text = nm := by show nodeT 1 nm v (Ex.texts []) = _; unfold nodeT; rw [if_pos rfl]
theorem text_const : (Ex.mk 2 nm v []).text = sof (showL v) := by show nodeT 2 nm v (Ex.texts []) = _; unfold nodeT; rw [if_neg (by decide), if_pos rfl]
theorem text_len : (Ex.mk 16 nm v [k]).text = ⟨#[108, 101, 110, 40]⟩ ++ k.text ++ ⟨#[41]⟩ := by
  show nodeT 16 nm v (Ex.texts [k]) = _
  unfold nodeT
  rw [if_neg (by decide), if_neg (by decide), if_pos rfl, ← at_one k]
  rfl
theorem text_not : (Ex.mk 14 nm v [k]).text = ⟨#[110, 111, 116, 32]⟩ ++ k.at 3 := by
  show nodeT 14 nm v (Ex.texts [k]) = _
  unfold nodeT
  rw [if_neg (by decide), if_neg (by decide), if_neg (by decide), if_pos rfl]
  rfl
theorem text_null : (Ex.mk 15 nm v [k]).text = k.at 5 ++ ⟨#[32, 105, 115, 32, 110, 117, 108, 108]⟩ := by
  show nodeT 15 nm v (Ex.texts [k]) = _
  unfold nodeT
  rw [if_neg (by decide), if_neg (by decide), if_neg (by decide), if_neg (by decide), if_pos rfl]
  rfl
theorem text_neg : (Ex.mk 8 nm v [k]).text = if isNum k.op k.v = true then ⟨#[45, 40]⟩ ++ k.text ++ ⟨#[41]⟩ else ⟨#[45]⟩ ++ k.at 8 := by
  show nodeT 8 nm v (Ex.texts [k]) = _
  unfold nodeT
  rw [if_neg (by decide), if_neg (by decide), if_neg (by decide), if_neg (by decide), if_neg (by decide), if_pos rfl, ← at_one k]
  rfl
theorem text_two (h : 3 ≤ op ∧ op ≤ 13 ∧ op ≠ 8) : (Ex.mk op nm v [k, k']).text = k.at (leftNeed op) ++ ⟨#[32]⟩ ++ signOf op ++ ⟨#[32]⟩ ++ k'.at (rowOf op + 1) := by
  simp only [Ex.text, nodeT]
  rw [if_neg (by omega), if_neg (by omega), if_neg (by omega), if_neg (by omega), if_neg (by omega), if_neg (by omega)]
  rfl
end
theorem row_range (op : Int) : 1 ≤ rowOf op ∧ rowOf op ≤ 9 := by
  unfold rowOf
  by_cases h1 : op = 13
  · rw [if_pos h1]; omega
  rw [if_neg h1]
  by_cases h2 : op = 12
  · rw [if_pos h2]; omega
  rw [if_neg h2]
  by_cases h3 : op = 14
  · rw [if_pos h3]; omega
  rw [if_neg h3]
  by_cases h4 : op = 15
  · rw [if_pos h4]; omega
  rw [if_neg h4]
  by_cases h5 : op = 9 ∨ op = 10 ∨ op = 11
  · rw [if_pos h5]; omega
  rw [if_neg h5]
  by_cases h6 : op = 3 ∨ op = 4
  · rw [if_pos h6]; omega
  rw [if_neg h6]
  by_cases h7 : op = 5 ∨ op = 6 ∨ op = 7
  · rw [if_pos h7]; omega
  rw [if_neg h7]
  by_cases h8 : op = 8
  · rw [if_pos h8]; omega
  rw [if_neg h8]; omega
theorem fair_size {x : Ex} {d : Nat} (h : x.fair d) (hs : x.size ≤ 400) : x.text.size ≤ 840000 := by
  have := text_size x d h
  omega
theorem atS {x : Ex} {d : Nat} (h : x.fair d) (hs : x.size ≤ 400) (need : Int) : (x.at need).size ≤ 840002 := by
  have := at_size x need
  have := fair_size h hs
  omega
theorem const_val {op : Int} {nm : ByteArray} {v : Val} {ks : List Ex} {d : Nat} (h : (Ex.mk op nm v ks).fair d) : ValOk v := by
  have := h.2.2
  unfold Ex.fit at this
  exact ⟨this.1.2.2.1.1, this.1.2.2.1.2⟩
theorem showV_right {v : Val} (h : rightB v = true) : showV v = .tuple #[.string (sof (showL v)), .int .i64 0] := by unfold showV; rw [if_pos h]
def ShownOk (x : Ex) : Prop := ∀ (w : World) (a : Option Addr) (cap : Nat) (lv : Int), Env w → XC w x (exHead x a cap) → Calls Tryz.prog f.query_shown #[.agg ⟨exHead x a cap⟩, .int .i64 lv] w (Ret fun r w' => r = .string (x.at lv) ∧ Below w.heap.size w w')
theorem query_shown_ok : ∀ (x : Ex) (d : Nat), x.fair d → x.size ≤ 400 → ShownOk x := by
  intro x
  induction x using Ex.ind with
  | h op nm v ks ih =>
    intro d hf hsz w a cap lv E hx
    cases d with
    | zero => have := hf.1; simp [Ex.okA] at this
    | succ d =>
    obtain ⟨ho, hk⟩ := hf.kid
    have hv := const_val hf
    have hxs := fair_size hf hsz
    obtain ⟨rs, hrd, hkids, _⟩ := exHead_inj hx
    change ExL _ _ ks rs at hkids
    apply R.query_shown_calls
    unfold R.query_shown
    have e40 : (ByteArray.mk #[40]).size = 1 := rfl
    have e41 : (ByteArray.mk #[41]).size = 1 := rfl
    have e45 : (ByteArray.mk #[45]).size = 1 := rfl
    have e4540 : (ByteArray.mk #[45, 40]).size = 2 := rfl
    have elen : (ByteArray.mk #[108, 101, 110, 40]).size = 4 := rfl
    have enot : (ByteArray.mk #[110, 111, 116, 32]).size = 4 := rfl
    have eis : (ByteArray.mk #[32, 105, 115, 32, 110, 117, 108, 108]).size = 8 := rfl
    have e32 : (ByteArray.mk #[32]).size = 1 := rfl
    refine (ST.start w).newB fun b8 w1 _ _ S1 => ⟨fun st w20 => st = [.int .i64 (Ex.lvl (.mk op nm v ks)), .string (Ex.text (.mk op nm v ks))] ∧ Below w.heap.size w w20, ⟨_, S1.cell 0 rfl rfl, ?_⟩, ?_⟩
    rotate_left
    · rintro own s w20 ⟨hst, B20⟩
      obtain ⟨rfl, rfl⟩ : own = Ex.lvl (.mk op nm v ks) ∧ s = Ex.text (.mk op nm v ks) := by simpa using hst
      refine IFB_dec (fun h => ⟨by omega, by simp only [ByteArray.size_append]; omega, ?_, B20⟩) (fun h => ⟨?_, B20⟩)
      · unfold Ex.at wrapT; rw [if_pos h]; rfl
      · unfold Ex.at wrapT; rw [if_neg h]
    have lvr : ¬ op = 2 → Ex.lvl (.mk op nm v ks) = rowOf op := fun h => by
      show lvlOf op v = rowOf op
      unfold lvlOf
      rw [if_neg fun h' => h h'.1]
    rcases okN_kids ho with ⟨hop, rfl⟩ | ⟨hop, k, rfl⟩ | ⟨hop, k, k', rfl⟩
    · rcases hop with rfl | rfl
      · refine IFB_eq (fun _ => ⟨_, S1.cell 0 rfl rfl, ?_, S1.bel⟩) (fun h => absurd rfl h)
        rw [text_col, lvr (by decide)]
        rfl
      · refine IFB_eq (fun h => absurd (show (2 : Int) = _ from h) (by decide)) (fun _ => IFB_eq (fun _ => ⟨_, S1.cell 0 rfl rfl, _, S1.cell 0 rfl rfl, _, S1.cell 0 rfl rfl, (value_Show_ok (E.grown S1.bel) v hv).mono ?_⟩) (fun h => absurd rfl h))
        rintro _ w2 ⟨_, rfl, rfl, B2⟩
        have S2 := S1.grown B2
        rw [showV_right (v := v) (okN_iff.1 ho).2.2.2, text_const]
        refine ⟨_, _, rfl, _, S2.cell 0 rfl rfl, IFB_dec (fun h => ⟨?_, S2.bel⟩) (fun h => ⟨?_, S2.bel⟩)⟩
        · have : Ex.lvl (.mk 2 nm v []) = 8 := by
            show lvlOf 2 v = 8
            unfold lvlOf
            rw [if_pos ⟨rfl, h⟩]
          rw [this]
        · have : Ex.lvl (.mk 2 nm v []) = 9 := by
            show lvlOf 2 v = 9
            unfold lvlOf
            rw [if_neg fun h' => h h'.2]
            rfl
          rw [this]
    · have hks : k.size ≤ 400 := by simp only [Ex.size, Ex.sizeL] at hsz; omega
      have hkf := hk k (by simp)
      have hkt := ih k (by simp) d hkf hks
      have hs := fair_size hkf hks
      obtain ⟨p, a3, cap3, rfl, hxk, c0, c1, c2, c3, c4, c5⟩ := ex_at (hrd.grown S1.bel) hkids (i := 0) (by simp)
      change XC w k (exHead k a3 cap3) at hxk
      rcases hop with rfl | rfl | rfl | rfl
      · refine IFB_eq (fun h => absurd (show (8 : Int) = _ from h) (by decide)) (fun _ => IFB_eq (fun h => absurd (show (8 : Int) = _ from h) (by decide)) (fun _ => IFB_eq (fun h => absurd (show (8 : Int) = _ from h) (by decide)) (fun _ => IFB_eq (fun h => absurd (show (8 : Int) = _ from h) (by decide)) (fun _ => IFB_eq (fun h => absurd (show (8 : Int) = _ from h) (by decide)) (fun _ => IFB_eq (fun _ => ?_) (fun h => absurd rfl h))))))
        refine ⟨_, _, _, S1.cell 0 rfl rfl, ⟨by decide, by show (0 : Int) < 1; decide⟩, _, c0, _, c1, _, c2, _, c3, _, c4, _, _, _, c5, (hkt w1 a3 cap3 8 (E.grown S1.bel) (hxk.grown S1.bel)).mono ?_⟩
        rintro _ w6 ⟨_, rfl, rfl, B6⟩
        have S6 := S1.grown B6
        have K6 := Keeps.of_below (F := fun _ => False) B6
        have a8 := atS hkf hks 8
        have l8 : Ex.lvl (.mk 8 nm v [k]) = 8 := by rw [lvr (by decide)]; rfl
        rw [l8, text_neg]
        refine ⟨_, rfl, by omega, _, _, _, S6.cell 0 rfl rfl, ⟨by decide, by show (0 : Int) < 1; decide⟩, _, K6.cell c0 (by simp), _, K6.cell c1 (by simp), _, K6.cell c2 (by simp), _, K6.cell c3 (by simp), _, K6.cell c4 (by simp), _, _, _, K6.cell c5 (by simp), S6.lit6 fun b66 w13 _ S13 => ⟨_, S13.cell 0 rfl rfl, ?_⟩⟩
        refine IFB_eq (fun h2 => ⟨_, S13.cell 0 rfl rfl, IFB_eq (fun h1 => ⟨_, S13.cell 0 rfl rfl, _, S13.cell 0 rfl rfl, _, S13.cell 0 rfl rfl, _, S13.cell 0 rfl rfl, _, S13.cell 0 rfl rfl, _, _, _, S13.cell 0 rfl rfl, (hkt w13 a3 cap3 1 (E.grown S13.bel) (hxk.grown S13.bel)).mono ?_⟩) (fun h1 => ⟨?_, S13.bel⟩)⟩) (fun h2 => ⟨?_, S13.bel⟩)
        · rintro _ w14 ⟨_, rfl, rfl, B14⟩
          rw [at_one]
          refine ⟨_, rfl, by omega, by simp only [ByteArray.size_append]; omega, ?_, (S13.grown B14).bel⟩
          rw [if_pos (show isNum k.op k.v = true from decide_eq_true ⟨h2, h1⟩)]
        · rw [if_neg (show ¬ isNum k.op k.v = true from fun h => h1 (of_decide_eq_true h).2)]
        · rw [if_neg (show ¬ isNum k.op k.v = true from fun h => h2 (of_decide_eq_true h).1)]
      · refine IFB_eq (fun h => absurd (show (14 : Int) = _ from h) (by decide)) (fun _ => IFB_eq (fun h => absurd (show (14 : Int) = _ from h) (by decide)) (fun _ => IFB_eq (fun h => absurd (show (14 : Int) = _ from h) (by decide)) (fun _ => IFB_eq (fun _ => ?_) (fun h => absurd rfl h))))
        refine ⟨_, _, _, S1.cell 0 rfl rfl, ⟨by decide, by show (0 : Int) < 1; decide⟩, _, c0, _, c1, _, c2, _, c3, _, c4, _, _, _, c5, (hkt w1 a3 cap3 3 (E.grown S1.bel) (hxk.grown S1.bel)).mono ?_⟩
        rintro _ w14 ⟨_, rfl, rfl, B14⟩
        have a3' := atS hkf hks 3
        refine ⟨_, rfl, by omega, ?_, (S1.grown B14).bel⟩
        rw [text_not, lvr (by decide)]
        rfl
      · refine IFB_eq (fun h => absurd (show (15 : Int) = _ from h) (by decide)) (fun _ => IFB_eq (fun h => absurd (show (15 : Int) = _ from h) (by decide)) (fun _ => IFB_eq (fun h => absurd (show (15 : Int) = _ from h) (by decide)) (fun _ => IFB_eq (fun h => absurd (show (15 : Int) = _ from h) (by decide)) (fun _ => IFB_eq (fun _ => ?_) (fun h => absurd rfl h)))))
        refine ⟨_, _, _, S1.cell 0 rfl rfl, ⟨by decide, by show (0 : Int) < 1; decide⟩, _, c0, _, c1, _, c2, _, c3, _, c4, _, _, _, c5, (hkt w1 a3 cap3 5 (E.grown S1.bel) (hxk.grown S1.bel)).mono ?_⟩
        rintro _ w14 ⟨_, rfl, rfl, B14⟩
        have a5' := atS hkf hks 5
        refine ⟨_, rfl, by omega, ?_, (S1.grown B14).bel⟩
        rw [text_null, lvr (by decide)]
        rfl
      · refine IFB_eq (fun h => absurd (show (16 : Int) = _ from h) (by decide)) (fun _ => IFB_eq (fun h => absurd (show (16 : Int) = _ from h) (by decide)) (fun _ => IFB_eq (fun _ => ?_) (fun h => absurd rfl h)))
        refine ⟨_, _, _, S1.cell 0 rfl rfl, ⟨by decide, by show (0 : Int) < 1; decide⟩, _, c0, _, c1, _, c2, _, c3, _, c4, _, _, _, c5, (hkt w1 a3 cap3 1 (E.grown S1.bel) (hxk.grown S1.bel)).mono ?_⟩
        rintro _ w14 ⟨_, rfl, rfl, B14⟩
        rw [at_one]
        refine ⟨_, rfl, by omega, by simp only [ByteArray.size_append]; omega, ?_, (S1.grown B14).bel⟩
        rw [text_len, lvr (by decide)]
        rfl
    · have hks : k.size ≤ 400 ∧ k'.size ≤ 400 := by simp only [Ex.size, Ex.sizeL] at hsz; omega
      have hkf := hk k (by simp)
      have hkf' := hk k' (by simp)
      have hkt := ih k (by simp) d hkf hks.1
      have hkt' := ih k' (by simp) d hkf' hks.2
      have hs := fair_size hkf hks.1
      have hs' := fair_size hkf' hks.2
      refine IFB_eq (fun h => by change op = 1 at h; omega) (fun _ => IFB_eq (fun h => by change op = 2 at h; omega) (fun _ => IFB_eq (fun h => by change op = 16 at h; omega) (fun _ => IFB_eq (fun h => by change op = 14 at h; omega) (fun _ => IFB_eq (fun h => by change op = 15 at h; omega) (fun _ => IFB_eq (fun h => by change op = 8 at h; omega) (fun _ => ?_))))))
      refine ⟨_, S1.cell 0 rfl rfl, (query_operator_ok w1 hop).mono ?_⟩
      rintro _ w15 ⟨_, rfl, rfl, B15⟩
      have S15 := S1.grown B15
      refine ⟨_, _, rfl, fun st w16 => st = [.int .i64 (leftNeed op)] ∧ w16 = w15, IFB_eq (fun h => ⟨by unfold leftNeed; rw [if_pos h], rfl⟩) (fun h => ⟨by unfold leftNeed; rw [if_neg h], rfl⟩), ?_⟩
      rintro left w16 ⟨hleft, rfl⟩
      obtain rfl : left = leftNeed op := by simpa using hleft
      refine S15.draw fun w17 _ S17 => ?_
      obtain ⟨p, a3, cap3, rfl, hxk, c0, c1, c2, c3, c4, c5⟩ := ex_at (hrd.grown S17.bel) hkids (i := 0) (by simp)
      obtain ⟨p', a4, cap4, hp', hxk', d0, d1, d2, d3, d4, d5⟩ := ex_at (hrd.grown S17.bel) hkids (i := 1) (by simp)
      cases hp'
      change XC w k (exHead k a3 cap3) at hxk
      change XC w k' (exHead k' a4 cap4) at hxk'
      refine ⟨_, _, _, S17.cell 0 rfl rfl, ⟨by decide, by show (0 : Int) < 2; decide⟩, _, c0, _, c1, _, c2, _, c3, _, c4, _, _, _, c5, _, _, _, S17.cell 0 rfl rfl, ⟨by decide, by show (1 : Int) < 2; decide⟩, _, d0, _, d1, _, d2, _, d3, _, d4, _, _, _, d5, (hkt w17 a3 cap3 (leftNeed op) (E.grown S17.bel) (hxk.grown S17.bel)).mono ?_⟩
      rintro _ w18 ⟨_, rfl, rfl, B18⟩
      have S18 := S17.grown B18
      have K18 := Keeps.of_below (F := fun _ => False) B18
      have hsg := sign_size op
      have al := atS hkf hks.1 (leftNeed op)
      have ar := atS hkf' hks.2 (rowOf op + 1)
      refine ⟨_, rfl, ⟨K18.cell d0 (by simp), K18.cell d1 (by simp), K18.cell d2 (by simp), K18.cell d3 (by simp), K18.cell d4 (by simp), K18.cell d5 (by simp)⟩, S18.cell 0 rfl rfl, by omega, by simp only [ByteArray.size_append]; omega, by simp only [ByteArray.size_append]; omega, ?_⟩
      have hr9 := row_range op
      rw [wrap_i64 (by omega) (by omega)]
      refine (hkt' w18 a4 cap4 (rowOf op + 1) (E.grown S18.bel) (hxk'.grown S18.bel)).mono ?_
      rintro _ w19 ⟨_, rfl, rfl, B19⟩
      refine ⟨_, rfl, by simp only [ByteArray.size_append]; omega, ?_, (S18.grown B19).bel⟩
      rw [text_two hop, lvr (by omega)]
theorem app_e0 (x : ByteArray) : x ++ E0 = x := ByteArray.append_empty
theorem commas_cons (x : ByteArray) (l : List ByteArray) : commas (x :: l) = x ++ sof (Lib.joinTail [44, 32] (l.map bl)) := by
  induction l generalizing x with
  | nil => exact (app_e0 x).symm
  | cons y l ih =>
    show x ++ ⟨#[44, 32]⟩ ++ commas (y :: l) = _
    rw [ih y]
    have e : sof (Lib.joinTail [44, 32] ((y :: l).map bl)) = ⟨#[44, 32]⟩ ++ (y ++ sof (Lib.joinTail [44, 32] (l.map bl))) := by
      rw [show (ByteArray.mk #[44, 32]) = sof [44, 32] from rfl]
      conv => rhs; rw [← sof_bl y]
      rw [sof_append, sof_append]
      simp [Lib.joinTail]
    rw [e, ByteArray.append_assoc]
theorem commas_join (l : List ByteArray) : commas l = sof (Lib.join (l.map bl) [44, 32]) := by
  cases l with
  | nil => rfl
  | cons x l =>
    rw [commas_cons, List.map_cons, Lib.join_cons]
    conv => lhs; rw [← sof_bl x]
    rw [sof_append]
theorem commas_size {B : Nat} : ∀ (l : List ByteArray), (∀ x ∈ l, x.size ≤ B) → (commas l).size ≤ l.length * (B + 2)
  | [], _ => by show 0 ≤ _; exact Nat.zero_le _
  | [x], h => by have := h x (by simp); show x.size ≤ _; simp; omega
  | x :: y :: l, h => by
    have h1 := h x (by simp)
    have h2 := commas_size (y :: l) fun z hz => h z (by simp [hz])
    show (x ++ ⟨#[44, 32]⟩ ++ commas (y :: l)).size ≤ _
    have e : (ByteArray.mk #[44, 32]).size = 2 := rfl
    rw [ByteArray.size_append, ByteArray.size_append, e, List.length_cons, Nat.add_mul]
    omega
theorem part_size {B : Nat} (head : ByteArray) (l : List ByteArray) (h : ∀ x ∈ l, x.size ≤ B) : (partT head l).size ≤ head.size + l.length * (B + 2) := by
  unfold partT
  split
  · exact Nat.zero_le _
  · rw [ByteArray.size_append]
    have := commas_size l h
    omega
section
variable {w0 w : World} {H : List It} {a : Option Addr} {c : Nat}
theorem join_ok (S : ST w0 w H) (n : Nat) {xs : List ByteArray} (hn : H[n]? = some (strsI a c xs)) (h1 : xs ≠ []) (hl : xs.length ≤ 100) (hs : ∀ x ∈ xs, x.size ≤ 1000000) : Calls Tryz.prog f.strings_Join #[.slice a xs.length c, .string ⟨#[44, 32]⟩] w (Ret fun v w' => v = .string (commas xs) ∧ Below w.heap.size w w') := by
  have hR : Row w ty.string 1 a xs.length c (xs.map Value.string) := S.get n hn
  rcases hR.2 with ⟨_, h, _⟩ | ⟨g, cur, rfl, hg, hcap, _, _, _⟩
  · exact absurd (List.eq_nil_of_length_eq_zero h) h1
  · have hj : (Lib.join (xs.map bl) [44, 32]).length ≤ 140737488355328 := by
      have h2 := commas_size xs hs
      rw [commas_join, size_sof] at h2
      have h3 : xs.length * (1000000 + 2) ≤ 100 * (1000000 + 2) := Nat.mul_le_mul_right _ hl
      omega
    refine (Tryz.strings_Join g 0 c xs ⟨#[44, 32]⟩ w (fun j x hx => ?_) (Array.getElem?_eq_some_iff.1 hg).1 (by omega) hcap hj).mono ?_
    · obtain ⟨p, hp, hc⟩ := hR.rd j (.string x) (by rw [List.getElem?_map, hx]; rfl)
      cases hp
      rw [addr_add_blk] at hc
      exact hc
    · rintro _ w' ⟨rfl, B⟩
      exact ⟨_, rfl, by rw [commas_join]; rfl, B⟩
end
theorem parts_api_Item_ok {w0 : World} {w : World} (head : ByteArray) {a : Option Addr} {c0 : Nat} {rs : List Value} {l : List Itm} (hl : Rd w a rs) (hC : RowsC (ItC (fun _ => False) w0) l rs) (hn : l.length ≤ 100) {fn : FuncId} {fi ca : Array Value} (hen : enters Tryz.prog fn = true) (g : Itm → ByteArray) (hh : head.size ≤ 1000) (hs : ∀ x ∈ l, (g x).size ≤ 1000000)
    (hf : ∀ w' x c, Below w.heap.size w w' → x ∈ l → (ItC (fun _ => False) w0) x c → Calls Tryz.prog fn ⟨fi.toList ++ [.agg ⟨c⟩] ++ ca.toList⟩ w' (Ret fun r w'' => r = .string (g x) ∧ Below w'.heap.size w' w'')) :
    Calls Tryz.prog f.query_parts_api_Item #[.string head, .slice a l.length c0, .func (.func fn) fi ca] w (Ret fun r w' => r = .string (partT head (l.map g)) ∧ Below w.heap.size w w') := by
  apply R.query_parts_api_Item_calls
  unfold R.query_parts_api_Item
  refine ⟨fun st w1 => ∃ (i : Nat) (oa : Option Addr) (oc : Nat), st = [.slice oa ((l.take i).map g).length oc, .int .i64 (i : Int)] ∧ i ≤ l.length ∧ ST w w1 [strsI oa oc ((l.take i).map g)], fun st _ => match st with | [_, .int _ t] => l.length - t.toNat | _ => 0, ⟨0, none, 0, rfl, by omega, (ST.start w).nil ty.string 1⟩, ?_⟩
  rintro oa ol oc t w1 ⟨i, oa', oc', hst, hi, S1⟩
  cases hst
  refine IFB_dec (fun hlt => ⟨⟨by omega, hlt⟩, ?_⟩) (fun hge => ?_)
  · have hil : i < l.length := by omega
    obtain ⟨q, c, rfl, hc, cell⟩ := rows_at (n := 8) (fun x c h => ItC.len h) (by decide) (hl.grown S1.bel) hC hil
    have hcc := hc
    obtain ⟨ce, rfl, hx, hy⟩ := id hc
    obtain ⟨a9, cap9, _, rfl, _⟩ := ExC.open hx
    refine ⟨_, by rw [Int.toNat_natCast]; exact cell 0 _ rfl, _, by rw [Int.toNat_natCast]; exact cell 1 _ rfl, _, by rw [Int.toNat_natCast]; exact cell 2 _ rfl, _, by rw [Int.toNat_natCast]; exact cell 3 _ rfl, _, by rw [Int.toNat_natCast]; exact cell 4 _ rfl, _, by rw [Int.toNat_natCast]; exact cell 5 _ rfl, _, by rw [Int.toNat_natCast]; exact cell 6 _ rfl, _, _, _, by rw [Int.toNat_natCast]; exact cell 7 _ rfl, (S1.lit8 fun b16 w2 _ S2 => ?_)⟩
    refine ⟨_, S2.cell 0 rfl rfl, _, S2.cell 0 rfl rfl, _, S2.cell 0 rfl rfl, _, S2.cell 0 rfl rfl, _, S2.cell 0 rfl rfl, _, S2.cell 0 rfl rfl, _, S2.cell 0 rfl rfl, _, _, _, S2.cell 0 rfl rfl, ?_⟩
    rw [hen]
    refine (hf w2 _ _ S2.bel (List.getElem_mem hil) hcc).mono ?_
    rintro _ w11 ⟨_, rfl, rfl, B11⟩
    have S11 := S2.grown B11
    have htk : (l.take (i + 1)).map g = (l.take i).map g ++ [g l[i]] := by rw [List.take_succ_eq_append_getElem hil, List.map_append]; rfl
    have hlen : ((l.take i).map g).length = i := by simp; omega
    refine ⟨_, rfl, S11.newB fun b27 w12 _ _ S12 => stAppS S12 2 rfl (ys := [g l[i]]) (mm := 1) rfl (S12.rdc 0 rfl) (by omega) fun a' c' w13 S13 => ⟨_, _, _, rfl, ?_, ?_⟩⟩
    · rw [← htk] at S13 ⊢
      exact ⟨i + 1, a', c', by rw [wrap_succ (by omega)], by omega, S13.drop 2⟩
    · show l.length - (IntKind.i64.wrap ((i : Int) + 1)).toNat < l.length - ((i : Nat) : Int).toNat
      rw [wrap_succ (by omega)]
      simp only [Int.toNat_natCast]
      omega
  · obtain rfl : i = l.length := by omega
    rw [List.take_length] at S1 ⊢
    refine IFB_eq (fun h => ⟨?_, S1.bel⟩) (fun h => (join_ok S1 0 rfl (fun e => h (by rw [e]; rfl)) (by simpa using hn) (fun x hx => by obtain ⟨y, hy, rfl⟩ := List.mem_map.1 hx; exact hs y hy)).mono ?_)
    · unfold partT
      rw [if_pos (by omega)]
    · rintro _ w14 ⟨_, rfl, rfl, B14⟩
      have hz := commas_size (B := 1000000) (l.map g) (fun x hx => by obtain ⟨y, hy, rfl⟩ := List.mem_map.1 hx; exact hs y hy)
      rw [List.length_map] at hz
      have h3 : l.length * (1000000 + 2) ≤ 100 * (1000000 + 2) := Nat.mul_le_mul_right _ hn
      refine ⟨_, rfl, by omega, ?_, (S1.grown B14).bel⟩
      unfold partT
      rw [if_neg (by omega)]
theorem parts_api_Expr_ok {w0 : World} {w : World} (head : ByteArray) {a : Option Addr} {c0 : Nat} {rs : List Value} {l : List Ex} (hl : Rd w a rs) (hC : RowsC (ExC (fun _ => False) w0) l rs) (hn : l.length ≤ 100) {fn : FuncId} {fi ca : Array Value} (hen : enters Tryz.prog fn = true) (g : Ex → ByteArray) (hh : head.size ≤ 1000) (hs : ∀ x ∈ l, (g x).size ≤ 1000000)
    (hf : ∀ w' x c, Below w.heap.size w w' → x ∈ l → (ExC (fun _ => False) w0) x c → Calls Tryz.prog fn ⟨fi.toList ++ [.agg ⟨c⟩] ++ ca.toList⟩ w' (Ret fun r w'' => r = .string (g x) ∧ Below w'.heap.size w' w'')) :
    Calls Tryz.prog f.query_parts_api_Expr #[.string head, .slice a l.length c0, .func (.func fn) fi ca] w (Ret fun r w' => r = .string (partT head (l.map g)) ∧ Below w.heap.size w w') := by
  apply R.query_parts_api_Expr_calls
  unfold R.query_parts_api_Expr
  refine ⟨fun st w1 => ∃ (i : Nat) (oa : Option Addr) (oc : Nat), st = [.slice oa ((l.take i).map g).length oc, .int .i64 (i : Int)] ∧ i ≤ l.length ∧ ST w w1 [strsI oa oc ((l.take i).map g)], fun st _ => match st with | [_, .int _ t] => l.length - t.toNat | _ => 0, ⟨0, none, 0, rfl, by omega, (ST.start w).nil ty.string 1⟩, ?_⟩
  rintro oa ol oc t w1 ⟨i, oa', oc', hst, hi, S1⟩
  cases hst
  refine IFB_dec (fun hlt => ⟨⟨by omega, hlt⟩, ?_⟩) (fun hge => ?_)
  · have hil : i < l.length := by omega
    obtain ⟨q, c, rfl, hc, cell⟩ := rows_at (n := 6) (fun x c h => ExC.len h) (by decide) (hl.grown S1.bel) hC hil
    have hcc := hc
    obtain ⟨a9, cap9, _, rfl, _⟩ := ExC.open hc
    refine ⟨_, by rw [Int.toNat_natCast]; exact cell 0 _ rfl, _, by rw [Int.toNat_natCast]; exact cell 1 _ rfl, _, by rw [Int.toNat_natCast]; exact cell 2 _ rfl, _, by rw [Int.toNat_natCast]; exact cell 3 _ rfl, _, by rw [Int.toNat_natCast]; exact cell 4 _ rfl, _, _, _, by rw [Int.toNat_natCast]; exact cell 5 _ rfl, (S1.lit6 fun b16 w2 _ S2 => ?_)⟩
    refine ⟨_, S2.cell 0 rfl rfl, _, S2.cell 0 rfl rfl, _, S2.cell 0 rfl rfl, _, S2.cell 0 rfl rfl, _, S2.cell 0 rfl rfl, _, _, _, S2.cell 0 rfl rfl, ?_⟩
    rw [hen]
    refine (hf w2 _ _ S2.bel (List.getElem_mem hil) hcc).mono ?_
    rintro _ w11 ⟨_, rfl, rfl, B11⟩
    have S11 := S2.grown B11
    have htk : (l.take (i + 1)).map g = (l.take i).map g ++ [g l[i]] := by rw [List.take_succ_eq_append_getElem hil, List.map_append]; rfl
    have hlen : ((l.take i).map g).length = i := by simp; omega
    refine ⟨_, rfl, S11.newB fun b27 w12 _ _ S12 => stAppS S12 2 rfl (ys := [g l[i]]) (mm := 1) rfl (S12.rdc 0 rfl) (by omega) fun a' c' w13 S13 => ⟨_, _, _, rfl, ?_, ?_⟩⟩
    · rw [← htk] at S13 ⊢
      exact ⟨i + 1, a', c', by rw [wrap_succ (by omega)], by omega, S13.drop 2⟩
    · show l.length - (IntKind.i64.wrap ((i : Int) + 1)).toNat < l.length - ((i : Nat) : Int).toNat
      rw [wrap_succ (by omega)]
      simp only [Int.toNat_natCast]
      omega
  · obtain rfl : i = l.length := by omega
    rw [List.take_length] at S1 ⊢
    refine IFB_eq (fun h => ⟨?_, S1.bel⟩) (fun h => (join_ok S1 0 rfl (fun e => h (by rw [e]; rfl)) (by simpa using hn) (fun x hx => by obtain ⟨y, hy, rfl⟩ := List.mem_map.1 hx; exact hs y hy)).mono ?_)
    · unfold partT
      rw [if_pos (by omega)]
    · rintro _ w14 ⟨_, rfl, rfl, B14⟩
      have hz := commas_size (B := 1000000) (l.map g) (fun x hx => by obtain ⟨y, hy, rfl⟩ := List.mem_map.1 hx; exact hs y hy)
      rw [List.length_map] at hz
      have h3 : l.length * (1000000 + 2) ≤ 100 * (1000000 + 2) := Nat.mul_le_mul_right _ hn
      refine ⟨_, rfl, by omega, ?_, (S1.grown B14).bel⟩
      unfold partT
      rw [if_neg (by omega)]
theorem parts_api_Key_ok {w : World} (head : ByteArray) {a : Option Addr} {c0 : Nat} {rs : List Value} {l : List (Int × Bool)} (hl : Rd w a rs) (hC : RowsC (keyC) l rs) (hn : l.length ≤ 100) {fn : FuncId} {fi ca : Array Value} (hen : enters Tryz.prog fn = true) (g : (Int × Bool) → ByteArray) (hh : head.size ≤ 1000) (hs : ∀ x ∈ l, (g x).size ≤ 1000000)
    (hf : ∀ w' x c, Below w.heap.size w w' → x ∈ l → (keyC) x c → Calls Tryz.prog fn ⟨fi.toList ++ [.agg ⟨c⟩] ++ ca.toList⟩ w' (Ret fun r w'' => r = .string (g x) ∧ Below w'.heap.size w' w'')) :
    Calls Tryz.prog f.query_parts_api_Key #[.string head, .slice a l.length c0, .func (.func fn) fi ca] w (Ret fun r w' => r = .string (partT head (l.map g)) ∧ Below w.heap.size w w') := by
  apply R.query_parts_api_Key_calls
  unfold R.query_parts_api_Key
  refine ⟨fun st w1 => ∃ (i : Nat) (oa : Option Addr) (oc : Nat), st = [.slice oa ((l.take i).map g).length oc, .int .i64 (i : Int)] ∧ i ≤ l.length ∧ ST w w1 [strsI oa oc ((l.take i).map g)], fun st _ => match st with | [_, .int _ t] => l.length - t.toNat | _ => 0, ⟨0, none, 0, rfl, by omega, (ST.start w).nil ty.string 1⟩, ?_⟩
  rintro oa ol oc t w1 ⟨i, oa', oc', hst, hi, S1⟩
  cases hst
  refine IFB_dec (fun hlt => ⟨⟨by omega, hlt⟩, ?_⟩) (fun hge => ?_)
  · have hil : i < l.length := by omega
    obtain ⟨q, c, rfl, hc, cell⟩ := rows_at (n := 2) (fun x c h => keyC_len h) (by decide) (hl.grown S1.bel) hC hil
    have hcc := hc
    obtain rfl := hc.1
    refine ⟨_, by rw [Int.toNat_natCast]; exact cell 0 _ rfl, _, by rw [Int.toNat_natCast]; exact cell 1 _ rfl, (S1.newB fun b16 w2a _ _ S2a => S2a.sto 0 rfl (by simp) rfl fun w2b S2b => S2b.sto 0 rfl (by simp) rfl fun w2 S2 => ?_)⟩
    refine ⟨_, S2.cell 0 rfl rfl, _, S2.cell 0 rfl rfl, ?_⟩
    rw [hen]
    refine (hf w2 _ _ S2.bel (List.getElem_mem hil) hcc).mono ?_
    rintro _ w11 ⟨_, rfl, rfl, B11⟩
    have S11 := S2.grown B11
    have htk : (l.take (i + 1)).map g = (l.take i).map g ++ [g l[i]] := by rw [List.take_succ_eq_append_getElem hil, List.map_append]; rfl
    have hlen : ((l.take i).map g).length = i := by simp; omega
    refine ⟨_, rfl, S11.newB fun b27 w12 _ _ S12 => stAppS S12 2 rfl (ys := [g l[i]]) (mm := 1) rfl (S12.rdc 0 rfl) (by omega) fun a' c' w13 S13 => ⟨_, _, _, rfl, ?_, ?_⟩⟩
    · rw [← htk] at S13 ⊢
      exact ⟨i + 1, a', c', by rw [wrap_succ (by omega)], by omega, S13.drop 2⟩
    · show l.length - (IntKind.i64.wrap ((i : Int) + 1)).toNat < l.length - ((i : Nat) : Int).toNat
      rw [wrap_succ (by omega)]
      simp only [Int.toNat_natCast]
      omega
  · obtain rfl : i = l.length := by omega
    rw [List.take_length] at S1 ⊢
    refine IFB_eq (fun h => ⟨?_, S1.bel⟩) (fun h => (join_ok S1 0 rfl (fun e => h (by rw [e]; rfl)) (by simpa using hn) (fun x hx => by obtain ⟨y, hy, rfl⟩ := List.mem_map.1 hx; exact hs y hy)).mono ?_)
    · unfold partT
      rw [if_pos (by omega)]
    · rintro _ w14 ⟨_, rfl, rfl, B14⟩
      have hz := commas_size (B := 1000000) (l.map g) (fun x hx => by obtain ⟨y, hy, rfl⟩ := List.mem_map.1 hx; exact hs y hy)
      rw [List.length_map] at hz
      have h3 : l.length * (1000000 + 2) ≤ 100 * (1000000 + 2) := Nat.mul_le_mul_right _ hn
      refine ⟨_, rfl, by omega, ?_, (S1.grown B14).bel⟩
      unfold partT
      rw [if_neg (by omega)]
theorem rightX_size {x : Ex} (h : rightX x = true) : x.size ≤ 400 := by
  simp only [rightX, Ex.formed, Bool.and_eq_true, decide_eq_true_eq] at h
  exact h.1.2
theorem rightI_iff {i : Itm} : rightI i = true ↔ okName i.1 = true ∧ (0 ≤ i.2.1 ∧ i.2.1 ≤ 5) ∧ (if i.2.1 = 1 then bareX i.2.2 else rightX i.2.2) = true := by
  simp only [rightI, Bool.and_eq_true, decide_eq_true_eq, and_assoc]
theorem rightI_x {i : Itm} (h : rightI i = true) (h1 : ¬ i.2.1 = 1) : rightX i.2.2 = true := by
  have := (rightI_iff.1 h).2.2
  rwa [if_neg h1] at this
theorem agg_size (a : Int) : (aggName a).size ≤ 5 := by
  unfold aggName
  split
  · decide
  · split
    · decide
    · split <;> decide
theorem itemT_size {i : Itm} (h : rightI i = true) (hf : i.2.2.fit) : (itemT i).size ≤ 840100 := by
  have hn := okName_size (rightI_iff.1 h).1
  have e1 : (ByteArray.mk #[32, 97, 115, 32]).size = 4 := rfl
  have e2 : (ByteArray.mk #[99, 111, 117, 110, 116, 40, 42, 41]).size = 8 := rfl
  have e3 : (ByteArray.mk #[40]).size = 1 := rfl
  have e4 : (ByteArray.mk #[41]).size = 1 := rfl
  have ha := agg_size i.2.1
  unfold itemT
  rw [ByteArray.size_append, ByteArray.size_append]
  by_cases h0 : i.2.1 = 0
  · rw [if_pos h0]
    have := rightX_text (rightI_x h (by omega)) hf
    omega
  · rw [if_neg h0]
    by_cases h1 : i.2.1 = 1
    · rw [if_pos h1]; omega
    · rw [if_neg h1]
      have := rightX_text (rightI_x h h1) hf
      simp only [ByteArray.size_append]
      omega
theorem gather_at {w : World} (E : Env w) {a : Int} (h1 : 2 ≤ a) (h2 : a ≤ 5) : w.cell? ((⟨0, 0, none⟩ : Addr).add (a.toNat * 1)) = some (.string (aggName a)) := by
  obtain ⟨n, rfl⟩ : ∃ n : Nat, a = n := ⟨a.toNat, by omega⟩
  have hn : n = 2 ∨ n = 3 ∨ n = 4 ∨ n = 5 := by omega
  rw [Int.toNat_natCast, Nat.mul_one]
  have : gatherCells[n]? = some (.string (aggName n)) := by rcases hn with rfl | rfl | rfl | rfl <;> rfl
  obtain ⟨p, hp, hc⟩ := E.gat n _ this
  cases hp
  exact hc
section
variable {w : World} {i : Itm} {a : Option Addr} {cap : Nat}
theorem query_shownItem_ok (E : Env w) (hx : XC w i.2.2 (exHead i.2.2 a cap)) (hr : rightI i = true) : Calls Tryz.prog f.query_shownItem #[.agg ⟨itHead i a cap⟩] w (Ret fun r w' => r = .string (itemT i) ∧ Below w.heap.size w w') := by
  apply R.query_shownItem_calls
  unfold R.query_shownItem
  have hn := okName_size (rightI_iff.1 hr).1
  have e1 : (ByteArray.mk #[32, 97, 115, 32]).size = 4 := rfl
  have e2 : (ByteArray.mk #[99, 111, 117, 110, 116, 40, 42, 41]).size = 8 := rfl
  have e3 : (ByteArray.mk #[40]).size = 1 := rfl
  have e4 : (ByteArray.mk #[41]).size = 1 := rfl
  have ha := agg_size i.2.1
  have har := (rightI_iff.1 hr).2.1
  refine (ST.start w).newB fun b9 w1 _ _ S1 => ⟨_, S1.cell 0 rfl rfl, IFB_eq (fun h0 => ?_) (fun h0 => IFB_eq (fun h1 => ⟨by omega, _, S1.cell 0 rfl rfl, by rw [ByteArray.size_append]; omega, ?_, S1.bel⟩) (fun h1 => S1.draw fun w3 _ S3 => ?_))⟩
  · have hX := rightI_x hr (by omega)
    have ht := rightX_text hX hx.fit
    refine ⟨_, S1.cell 0 rfl rfl, _, S1.cell 0 rfl rfl, _, S1.cell 0 rfl rfl, _, S1.cell 0 rfl rfl, _, S1.cell 0 rfl rfl, _, _, _, S1.cell 0 rfl rfl, (query_shown_ok i.2.2 40 (rightX_fair hX hx.fit) (rightX_size hX) w1 a cap 1 (E.grown S1.bel) (hx.grown S1.bel)).mono ?_⟩
    rintro _ w2 ⟨_, rfl, rfl, B2⟩
    have S2 := S1.grown B2
    rw [at_one]
    refine ⟨_, rfl, by omega, _, S2.cell 0 rfl rfl, by rw [ByteArray.size_append]; omega, ?_, S2.bel⟩
    unfold itemT
    rw [if_pos h0]
  · unfold itemT
    rw [if_neg h0, if_pos h1]
  · have hX := rightI_x hr h1
    have ht := rightX_text hX hx.fit
    have hg := gather_at (E.grown S3.bel) (a := i.2.1) (by omega) (by omega)
    refine ⟨_, S3.cell 0 rfl rfl, ⟨by omega, by omega⟩, _, hg, by omega, ?_⟩
    refine ⟨_, S3.cell 0 rfl rfl, _, S3.cell 0 rfl rfl, _, S3.cell 0 rfl rfl, _, S3.cell 0 rfl rfl, _, S3.cell 0 rfl rfl, _, _, _, S3.cell 0 rfl rfl, (query_shown_ok i.2.2 40 (rightX_fair hX hx.fit) (rightX_size hX) w3 a cap 1 (E.grown S3.bel) (hx.grown S3.bel)).mono ?_⟩
    rintro _ w4 ⟨_, rfl, rfl, B4⟩
    have S4 := S3.grown B4
    rw [at_one]
    refine ⟨_, rfl, gather_at (E.grown S4.bel) (by omega) (by omega), S4.cell 0 rfl rfl, by rw [ByteArray.size_append]; omega, by simp only [ByteArray.size_append]; omega, by simp only [ByteArray.size_append]; omega, _, S4.cell 0 rfl rfl, by simp only [ByteArray.size_append]; omega, ?_, S4.bel⟩
    unfold itemT
    rw [if_neg h0, if_neg h1]
end
theorem keyT_at {l : List Itm} {k : Int × Bool} {i : Nat} (hi : i < l.length) (hk : k.1 = i) : keyT l k = l[i].1 ++ if k.2 then ⟨#[32, 100, 101, 115, 99]⟩ else E0 := by
  unfold keyT
  rw [hk, Int.toNat_natCast, List.getD_eq_getElem?_getD, List.getElem?_eq_getElem hi]
  rfl
section
variable {w : World} {q : Qu} {ai aw ag ao : Option Addr} {ci cw cg co : Nat}
theorem show_key_ok {w0 : World} {H : List It} {b : Nat} (n : Nat) (Q : QAt w q ai aw ag ao) (S : ST w0 w H) (hn : H[n]? = some (quI b q ai aw ag ao ci cw cg co)) (k : Int × Bool) (hk : rightK q.it k.1 = true) (hsz : ∀ i ∈ q.it, i.1.size ≤ 24) :
    Calls Tryz.prog f.query_Show_c2 #[.agg #[.int .i64 k.1, .bool k.2], .pointer (some ⟨b, 0, none⟩)] w (Ret fun r w' => r = .string (keyT q.it k) ∧ Below w.heap.size w w') := by
  apply R.query_Show_c2_calls
  unfold R.query_Show_c2
  obtain ⟨rs, hrd, hC⟩ := Q.it
  obtain ⟨i, hi, he, _⟩ := rightK_iff.1 hk
  have e1 : (ByteArray.mk #[32, 100, 101, 115, 99]).size = 5 := rfl
  refine (ST.start w).newB fun b4 w1 _ B1 S1 => ?_
  have T1 := S.grown S1.bel
  obtain ⟨p, hp, hc⟩ := it_name (hrd.grown S1.bel) hC hi
  subst hp
  have hz := hsz q.it[i] (List.getElem_mem hi)
  refine ⟨_, S1.cell 0 rfl rfl, IFB_of (fun hd => ⟨_, _, _, T1.cell n hn rfl, _, S1.cell 0 rfl rfl, ⟨by omega, by omega⟩, _, by rw [he, Int.toNat_natCast]; exact hc, by omega, ?_, S1.bel⟩) (fun hd => ⟨_, _, _, T1.cell n hn rfl, _, S1.cell 0 rfl rfl, ⟨by omega, by omega⟩, _, by rw [he, Int.toNat_natCast]; exact hc, ?_, S1.bel⟩)⟩
  · rw [keyT_at hi he, hd]; rfl
  · rw [keyT_at hi he, hd]
    congr 1
    exact (app_e0 _).symm
theorem keyT_size {l : List Itm} (hsz : ∀ i ∈ l, i.1.size ≤ 24) {k : Int × Bool} (hk : rightK l k.1 = true) : (keyT l k).size ≤ 29 := by
  obtain ⟨i, hi, he, _⟩ := rightK_iff.1 hk
  rw [keyT_at hi he, ByteArray.size_append]
  have := hsz _ (List.getElem_mem hi)
  have e1 : (ByteArray.mk #[32, 100, 101, 115, 99]).size = 5 := rfl
  split
  · omega
  · show _ + 0 ≤ _; omega
theorem show_expr_ok {w : World} {x : Ex} {a : Option Addr} {cap : Nat} (E : Env w) (hx : XC w x (exHead x a cap)) (hr : rightX x = true) : Calls Tryz.prog f.query_Show_c1 #[.agg ⟨exHead x a cap⟩] w (Ret fun r w' => r = .string x.text ∧ Below w.heap.size w w') := by
  apply R.query_Show_c1_calls
  unfold R.query_Show_c1
  refine (ST.start w).newB fun b7 w1 _ _ S1 => ⟨_, S1.cell 0 rfl rfl, _, S1.cell 0 rfl rfl, _, S1.cell 0 rfl rfl, _, S1.cell 0 rfl rfl, _, S1.cell 0 rfl rfl, _, _, _, S1.cell 0 rfl rfl, (query_shown_ok x 40 (rightX_fair hr hx.fit) (rightX_size hr) w1 a cap 1 (E.grown S1.bel) (hx.grown S1.bel)).mono ?_⟩
  rintro _ w2 ⟨_, rfl, rfl, B2⟩
  rw [at_one]
  exact ⟨_, rfl, rfl, (S1.grown B2).bel⟩
def showQ (q : Qu) : Value := if rightQ q = true then .tuple #[.string (quT q), .int .i64 0] else .tuple #[.string ⟨#[]⟩, .int .i64 110]
theorem rows_fit {w : World} {l : List Ex} {rs : List Value} (h : RowsC (ExC (fun _ => False) w) l rs) : ∀ x ∈ l, x.fit := by
  intro x hx
  obtain ⟨i, hi, rfl⟩ := List.mem_iff_getElem.1 hx
  exact (h.get (n := 6) (fun x c h => ExC.len h) i hi).fit
theorem items_fit {w : World} {l : List Itm} {rs : List Value} (h : RowsC (ItC (fun _ => False) w) l rs) : ∀ x ∈ l, x.2.2.fit := by
  intro x hx
  obtain ⟨i, hi, rfl⟩ := List.mem_iff_getElem.1 hx
  obtain ⟨c, _, h, _⟩ := h.get (n := 8) (fun x c h => ItC.len h) i hi
  exact h.fit
structure Bnd (q : Qu) : Prop where
  it : ∀ i ∈ q.it, (itemT i).size ≤ 1000000
  wh : ∀ x ∈ q.wh, x.text.size ≤ 1000000
  gr : ∀ x ∈ q.gr, x.text.size ≤ 1000000
  od : ∀ k ∈ q.od, (keyT q.it k).size ≤ 1000000
  nm : ∀ i ∈ q.it, i.1.size ≤ 24
theorem QAt.bnd (Q : QAt w q ai aw ag ao) (h : smallQ q = true) : Bnd q := by
  obtain ⟨hn, hi, hw, hg, ho⟩ := smallQ_iff.1 h
  obtain ⟨ri, _, hCi⟩ := Q.it
  obtain ⟨rw_, _, hCw⟩ := Q.wh
  obtain ⟨rg, _, hCg⟩ := Q.gr
  have hz : ∀ i ∈ q.it, i.1.size ≤ 24 := fun i h => okName_size (rightI_iff.1 (hi i h)).1
  refine ⟨fun i h => ?_, fun x h => ?_, fun x h => ?_, fun k h => ?_, hz⟩
  · have := itemT_size (hi i h) (items_fit hCi i h); omega
  · have := rightX_text (hw x h) (rows_fit hCw x h); omega
  · have := rightX_text (hg x h) (rows_fit hCg x h); omega
  · have := keyT_size hz (ho k h); omega
theorem query_Show_ok (E : Env w) (Q : QAt w q ai aw ag ao) : Calls Tryz.prog f.query_Show #[.agg ⟨quL q ai aw ag ao ci cw cg co⟩] w (Ret fun r w' => r = showQ q ∧ Below w.heap.size w w') := by
  apply R.query_Show_calls
  unfold R.query_Show
  refine (ST.start w).newB fun b6 w1 _ _ S1 => ?_
  have S1 : ST w w1 [quI b6 q ai aw ag ao ci cw cg co] := S1
  refine ⟨_, _, _, S1.cell 0 rfl rfl, _, _, _, S1.cell 0 rfl rfl, _, _, _, S1.cell 0 rfl rfl, _, _, _, S1.cell 0 rfl rfl, _, S1.cell 0 rfl rfl, (query_fits_ok (E.grown S1.bel) (Q.grown S1.bel) (ci := ci) (cw := cw) (cg := cg) (co := co)).mono ?_⟩
  rintro _ w2 ⟨_, rfl, rfl, B2⟩
  have S2 := S1.grown B2
  refine ⟨_, rfl, IFB_not (IFB_of (fun hs => S2.draw fun w3 _ S3 => ⟨_, _, _, S3.cell 0 rfl rfl, _, _, _, S3.cell 0 rfl rfl, _, _, _, S3.cell 0 rfl rfl, ?_⟩) (fun hs => ⟨by unfold showQ; rw [if_neg (by simp [rightQ, hs])], S2.bel⟩))⟩
  obtain ⟨hn, hi, hw, hg, ho⟩ := smallQ_iff.1 hs
  have bd := Q.bnd hs
  obtain ⟨ri, hri, hCi⟩ := Q.it
  obtain ⟨rw_, hrw, hCw⟩ := Q.wh
  obtain ⟨rg, hrg, hCg⟩ := Q.gr
  obtain ⟨ro, hro, hCo⟩ := Q.od
  refine (parts_api_Item_ok ⟨#[115, 101, 108, 101, 99, 116, 32]⟩ (hri.grown S3.bel) hCi (by omega) (by kernel_rfl) itemT (by decide) bd.it ?_).mono ?_
  · rintro w4 x cs B4 hx ⟨ce, rfl, hxe, hy⟩
    obtain ⟨a9, cap9, _, rfl, _⟩ := ExC.open hxe
    exact query_shownItem_ok (i := x) ((E.grown S3.bel).grown B4) ((hxe.grown S3.bel).grown B4) (hi x hx)
  rintro _ w4 ⟨_, rfl, rfl, B4⟩
  have S4 := S3.grown B4
  refine ⟨_, rfl, S4.cell 0 rfl rfl, S4.cell 0 rfl rfl, (parts_api_Expr_ok ⟨#[32, 119, 104, 101, 114, 101, 32]⟩ (hrw.grown S4.bel) hCw (by omega) (by kernel_rfl) Ex.text (by decide) bd.wh ?_).mono ?_⟩
  · rintro w5 x cs B5 hx hxe
    obtain ⟨a9, cap9, _, rfl, _⟩ := ExC.open hxe
    exact show_expr_ok ((E.grown S4.bel).grown B5) ((hxe.grown S4.bel).grown B5) (hw x hx)
  rintro _ w5 ⟨_, rfl, rfl, B5⟩
  have S5 := S4.grown B5
  have z1 := part_size (B := 1000000) ⟨#[115, 101, 108, 101, 99, 116, 32]⟩ (q.it.map itemT) (fun x hx => by obtain ⟨y, hy, rfl⟩ := List.mem_map.1 hx; exact bd.it y hy)
  have z2 := part_size (B := 1000000) ⟨#[32, 119, 104, 101, 114, 101, 32]⟩ (q.wh.map Ex.text) (fun x hx => by obtain ⟨y, hy, rfl⟩ := List.mem_map.1 hx; exact bd.wh y hy)
  have z3 := part_size (B := 1000000) ⟨#[32, 103, 114, 111, 117, 112, 32, 98, 121, 32]⟩ (q.gr.map Ex.text) (fun x hx => by obtain ⟨y, hy, rfl⟩ := List.mem_map.1 hx; exact bd.gr y hy)
  have z4 := part_size (B := 1000000) ⟨#[32, 111, 114, 100, 101, 114, 32, 98, 121, 32]⟩ (q.od.map (keyT q.it)) (fun x hx => by obtain ⟨y, hy, rfl⟩ := List.mem_map.1 hx; exact bd.od y hy)
  rw [List.length_map] at z1 z2 z3 z4
  have f1 : (ByteArray.mk #[115, 101, 108, 101, 99, 116, 32]).size = 7 := rfl
  have f2 : (ByteArray.mk #[32, 119, 104, 101, 114, 101, 32]).size = 7 := rfl
  have f3 : (ByteArray.mk #[32, 103, 114, 111, 117, 112, 32, 98, 121, 32]).size = 10 := rfl
  have f4 : (ByteArray.mk #[32, 111, 114, 100, 101, 114, 32, 98, 121, 32]).size = 10 := rfl
  have m1 : q.it.length * (1000000 + 2) ≤ 16 * (1000000 + 2) := Nat.mul_le_mul_right _ (by omega)
  have m2 : q.wh.length * (1000000 + 2) ≤ 16 * (1000000 + 2) := Nat.mul_le_mul_right _ (by omega)
  have m3 : q.gr.length * (1000000 + 2) ≤ 16 * (1000000 + 2) := Nat.mul_le_mul_right _ (by omega)
  have m4 : q.od.length * (1000000 + 2) ≤ 16 * (1000000 + 2) := Nat.mul_le_mul_right _ (by omega)
  refine ⟨_, rfl, S5.cell 0 rfl rfl, by omega, (parts_api_Expr_ok ⟨#[32, 103, 114, 111, 117, 112, 32, 98, 121, 32]⟩ (hrg.grown S5.bel) hCg (by omega) (by kernel_rfl) Ex.text (by decide) bd.gr ?_).mono ?_⟩
  · rintro w6 x cs B6 hx hxe
    obtain ⟨a9, cap9, _, rfl, _⟩ := ExC.open hxe
    exact show_expr_ok ((E.grown S5.bel).grown B6) ((hxe.grown S5.bel).grown B6) (hg x hx)
  rintro _ w6 ⟨_, rfl, rfl, B6⟩
  have S6 := S5.grown B6
  refine ⟨_, rfl, by simp only [ByteArray.size_append]; omega, _, _, _, S6.cell 0 rfl rfl, (parts_api_Key_ok ⟨#[32, 111, 114, 100, 101, 114, 32, 98, 121, 32]⟩ (hro.grown S6.bel) hCo (by omega) (by kernel_rfl) (keyT q.it) (by decide) bd.od ?_).mono ?_⟩
  · rintro w7 k cs B7 hk ⟨rfl, _⟩
    exact show_key_ok 0 ((Q.grown S6.bel).grown B7) (S6.grown B7) rfl k (ho k hk) bd.nm
  rintro _ w7 ⟨_, rfl, rfl, B7⟩
  have S7 := S6.grown B7
  have hL : (ByteArray.mk #[32, 108, 105, 109, 105, 116, 32]).size = 7 := rfl
  have hit := Lib.itoa_length_le q.lim Q.lim.1 Q.lim.2
  refine ⟨_, rfl, by simp only [ByteArray.size_append]; omega, fun st w9 => st = [.string (quT q)] ∧ Below w.heap.size w w9, ?_, ?_⟩
  · refine ⟨_, S7.cell 0 rfl rfl, IFB_dec (fun h0 => ⟨_, S7.cell 0 rfl rfl, (Tryz.strconv_Itoa q.lim Q.lim.1 Q.lim.2 w7 (E.grown S7.bel).pow).mono ?_⟩) (fun h0 => ⟨?_, S7.bel⟩)⟩
    · rintro _ w8 ⟨rfl, k, os, rfl⟩
      have hsz : (sof (Lib.itoa q.lim)).size ≤ 21 := by rw [size_sof]; exact hit
      refine ⟨sof (Lib.itoa q.lim), rfl, by omega, by simp only [ByteArray.size_append]; omega, ?_, (S7.grown (below_grow w7 k os)).bel⟩
      unfold quT limT
      rw [if_pos h0]
    · unfold quT limT
      rw [if_neg h0, app_e0]
  · rintro s w9 ⟨hs9, B9⟩
    obtain rfl : s = quT q := by simpa using hs9
    refine IFB_dec (fun h => ⟨?_, B9⟩) (fun h => ⟨?_, B9⟩)
    · unfold showQ
      rw [if_neg (by simp [rightQ, hs]; omega)]
    · unfold showQ
      rw [if_pos (by simp [rightQ, hs]; omega)]
end
section
variable {w : World} {i : Itm} {a : Option Addr} {cap : Nat}
end
section
variable {w : World} {q : Qu} {ai aw ag ao : Option Addr} {ci cw cg co : Nat}
end
theorem IFB_yes {b : Bool} {A B : Prop} (hb : b = true) (h : A) : IFB b A B := by subst hb; exact h
theorem IFB_no {b : Bool} {A B : Prop} (hb : b = false) (h : B) : IFB b A B := by subst hb; exact h
section
variable {w : World} {q : Qu} {ai aw ag ao bi bw bg bo : Option Addr} {ci cw cg co di dw dg d_o : Nat}
end
/-! ### lists of columns -/
section
variable {w : World} {a b : Option Addr} {c d : Nat}
end
section
variable {w0 w : World} {H : List It}
theorem stX (S : ST w0 w H) (n : Nat) {b : Nat} {x : Ex} {a : Option Addr} {cap : Nat} (hn : H[n]? = some (exI b (exHead x a cap))) {Q : Int → ByteArray → Int → Int → ByteArray → Option Addr → Nat → Nat → Prop} (hq : Q x.op x.nm x.v.1 x.v.2.1 x.v.2.2 a x.ks.length cap) :
    ∃ t0 : Int, w.cell? ⟨b, 0, none⟩ = some (.int .i64 t0) ∧ ∃ t1 : ByteArray, w.cell? ⟨b, 1, none⟩ = some (.string t1) ∧ ∃ t2 : Int, w.cell? ⟨b, 2, none⟩ = some (.int .i64 t2) ∧ ∃ t3 : Int, w.cell? ⟨b, 3, none⟩ = some (.int .i64 t3) ∧ ∃ t4 : ByteArray, w.cell? ⟨b, 4, none⟩ = some (.string t4) ∧
      ∃ (t5 : Option Addr) (l c : Nat), w.cell? ⟨b, 5, none⟩ = some (.slice t5 l c) ∧ Q t0 t1 t2 t3 t4 t5 l c :=
  ⟨_, S.cell n hn rfl, _, S.cell n hn rfl, _, S.cell n hn rfl, _, S.cell n hn rfl, _, S.cell n hn rfl, _, _, _, S.cell n hn rfl, hq⟩
theorem stQ (S : ST w0 w H) (n : Nat) {b : Nat} {q : Qu} {ai aw ag ao : Option Addr} {ci cw cg co : Nat} (hn : H[n]? = some (quI b q ai aw ag ao ci cw cg co)) {Q : Option Addr → Nat → Nat → Option Addr → Nat → Nat → Option Addr → Nat → Nat → Option Addr → Nat → Nat → Int → Prop}
    (hq : Q ai q.it.length ci aw q.wh.length cw ag q.gr.length cg ao q.od.length co q.lim) :
    ∃ (a0 : Option Addr) (l0 c0 : Nat), w.cell? ⟨b, 0, none⟩ = some (.slice a0 l0 c0) ∧ ∃ (a1 : Option Addr) (l1 c1 : Nat), w.cell? ⟨b, 1, none⟩ = some (.slice a1 l1 c1) ∧ ∃ (a2 : Option Addr) (l2 c2 : Nat), w.cell? ⟨b, 2, none⟩ = some (.slice a2 l2 c2) ∧ ∃ (a3 : Option Addr) (l3 c3 : Nat), w.cell? ⟨b, 3, none⟩ = some (.slice a3 l3 c3) ∧
      ∃ n4 : Int, w.cell? ⟨b, 4, none⟩ = some (.int .i64 n4) ∧ Q a0 l0 c0 a1 l1 c1 a2 l2 c2 a3 l3 c3 n4 :=
  ⟨_, _, _, S.cell n hn rfl, _, _, _, S.cell n hn rfl, _, _, _, S.cell n hn rfl, _, _, _, S.cell n hn rfl, _, S.cell n hn rfl, hq⟩
end
abbrev Tk := Int × Int × ByteArray
def tkC (t : Tk) : List Value := [.int .i64 t.1, .int .i64 t.2.1, .string t.2.2]
abbrev tksL (T : List Tk) : List Value := T.flatMap tkC
theorem tk_at {w : World} {a : Option Addr} {T : List Tk} (hl : Rd w a (tksL T)) {i : Nat} (hi : i < T.length) : ∃ p, a = some p ∧ w.cell? (p.add (i * 3)) = some (.int .i64 T[i].1) ∧ w.cell? ((p.add (i * 3)).add 1) = some (.int .i64 T[i].2.1) ∧ w.cell? ((p.add (i * 3)).add 2) = some (.string T[i].2.2) := by
  have hc : ∀ c : Tk, (tkC c).length = 3 := fun _ => rfl
  obtain ⟨p, hp, h0⟩ := hl (i * 3 + 0) _ (by rw [flat_get hc T i 0 hi (by omega)]; rfl)
  obtain ⟨p1, hp1, h1⟩ := hl (i * 3 + 1) _ (by rw [flat_get hc T i 1 hi (by omega)]; rfl)
  obtain ⟨p2, hp2, h2⟩ := hl (i * 3 + 2) _ (by rw [flat_get hc T i 2 hi (by omega)]; rfl)
  subst hp
  cases hp1
  cases hp2
  exact ⟨p, rfl, h0, by rw [addr_add_add]; exact h1, by rw [addr_add_add]; exact h2⟩
section
variable {w w0 : World} {H : List It} {b : Nat} {a : Option Addr} {c i : Nat} {ok : Bool} {T : List Tk}
end
section
variable {w0 w : World} {H : List It}
theorem stEx (S : ST w0 w H) (n : Nat) {b : Nat} {x0 x1 x2 x3 x4 x5 : Value} {t0 t2 t3 : Int} {t1 t4 : ByteArray} {a5 : Option Addr} {l5 c5 : Nat} {t : TypeId} (hn : H[n]? = some (It.cells b #[x0, x1, x2, x3, x4, x5] t)) {Q : Int → ByteArray → Int → Int → ByteArray → Option Addr → Nat → Nat → World → Prop}
    (hk : ∀ w', ST w0 w' (H.set n (It.cells b #[.int .i64 t0, .string t1, .int .i64 t2, .int .i64 t3, .string t4, .slice a5 l5 c5] t)) → Q t0 t1 t2 t3 t4 a5 l5 c5 w') :
    STO ⟨b, 0, none⟩ (.int .i64 t0) (fun w => STO ⟨b, 1, none⟩ (.string t1) (fun w => STO ⟨b, 2, none⟩ (.int .i64 t2) (fun w => STO ⟨b, 3, none⟩ (.int .i64 t3) (fun w => STO ⟨b, 4, none⟩ (.string t4) (fun w => STO ⟨b, 5, none⟩ (.slice a5 l5 c5) (fun w =>
      ∃ r0 : Int, w.cell? ⟨b, 0, none⟩ = some (.int .i64 r0) ∧ ∃ r1 : ByteArray, w.cell? ⟨b, 1, none⟩ = some (.string r1) ∧ ∃ r2 : Int, w.cell? ⟨b, 2, none⟩ = some (.int .i64 r2) ∧ ∃ r3 : Int, w.cell? ⟨b, 3, none⟩ = some (.int .i64 r3) ∧ ∃ r4 : ByteArray, w.cell? ⟨b, 4, none⟩ = some (.string r4) ∧
      ∃ (r5 : Option Addr) (r5l r5c : Nat), w.cell? ⟨b, 5, none⟩ = some (.slice r5 r5l r5c) ∧ Q r0 r1 r2 r3 r4 r5 r5l r5c w) w) w) w) w) w) w := by
  have hlt := (List.getElem?_eq_some_iff.1 hn).1
  have g : ∀ {x : It}, (H.set n x)[n]? = some x := List.getElem?_set_self hlt
  refine S.sto n hn (cs' := #[.int .i64 t0, x1, x2, x3, x4, x5]) (by simp) rfl fun w1 S1 => S1.sto n g (cs' := #[.int .i64 t0, .string t1, x2, x3, x4, x5]) (by simp) rfl fun w2 S2 => ?_
  rw [List.set_set] at S2
  refine S2.sto n g (cs' := #[.int .i64 t0, .string t1, .int .i64 t2, x3, x4, x5]) (by simp) rfl fun w3 S3 => ?_
  rw [List.set_set] at S3
  refine S3.sto n g (cs' := #[.int .i64 t0, .string t1, .int .i64 t2, .int .i64 t3, x4, x5]) (by simp) rfl fun w4 S4 => ?_
  rw [List.set_set] at S4
  refine S4.sto n g (cs' := #[.int .i64 t0, .string t1, .int .i64 t2, .int .i64 t3, .string t4, x5]) (by simp) rfl fun w5 S5 => ?_
  rw [List.set_set] at S5
  refine S5.sto n g (cs' := #[.int .i64 t0, .string t1, .int .i64 t2, .int .i64 t3, .string t4, .slice a5 l5 c5]) (by simp) rfl fun w6 S6 => ?_
  rw [List.set_set] at S6
  exact ⟨_, S6.cell n g rfl, _, S6.cell n g rfl, _, S6.cell n g rfl, _, S6.cell n g rfl, _, S6.cell n g rfl, _, _, _, S6.cell n g rfl, hk w6 S6⟩
end
def colX (s : ByteArray) : Ex := .mk 1 s V0 []
def headW : List ByteArray := [⟨#[110, 117, 108, 108]⟩, ⟨#[116, 114, 117, 101]⟩, ⟨#[102, 97, 108, 115, 101]⟩, ⟨#[108, 101, 110]⟩, ⟨#[40]⟩, ⟨#[45]⟩, ⟨#[110, 111, 116]⟩, ⟨#[99, 111, 117, 110, 116]⟩, ⟨#[115, 117, 109]⟩, ⟨#[109, 105, 110]⟩, ⟨#[109, 97, 120]⟩]
end Go.Proofs.YtbpdfpfgijhokaaGreatDoor
namespace Go.Proofs.YtbpdfpfgijhokaaGreatDoor
set_option maxRecDepth 100000
open Go.Dn Go.Proofs
open Go.RowKit (Below)
set_option linter.unusedVariables false
/-! ### plain -/
def isLet (c : UInt8) : Bool := decide (97 ≤ c.toNat ∧ c.toNat ≤ 122)
def isDig (c : UInt8) : Bool := decide (48 ≤ c.toNat ∧ c.toNat ≤ 57)
def wordCh (c : UInt8) : Bool := isLet c || isDig c || decide (c.toNat = 95)
def runN (p : UInt8 → Bool) : List UInt8 → Nat
  | [] => 0
  | c :: r => if p c then runN p r + 1 else 0
def quoteN : List UInt8 → Nat
  | [] => 0
  | c :: r => if c.toNat ≠ 39 then (if quoteN r = 0 then 0 else quoteN r + 1) else
    match r with
    | [] => 1
    | d :: r' => if d.toNat ≠ 39 then 1 else if quoteN r' = 0 then 0 else quoteN r' + 2
def signCh (c : UInt8) : Bool := [40, 41, 44, 43, 45, 42, 47, 37, 61, 60].contains c.toNat
def lenT : List UInt8 → Nat × Int
  | [] => (0, 0)
  | c :: r => if isLet c then (runN wordCh r + 1, 1) else if isDig c then (runN isDig r + 1, 2) else
    if c.toNat = 39 then (if quoteN r = 0 then (0, 0) else (quoteN r + 1, 3)) else
    if c.toNat = 60 ∧ 1 ≤ r.length ∧ (r.getD 0 0).toNat = 61 then (2, 4) else if signCh c then (1, 4) else (0, 0)
def toksF : Nat → List UInt8 → Nat → Except Int (List Tk)
  | 0, _, _ => .ok []
  | f + 1, l, at_ => match l with
    | [] => .ok [((at_ : Int), 0, E0)]
    | c :: r => if c.toNat = 32 ∨ c.toNat = 10 then toksF f r (at_ + 1) else
      if (lenT (c :: r)).1 = 0 then .error at_ else
      match toksF f ((c :: r).drop (lenT (c :: r)).1) (at_ + (lenT (c :: r)).1) with
      | .error e => .error e
      | .ok T => .ok (((at_ : Int), (lenT (c :: r)).2, sof ((c :: r).take (lenT (c :: r)).1)) :: T)
theorem runN_le (p : UInt8 → Bool) : ∀ l, runN p l ≤ l.length
  | [] => Nat.le_refl _
  | c :: r => by have := runN_le p r; simp only [runN, List.length_cons]; split <;> omega
theorem runN_at {p : UInt8 → Bool} : ∀ {l : List UInt8} {n : Nat}, n ≤ l.length → (∀ c ∈ l.take n, p c = true) → (∀ h : n < l.length, p l[n] = false) → runN p l = n
  | [], n, hn, _, _ => by simp at hn; simp [runN, hn]
  | c :: r, 0, _, _, h => by
    have := h (by simp)
    simp only [List.getElem_cons_zero] at this
    simp [runN, this]
  | c :: r, n + 1, hn, h1, h2 => by
    have hc := h1 c (by simp)
    simp only [runN, hc, if_true]
    rw [runN_at (l := r) (n := n) (by simpa using hn) (fun d hd => h1 d (by simp [hd])) fun h => by have := h2 (by simpa using h); simpa using this]
theorem quoteN_other {c : UInt8} (h : c.toNat ≠ 39) (r : List UInt8) : quoteN (c :: r) = if quoteN r = 0 then 0 else quoteN r + 1 := by
  cases r with
  | nil => simp [quoteN, h]
  | cons d r => rw [quoteN, if_pos h]
theorem quoteN_end {c : UInt8} (h : c.toNat = 39) : quoteN [c] = 1 := by rw [quoteN, if_neg (by omega)]
theorem quoteN_one {c d : UInt8} (h : c.toNat = 39) (h2 : d.toNat ≠ 39) (r : List UInt8) : quoteN (c :: d :: r) = 1 := by rw [quoteN, if_neg (by omega)]; exact if_pos h2
theorem quoteN_two {c d : UInt8} (h : c.toNat = 39) (h2 : d.toNat = 39) (r : List UInt8) : quoteN (c :: d :: r) = if quoteN r = 0 then 0 else quoteN r + 2 := by rw [quoteN, if_neg (by omega)]; exact if_neg (by omega)
theorem quoteN_le : ∀ (n : Nat) (l : List UInt8), l.length ≤ n → quoteN l ≤ l.length
  | 0, l, h => by
    have : l = [] := List.eq_nil_of_length_eq_zero (by omega)
    subst this
    simp [quoteN]
  | n + 1, [], _ => by simp [quoteN]
  | n + 1, [c], _ => by
    by_cases hc : c.toNat = 39
    · rw [quoteN_end hc]; simp
    · rw [quoteN_other hc]; simp [quoteN]
  | n + 1, c :: d :: r, h => by
    simp only [List.length_cons] at h ⊢
    have h1 := quoteN_le n (d :: r) (by simp only [List.length_cons]; omega)
    have h2 := quoteN_le n r (by omega)
    simp only [List.length_cons] at h1
    by_cases hc : c.toNat = 39
    · by_cases hd : d.toNat = 39
      · rw [quoteN_two hc hd]; split <;> omega
      · rw [quoteN_one hc hd]; omega
    · rw [quoteN_other hc]; split <;> omega
theorem lenT_le (l : List UInt8) : (lenT l).1 ≤ l.length := by
  cases l with
  | nil => simp [lenT]
  | cons c r =>
    have h1 := runN_le wordCh r
    have h2 := runN_le isDig r
    have h3 := quoteN_le _ r (Nat.le_refl _)
    simp only [lenT, List.length_cons]
    split
    · simp only; omega
    · split
      · simp only; omega
      · split
        · split
          · simp
          · simp only; omega
        · split
          · simp only; omega
          · split <;> simp
/-! ### the walk -/
section
variable {w : World} {s : ByteArray}
theorem sget_at {i : Nat} (h : i < s.size) : sget s i = (bl s)[i]'(by rw [bl_length]; exact h) := by
  rw [sget_eq, List.getD_eq_getElem?_getD, List.getElem?_eq_getElem (by rw [bl_length]; exact h), Option.getD_some]
theorem ref11_letter_ok (c : UInt8) : Calls Tryz.prog f.ref11_letter #[.int .u8 (c.toNat : Int)] w (Ret fun r w' => r = .bool (isLet c) ∧ w' = w) := by
  apply R.ref11_letter_calls
  unfold R.ref11_letter
  refine IFB_dec (fun h => ⟨?_, rfl⟩) (fun h => ⟨?_, rfl⟩)
  · congr 1
    rw [isLet, decide_eq_decide]
    omega
  · rw [isLet, decide_eq_false (by omega)]
theorem ref11_digit_ok (c : UInt8) : Calls Tryz.prog f.ref11_digit #[.int .u8 (c.toNat : Int)] w (Ret fun r w' => r = .bool (isDig c) ∧ w' = w) := by
  apply R.ref11_digit_calls
  unfold R.ref11_digit
  refine IFB_dec (fun h => ⟨?_, rfl⟩) (fun h => ⟨?_, rfl⟩)
  · congr 1
    rw [isDig, decide_eq_decide]
    omega
  · rw [isDig, decide_eq_false (by omega)]
theorem call0 {P : Program} {f : FuncId} {args : Array Value} {v : Value} {Q : Ending → World → Prop} (h : Calls P f args w (Ret fun r w' => r = v ∧ w' = w)) (hk : Q (.returned v) w) : Calls P f args w Q := (ST.start w).call0 h hk
theorem take_snoc_all {p : UInt8 → Bool} {l : List UInt8} {n : Nat} (hn : n < l.length) (h : ∀ c ∈ l.take n, p c = true) (h2 : p l[n] = true) : ∀ c ∈ l.take (n + 1), p c = true := all_snoc hn h h2
theorem ref11_length_ok (h0 : 0 < s.size) (hs : s.size ≤ 9223372036854775800) : Calls Tryz.prog f.ref11_length #[.string s] w (Ret fun v w' => v = .tuple #[.int .i64 ((lenT (bl s)).1 : Int), .int .i64 (lenT (bl s)).2] ∧ w' = w) := by
  apply R.ref11_length_calls
  unfold R.ref11_length
  obtain ⟨c, r, hcr⟩ : ∃ c r, bl s = c :: r := by
    cases h : bl s with
    | nil => have := bl_length s; rw [h] at this; simp at this; omega
    | cons c r => exact ⟨c, r, rfl⟩
  have hlen : s.size = r.length + 1 := by rw [← bl_length, hcr]; simp
  have g0 : sget s 0 = c := by rw [sget_eq, hcr]; rfl
  have gn : ∀ n, n < r.length → sget s (n + 1) = r.getD n 0 := fun n h => by rw [sget_eq, hcr]; rfl
  have gr : ∀ n (h : n < r.length), r.getD n 0 = r[n] := fun n h => by rw [List.getD_eq_getElem?_getD, List.getElem?_eq_getElem h, Option.getD_some]
  rw [hcr, lenT]
  refine ⟨⟨by omega, by omega⟩, call0 (by rw [g0]; exact ref11_letter_ok c) ⟨_, rfl, IFB_of (fun hl => ?_) (fun hl => ?_)⟩⟩
  · rw [if_pos hl]
    refine ⟨fun st w2 => ∃ n : Nat, st = [.int .i64 ((n + 1 : Nat) : Int)] ∧ n ≤ r.length ∧ (∀ c ∈ r.take n, wordCh c = true) ∧ w2 = w, fun st _ => match st with | [.int _ t] => s.size - t.toNat | _ => 0, ⟨0, rfl, by omega, by simp, rfl⟩, ?_⟩
    rintro t w2 ⟨n, hst, hn, hall, rfl⟩
    cases hst
    have fin : (∀ h : n < r.length, wordCh r[n] = false) → Value.tuple #[.int .i64 ((n + 1 : Nat) : Int), .int .i64 1] = .tuple #[.int .i64 (((runN wordCh r + 1, (1 : Int)) : Nat × Int).1 : Int), .int .i64 ((runN wordCh r + 1, (1 : Int)) : Nat × Int).2] := fun h => by
      rw [runN_at hn hall h]
    refine IFB_dec (fun hlt => ?_) (fun hge => ⟨fin fun h => by omega, rfl⟩)
    have hnl : n < r.length := by omega
    have nx : wordCh r[n] = true → (∃ m : Nat, [Value.int .i64 (IntKind.i64.wrap (((n + 1 : Nat) : Int) + 1))] = [.int .i64 ((m + 1 : Nat) : Int)] ∧ m ≤ r.length ∧ (∀ c ∈ r.take m, wordCh c = true) ∧ w2 = w2) ∧ s.size - (IntKind.i64.wrap (((n + 1 : Nat) : Int) + 1)).toNat < s.size - (((n + 1 : Nat) : Int)).toNat := fun hc => by
      rw [wrap_succ (by omega)]
      exact ⟨⟨n + 1, rfl, hnl, take_snoc_all hnl hall hc, rfl⟩, by simp only [Int.toNat_natCast]; omega⟩
    have eg : sget s (((n + 1 : Nat) : Int).toNat) = r[n] := by rw [Int.toNat_natCast, gn n hnl, gr n hnl]
    rw [eg]
    refine ⟨⟨by omega, by omega⟩, call0 (ref11_letter_ok _) ⟨_, rfl, IFB_of (fun h1 => nx (by rw [wordCh, h1]; rfl)) (fun h1 => ⟨⟨by omega, by omega⟩, call0 (ref11_digit_ok _) ⟨_, rfl, IFB_of (fun h2 => nx (by rw [wordCh, h1, h2]; rfl)) (fun h2 => ⟨⟨by omega, by omega⟩, IFB_eq (fun h3 => nx ?_) (fun h3 => ⟨fin fun _ => ?_, rfl⟩)⟩)⟩⟩)⟩⟩
    · rw [wordCh, h1, h2, decide_eq_true (by omega)]; rfl
    · rw [wordCh, h1, h2, decide_eq_false (by omega)]; rfl
  rw [if_neg (by rw [hl]; decide)]
  refine call0 (by rw [g0]; exact ref11_digit_ok c) ⟨_, rfl, IFB_of (fun hd => ?_) (fun hd => ?_)⟩
  · rw [if_pos hd]
    refine ⟨fun st w2 => ∃ n : Nat, st = [.int .i64 ((n + 1 : Nat) : Int)] ∧ n ≤ r.length ∧ (∀ c ∈ r.take n, isDig c = true) ∧ w2 = w, fun st _ => match st with | [.int _ t] => s.size - t.toNat | _ => 0, ⟨0, rfl, by omega, by simp, rfl⟩, ?_⟩
    rintro t w2 ⟨n, hst, hn, hall, rfl⟩
    cases hst
    have fin : (∀ h : n < r.length, isDig r[n] = false) → Value.tuple #[.int .i64 ((n + 1 : Nat) : Int), .int .i64 2] = .tuple #[.int .i64 (((runN isDig r + 1, (2 : Int)) : Nat × Int).1 : Int), .int .i64 ((runN isDig r + 1, (2 : Int)) : Nat × Int).2] := fun h => by
      rw [runN_at hn hall h]
    refine IFB_dec (fun hlt => ?_) (fun hge => ⟨fin fun h => by omega, rfl⟩)
    have hnl : n < r.length := by omega
    have eg : sget s (((n + 1 : Nat) : Int).toNat) = r[n] := by rw [Int.toNat_natCast, gn n hnl, gr n hnl]
    rw [eg]
    refine ⟨⟨by omega, by omega⟩, call0 (ref11_digit_ok _) ⟨_, rfl, IFB_of (fun h2 => ?_) (fun h2 => ⟨fin fun _ => h2, rfl⟩)⟩⟩
    rw [wrap_succ (by omega)]
    exact ⟨⟨n + 1, rfl, hnl, take_snoc_all hnl hall h2, rfl⟩, by simp only [Int.toNat_natCast]; omega⟩
  rw [if_neg (by rw [hd]; decide), g0]
  refine IFB_eq (fun hq => ?_) (fun hq => ?_)
  · rw [if_pos (by omega)]
    refine ⟨fun st w2 => ∃ n : Nat, st = [.int .i64 ((n + 1 : Nat) : Int)] ∧ n ≤ r.length ∧ quoteN r = (if quoteN (r.drop n) = 0 then 0 else quoteN (r.drop n) + n) ∧ w2 = w, fun st _ => match st with | [.int _ t] => s.size + 1 - t.toNat | _ => 0, ⟨0, rfl, by omega, ?_, rfl⟩, ?_⟩
    · simp only [List.drop_zero, Nat.add_zero]; split <;> omega
    rintro t w2 ⟨n, hst, hn, hall, rfl⟩
    cases hst
    refine IFB_dec (fun hlt => ?_) (fun hge => ⟨?_, rfl⟩)
    · have hnl : n < r.length := by omega
      have eg : sget s (((n + 1 : Nat) : Int).toNat) = r[n] := by rw [Int.toNat_natCast, gn n hnl, gr n hnl]
      have ew : IntKind.i64.wrap (((n + 1 : Nat) : Int) + 1) = ((n + 2 : Nat) : Int) := by rw [wrap_i64 (by omega) (by omega)]; omega
      have ew2 : IntKind.i64.wrap (((n + 1 : Nat) : Int) + 2) = ((n + 3 : Nat) : Int) := by rw [wrap_i64 (by omega) (by omega)]; omega
      have hdr : r.drop n = r[n] :: r.drop (n + 1) := (List.getElem_cons_drop hnl).symm
      rw [eg, ew, ew2]
      refine ⟨⟨by omega, by omega⟩, IFB_ne (fun hc => ⟨⟨n + 1, rfl, hnl, ?_, rfl⟩, by simp only [Int.toNat_natCast]; omega⟩) (fun hc => IFB_eq (fun he => ⟨?_, rfl⟩) (fun he => ⟨⟨by omega, by omega⟩, ?_⟩))⟩
      · rw [hall, hdr, quoteN_other (by omega)]
        by_cases h : quoteN (r.drop (n + 1)) = 0
        · rw [if_pos h, if_pos rfl, if_pos h]
        · rw [if_neg h, if_neg (by omega), if_neg h]; omega
      · have hr : r.drop (n + 1) = [] := List.drop_eq_nil_of_le (by omega)
        have hq1 : quoteN (r.drop n) = 1 := by rw [hdr, hr]; exact quoteN_end (by omega)
        have : quoteN r = n + 1 := by rw [hall, hq1, if_neg (by decide)]; omega
        rw [this, if_neg (by omega)]
      · have hnl2 : n + 1 < r.length := by omega
        have eg2 : sget s (((n + 2 : Nat) : Int).toNat) = r[n + 1] := by rw [Int.toNat_natCast, gn (n + 1) hnl2, gr (n + 1) hnl2]
        have hdr2 : r.drop (n + 1) = r[n + 1] :: r.drop (n + 2) := (List.getElem_cons_drop hnl2).symm
        rw [eg2]
        refine IFB_ne (fun hd2 => ⟨?_, rfl⟩) (fun hd2 => ⟨⟨n + 2, rfl, by omega, ?_, rfl⟩, by simp only [Int.toNat_natCast]; omega⟩)
        · have hq1 : quoteN (r.drop n) = 1 := by rw [hdr, hdr2]; exact quoteN_one (by omega) (by omega) _
          have : quoteN r = n + 1 := by rw [hall, hq1, if_neg (by decide)]; omega
          rw [this, if_neg (by omega)]
        · rw [hall, hdr, hdr2, quoteN_two (by omega) (by omega)]
          by_cases h : quoteN (r.drop (n + 2)) = 0
          · rw [if_pos h, if_pos rfl, if_pos h]
          · rw [if_neg h, if_neg (by omega), if_neg h]; omega
    · have : quoteN r = 0 := by
        rw [hall, List.drop_eq_nil_of_le (by omega)]; rfl
      rw [if_pos this]
      rfl
  rw [if_neg (by omega)]
  refine ⟨fun st w2 => st = [.bool (decide (c.toNat = 60 ∧ 1 ≤ r.length ∧ (r.getD 0 0).toNat = 61))] ∧ w2 = w, IFB_eq (fun h6 => IFB_dec (fun h1 => ⟨⟨by omega, by omega⟩, ?_, rfl⟩) (fun h1 => ⟨?_, rfl⟩)) (fun h6 => ⟨?_, rfl⟩), ?_⟩
  · rw [show sget s 1 = r.getD 0 0 from gn 0 (by omega)]
    congr 2
    rw [Bool.eq_iff_iff, beq_iff_eq, decide_eq_true_eq]
    omega
  · rw [decide_eq_false (by omega)]
  · rw [decide_eq_false (by omega)]
  rintro t w2 ⟨ht, rfl⟩
  obtain rfl : t = decide (c.toNat = 60 ∧ 1 ≤ r.length ∧ (r.getD 0 0).toNat = 61) := by simpa using ht
  refine IFB_dec (fun h => ⟨by rw [if_pos h]; rfl, rfl⟩) (fun h => ?_)
  rw [if_neg h]
  have yes : ∀ k : Nat, k ∈ [40, 41, 44, 43, 45, 42, 47, 37, 61, 60] → (c.toNat : Int) = (k : Int) → (if signCh c = true then ((1 : Nat), (4 : Int)) else (0, 0)) = (1, 4) := fun k hk h => by
    rw [if_pos]
    rw [signCh, show c.toNat = k by omega]
    simpa using hk
  refine IFB_eq (fun h => ⟨by rw [yes 40 (by simp) h]; rfl, rfl⟩) (fun n1 => IFB_eq (fun h => ⟨by rw [yes 41 (by simp) h]; rfl, rfl⟩) (fun n2 => IFB_eq (fun h => ⟨by rw [yes 44 (by simp) h]; rfl, rfl⟩) (fun n3 => IFB_eq (fun h => ⟨by rw [yes 43 (by simp) h]; rfl, rfl⟩) (fun n4 => IFB_eq (fun h => ⟨by rw [yes 45 (by simp) h]; rfl, rfl⟩) (fun n5 => IFB_eq (fun h => ⟨by rw [yes 42 (by simp) h]; rfl, rfl⟩) (fun n6 => IFB_eq (fun h => ⟨by rw [yes 47 (by simp) h]; rfl, rfl⟩) (fun n7 => IFB_eq (fun h => ⟨by rw [yes 37 (by simp) h]; rfl, rfl⟩) (fun n8 => IFB_eq (fun h => ⟨by rw [yes 61 (by simp) h]; rfl, rfl⟩) (fun n9 => IFB_eq (fun h => ⟨by rw [yes 60 (by simp) h]; rfl, rfl⟩) (fun n10 => ⟨?_, rfl⟩))))))))))
  have : signCh c = false := by
    rw [signCh]
    simp
    omega
  rw [this]
  rfl
def zTk : Value := .agg #[.int .i64 0, .int .i64 0, .string ⟨#[]⟩]
theorem tTks : slT Tryz.prog ty.L_ref11_Token = some (ty.ref11_Token, 3, 32, zTk) := by kernel_rfl
def tksI (a : Option Addr) (c : Nat) (T : List Tk) : It := It.row ty.ref11_Token 3 a T.length c (tksL T)
def ToksV (s : ByteArray) (w w' : World) (v : Value) : Prop :=
  match toksF (s.size + 1) (bl s) 0 with
  | .ok T => ∃ a c, v = .tuple #[.slice a T.length c, .int .i64 0, .bool true] ∧ ST w w' [tksI a c T]
  | .error e => v = .tuple #[.slice none 0 0, .int .i64 e, .bool false] ∧ Below w.heap.size w w'
theorem ref11_Tokens_ok (hs : s.size ≤ 4000000) : Calls Tryz.prog f.ref11_Tokens #[.string s] w (Ret fun v w' => ToksV s w w' v) := by
  apply R.ref11_Tokens_calls
  unfold R.ref11_Tokens
  refine ⟨fun st w1 => ∃ (a : Option Addr) (c n k : Nat) (T : List Tk), st = [.slice a T.length c, .int .i64 (n : Int)] ∧ n ≤ s.size ∧ T.length ≤ n ∧ s.size - n < k ∧ toksF (s.size + 1) (bl s) 0 = (match toksF k ((bl s).drop n) n with | .error e => .error e | .ok T' => .ok (T ++ T')) ∧ ST w w1 [tksI a c T],
    fun st _ => match st with | [_, .int _ t] => s.size - t.toNat | _ => 0, ⟨none, 0, 0, s.size + 1, [], rfl, by omega, by simp, by omega, ?_, (ST.start w).nil _ _⟩, ?_⟩
  · rw [List.drop_zero]
    all_goals (cases toksF (s.size + 1) (bl s) 0 <;> rfl)
  rintro a l c t w1 ⟨a, c, n, k, T, hst, hn, hTn, hk, htk, S1⟩
  cases hst
  obtain ⟨k, rfl⟩ : ∃ k', k = k' + 1 := ⟨k - 1, by omega⟩
  refine IFB_dec (fun hlt => ⟨⟨by omega, hlt⟩, ?_⟩) (fun hge => ?_)
  · have hnl : n < s.size := by omega
    have hnb : n < (bl s).length := by rw [bl_length]; exact hnl
    have hdr : (bl s).drop n = (bl s)[n] :: (bl s).drop (n + 1) := (List.getElem_cons_drop hnb).symm
    rw [Int.toNat_natCast, sget_at hnl]
    rw [hdr, toksF] at htk
    have blank : ((bl s)[n].toNat = 32 ∨ (bl s)[n].toNat = 10) → (∃ (a' : Option Addr) (c' n' k' : Nat) (T' : List Tk), [Value.slice a T.length c, .int .i64 (IntKind.i64.wrap ((n : Int) + 1))] = [.slice a' T'.length c', .int .i64 (n' : Int)] ∧ n' ≤ s.size ∧ T'.length ≤ n' ∧ s.size - n' < k' ∧ toksF (s.size + 1) (bl s) 0 = (match toksF k' ((bl s).drop n') n' with | .error e => .error e | .ok T'' => .ok (T' ++ T'')) ∧ ST w w1 [tksI a' c' T']) ∧ s.size - (IntKind.i64.wrap ((n : Int) + 1)).toNat < s.size - ((n : Nat) : Int).toNat := fun hb => by
      rw [if_pos hb] at htk
      rw [wrap_succ (by omega)]
      exact ⟨⟨a, c, n + 1, k, T, rfl, by omega, by omega, by omega, htk, S1⟩, by simp only [Int.toNat_natCast]; omega⟩
    have hb1 : (0 : Int) ≤ (n : Int) := by omega
    have hb2 : (0 : Int) ≤ (n : Int) ∧ (n : Int) ≤ (s.size : Int) ∧ (s.size : Int) ≤ (s.size : Int) := by omega
    have e32 : ∀ c : UInt8, ((c.toNat : Nat) : Int) = 32 → c.toNat = 32 := fun c h => by omega
    have e10 : ∀ c : UInt8, ((c.toNat : Nat) : Int) = 10 → c.toNat = 10 := fun c h => by omega
    refine IFB_eq (fun h => blank (.inl (e32 _ h))) (fun h32 => ⟨⟨hb1, hlt⟩, IFB_eq (fun h => blank (.inr (e10 _ h))) (fun h10 => ⟨hb2, ?_⟩)⟩)
    clear blank
    rw [if_neg (by omega)] at htk
    have hbe : bl (s.extract n s.size) = (bl s)[n] :: (bl s).drop (n + 1) := by
      rw [bl_extract, hdr, List.take_of_length_le]
      simp [bl_length]
    have hse : (s.extract n s.size).size = s.size - n := by rw [← bl_length, bl_extract]; simp [bl_length]
    refine S1.call0 (ref11_length_ok (by omega) (by omega)) ⟨_, _, rfl, ?_⟩
    rw [hbe]
    obtain ⟨m, hm⟩ : ∃ m, m = lenT ((bl s)[n] :: (bl s).drop (n + 1)) := ⟨_, rfl⟩
    rw [← hm] at htk ⊢
    have hml : m.1 ≤ s.size - n := by
      have := lenT_le ((bl s)[n] :: (bl s).drop (n + 1))
      rw [← hm, ← hdr, List.length_drop, bl_length] at this
      exact this
    refine IFB_eq (fun h0 => ?_) (fun h0 => ?_)
    · rw [if_pos (by omega)] at htk
      unfold ToksV
      rw [htk]
      exact ⟨rfl, S1.bel⟩
    · rw [if_neg (by omega), ← hdr, List.drop_drop] at htk
      have ew : IntKind.i64.wrap ((n : Int) + (m.1 : Int)) = ((n + m.1 : Nat) : Int) := by rw [wrap_i64 (by omega) (by omega)]; omega
      rw [ew, Int.toNat_natCast]
      refine ⟨⟨by omega, by omega, by omega⟩, S1.newB fun b8 w3 _ _ S3 => ?_⟩
      refine S3.app 1 rfl tTks rfl (by omega) (by omega) (S3.rdc 0 rfl) (mm := 1) rfl (by intro u hu; simp at hu; rcases hu with rfl | rfl | rfl <;> rfl) (by omega) fun a' c' w4 S4 => ⟨_, _, _, rfl, ⟨a', c', n + m.1, k, T ++ [((n : Int), m.2, s.extract n (n + m.1))], by simp, by omega, by simp; omega, by omega, ?_, ?_⟩, by simp only [Int.toNat_natCast]; omega⟩
      · have he : s.extract n (n + m.1) = sof (((bl s).drop n).take m.1) := by rw [extract_eq, Nat.add_sub_cancel_left]
        rw [htk, he]
        cases toksF k ((bl s).drop (n + m.1)) (n + m.1) with
        | error e => rfl
        | ok T' => simp only [List.append_assoc, List.singleton_append]
      · have e : tksI a' c' (T ++ [((n : Int), m.2, s.extract n (n + m.1))]) = It.row ty.ref11_Token 3 a' (T.length + 1) c' (tksL T ++ tkC ((n : Int), m.2, s.extract n (n + m.1))) := by
          unfold tksI
          rw [List.length_append, List.length_singleton]
          simp [tksL]
        rw [e]
        exact S4.drop 1
  · obtain rfl : n = s.size := by omega
    rw [List.drop_eq_nil_of_le (by rw [bl_length]; omega), toksF] at htk
    refine S1.newB fun b11 w5 _ _ S5 => ?_
    refine S5.app 1 rfl tTks rfl (by omega) (by omega) (S5.rdc 0 rfl) (mm := 1) rfl (by intro u hu; simp at hu; rcases hu with rfl | rfl | rfl <;> rfl) (by omega) fun a' c' w6 S6 => ⟨_, _, _, rfl, ?_⟩
    unfold ToksV
    rw [htk]
    refine ⟨a', c', by simp, ?_⟩
    have e : tksI a' c' (T ++ [((s.size : Int), 0, E0)]) = It.row ty.ref11_Token 3 a' (T.length + 1) c' (tksL T ++ tkC ((s.size : Int), 0, E0)) := by
      unfold tksI
      rw [List.length_append, List.length_singleton]
      simp [tksL]
    rw [e]
    exact S6.drop 1
end
end Go.Proofs.YtbpdfpfgijhokaaGreatDoor
namespace Go.Proofs.YtbpdfpfgijhokaaGreatDoor
set_option maxRecDepth 100000
open Go.Dn Go.Proofs
open Go.RowKit (Below)
set_option linter.unusedVariables false
section
variable {w0 w : World} {H : List It}
theorem stI (S : ST w0 w H) (n : Nat) {b : Nat} {i : Itm} {a : Option Addr} {cap : Nat} (hn : H[n]? = some (itI b i a cap)) {Q : ByteArray → Int → Int → ByteArray → Int → Int → ByteArray → Option Addr → Nat → Nat → Prop} (hq : Q i.1 i.2.1 i.2.2.op i.2.2.nm i.2.2.v.1 i.2.2.v.2.1 i.2.2.v.2.2 a i.2.2.ks.length cap) :
    ∃ t0 : ByteArray, w.cell? ⟨b, 0, none⟩ = some (.string t0) ∧ ∃ t1 : Int, w.cell? ⟨b, 1, none⟩ = some (.int .i64 t1) ∧ ∃ t2 : Int, w.cell? ⟨b, 2, none⟩ = some (.int .i64 t2) ∧ ∃ t3 : ByteArray, w.cell? ⟨b, 3, none⟩ = some (.string t3) ∧ ∃ t4 : Int, w.cell? ⟨b, 4, none⟩ = some (.int .i64 t4) ∧ ∃ t5 : Int, w.cell? ⟨b, 5, none⟩ = some (.int .i64 t5) ∧ ∃ t6 : ByteArray, w.cell? ⟨b, 6, none⟩ = some (.string t6) ∧
      ∃ (t7 : Option Addr) (l c : Nat), w.cell? ⟨b, 7, none⟩ = some (.slice t7 l c) ∧ Q t0 t1 t2 t3 t4 t5 t6 t7 l c :=
  ⟨_, S.cell n hn rfl, _, S.cell n hn rfl, _, S.cell n hn rfl, _, S.cell n hn rfl, _, S.cell n hn rfl, _, S.cell n hn rfl, _, S.cell n hn rfl, _, _, _, S.cell n hn rfl, hq⟩
theorem stItm (S : ST w0 w H) (n : Nat) {b : Nat} {x0 x1 x2 x3 x4 x5 x6 x7 : Value} {t1 t2 t4 t5 : Int} {t0 t3 t6 : ByteArray} {a7 : Option Addr} {l7 c7 : Nat} {t : TypeId} (hn : H[n]? = some (It.cells b #[x0, x1, x2, x3, x4, x5, x6, x7] t)) {Q : ByteArray → Int → Int → ByteArray → Int → Int → ByteArray → Option Addr → Nat → Nat → World → Prop}
    (hk : ∀ w', ST w0 w' (H.set n (It.cells b #[.string t0, .int .i64 t1, .int .i64 t2, .string t3, .int .i64 t4, .int .i64 t5, .string t6, .slice a7 l7 c7] t)) → Q t0 t1 t2 t3 t4 t5 t6 a7 l7 c7 w') :
    STO ⟨b, 0, none⟩ (.string t0) (fun w => STO ⟨b, 1, none⟩ (.int .i64 t1) (fun w => STO ⟨b, 2, none⟩ (.int .i64 t2) (fun w => STO ⟨b, 3, none⟩ (.string t3) (fun w => STO ⟨b, 4, none⟩ (.int .i64 t4) (fun w => STO ⟨b, 5, none⟩ (.int .i64 t5) (fun w => STO ⟨b, 6, none⟩ (.string t6) (fun w => STO ⟨b, 7, none⟩ (.slice a7 l7 c7) (fun w =>
      ∃ r0 : ByteArray, w.cell? ⟨b, 0, none⟩ = some (.string r0) ∧ ∃ r1 : Int, w.cell? ⟨b, 1, none⟩ = some (.int .i64 r1) ∧ ∃ r2 : Int, w.cell? ⟨b, 2, none⟩ = some (.int .i64 r2) ∧ ∃ r3 : ByteArray, w.cell? ⟨b, 3, none⟩ = some (.string r3) ∧ ∃ r4 : Int, w.cell? ⟨b, 4, none⟩ = some (.int .i64 r4) ∧ ∃ r5 : Int, w.cell? ⟨b, 5, none⟩ = some (.int .i64 r5) ∧ ∃ r6 : ByteArray, w.cell? ⟨b, 6, none⟩ = some (.string r6) ∧
      ∃ (r7 : Option Addr) (l c : Nat), w.cell? ⟨b, 7, none⟩ = some (.slice r7 l c) ∧ Q r0 r1 r2 r3 r4 r5 r6 r7 l c w) w) w) w) w) w) w) w) w := by
  have hlt := (List.getElem?_eq_some_iff.1 hn).1
  have g : ∀ {x : It}, (H.set n x)[n]? = some x := List.getElem?_set_self hlt
  exact S.sto8 n hn fun w' S' => ⟨_, S'.cell n g rfl, _, S'.cell n g rfl, _, S'.cell n g rfl, _, S'.cell n g rfl, _, S'.cell n g rfl, _, S'.cell n g rfl, _, S'.cell n g rfl, _, _, _, S'.cell n g rfl, hk w' S'⟩
theorem stIx6 (S : ST w0 w H) (n : Nat) {b : Nat} {x0 x1 x2 x3 x4 x5 x6 x7 v2 v3 v4 v5 v6 v7 : Value} {t : TypeId} (hn : H[n]? = some (It.cells b #[x0, x1, x2, x3, x4, x5, x6, x7] t)) {k : World → Prop}
    (hk : ∀ w', ST w0 w' (H.set n (It.cells b #[x0, x1, v2, v3, v4, v5, v6, v7] t)) → k w') :
    STO ⟨b, 2, none⟩ v2 (fun w => STO ⟨b, 3, none⟩ v3 (fun w => STO ⟨b, 4, none⟩ v4 (fun w => STO ⟨b, 5, none⟩ v5 (fun w => STO ⟨b, 6, none⟩ v6 (fun w => STO ⟨b, 7, none⟩ v7 k w) w) w) w) w) w := by
  have hlt := (List.getElem?_eq_some_iff.1 hn).1
  have g : ∀ {x : It}, (H.set n x)[n]? = some x := List.getElem?_set_self hlt
  refine S.sto n hn (cs' := #[x0, x1, v2, x3, x4, x5, x6, x7]) (by simp) rfl fun w1 S1 => S1.sto n g (cs' := #[x0, x1, v2, v3, x4, x5, x6, x7]) (by simp) rfl fun w2 S2 => ?_
  rw [List.set_set] at S2
  refine S2.sto n g (cs' := #[x0, x1, v2, v3, v4, x5, x6, x7]) (by simp) rfl fun w3 S3 => ?_
  rw [List.set_set] at S3
  refine S3.sto n g (cs' := #[x0, x1, v2, v3, v4, v5, x6, x7]) (by simp) rfl fun w4 S4 => ?_
  rw [List.set_set] at S4
  refine S4.sto n g (cs' := #[x0, x1, v2, v3, v4, v5, v6, x7]) (by simp) rfl fun w5 S5 => ?_
  rw [List.set_set] at S5
  refine S5.sto n g (cs' := #[x0, x1, v2, v3, v4, v5, v6, v7]) (by simp) rfl fun w6 S6 => ?_
  rw [List.set_set] at S6
  exact hk w6 S6
end
def asW : ByteArray := ⟨#[97, 115]⟩
section
variable {w0 w : World} {H : List It} {b : Nat} {a : Option Addr} {c i : Nat} {T : List Tk}
end
section
variable {w : World} {q : Qu} {ai aw ag ao : Option Addr} {ci cw cg co : Nat}
end
structure Pl where
  cs : List Col
  q : Qu
  out : List Col
  g : Bool
section
variable {cs : List Col} {q : Qu} (h1 : rightCols cs = true) (h2 : rightQ q = true)
include h1 h2
end
section
variable {w : World} {q : Qu} {ai aw ag ao : Option Addr} {ci cw cg co : Nat}
end
section
variable {w : World} {p : Pl} {a0 ai aw ag ao a6 b0 bi bw bg bo b6 : Option Addr} {c0 ci cw cg co c6 d0 di dw dg d_o d6 : Nat}
end
section
variable {w : World} {p : Pl} {a0 ai aw ag ao a6 : Option Addr} {c0 ci cw cg co c6 : Nat}
end
end Go.Proofs.YtbpdfpfgijhokaaGreatDoor
namespace Go.Proofs.YtbpdfpfgijhokaaGreatDoor
set_option maxRecDepth 100000
open Go.Dn Go.Proofs
open Go.RowKit (Below)
open Go.Sort (putRow putCells Holds)
set_option linter.unusedVariables false
section
variable {w0 w : World} {H : List It} {a : Option Addr} {c : Nat}
end
end Go.Proofs.YtbpdfpfgijhokaaGreatDoor
namespace Go.Proofs.YtbpdfpfgijhokaaGreatDoor
set_option maxRecDepth 100000
open Go.Dn Go.Proofs
open Go.RowKit (Below)
set_option linter.unusedVariables false
/-! ### plain -/
/-! ### the walk over them -/
section
variable {w0 : World} {q : Qu} {ai aw ag ao : Option Addr} {ci cw cg co : Nat}
end
/-! ### an item, an expression -/
section
variable {w w0 : World} {q : Qu} {ai aw ag ao : Option Addr} {ci cw cg co : Nat} {H : List It} {cs : List Col} {a0 a6 : Option Addr} {c0 c6 b : Nat} {out : List Col} {g : Bool}
end
end Go.Proofs.YtbpdfpfgijhokaaGreatDoor
namespace Go.Proofs.YtbpdfpfgijhokaaGreatDoor
set_option maxRecDepth 100000
open Go.Dn Go.Proofs
open Go.RowKit (Below)
set_option linter.unusedVariables false
section
variable {w w0 : World} {q : Qu} {ai aw ag ao : Option Addr} {ci cw cg co : Nat} {H : List It} {cs : List Col} {a0 a6 : Option Addr} {c0 c6 b : Nat} {out : List Col}
end
section
variable {w w0 : World} {H : List It}
end
section
variable {w : World} {q : Qu} {ai aw ag ao : Option Addr} {ci cw cg co : Nat}
end
section
variable {w : World} {p : Pl} {a0 ai aw ag ao a6 : Option Addr} {c0 ci cw cg co c6 : Nat}
end
def i1 : Itm := (⟨#[107]⟩, 0, colX ⟨#[98]⟩)
def i2 : Itm := (⟨#[115]⟩, 3, colX ⟨#[97]⟩)
def Q0 : Qu := ⟨[i1, i2], [], [colX ⟨#[98]⟩], [], -1⟩
def zIt : Value := .agg #[.string ⟨#[]⟩, .int .i64 0, .int .i64 0, .string ⟨#[]⟩, .int .i64 0, .int .i64 0, .string ⟨#[]⟩, .slice none 0 0]
theorem tItems : slT Tryz.prog ty.L_api_Item = some (ty.api_Item, 8, 104, zIt) := by kernel_rfl
theorem it_one (i : Itm) (a : Option Addr) (cap : Nat) : ∀ u ∈ itHead i a cap, u.oneCell' = true := by
  intro u hu
  simp only [itHead, exHead, List.mem_cons, List.not_mem_nil, or_false] at hu
  rcases hu with rfl | rfl | rfl | rfl | rfl | rfl | rfl | rfl <;> rfl
theorem ex_one (x : Ex) (a : Option Addr) (cap : Nat) : ∀ u ∈ exHead x a cap, u.oneCell' = true := by
  intro u hu
  simp only [exHead, List.mem_cons, List.not_mem_nil, or_false] at hu
  rcases hu with rfl | rfl | rfl | rfl | rfl | rfl <;> rfl
abbrev zqb (b : Nat) : It := It.cells b #[.slice none 0 0, .slice none 0 0, .slice none 0 0, .slice none 0 0, .int .i64 0] ty.api_Query
abbrev itemsI (a : Option Addr) (n c : Nat) (rs : List Value) : It := It.row ty.api_Item 8 a n c rs
section
variable {w0 w : World} {H : List It} {b : Nat} {a : Option Addr} {c : Nat}
end
theorem colX_c (w : World) {s : ByteArray} (h : s.size ≤ maxLen) : XC w (colX s) (exHead (colX s) none 0) :=
  ExC.close (rs := []) (Rd.nil _ _) (by simp) (Nat.le_refl _) (by decide) (fun _ => rfl) ⟨⟨by show -9223372036854775808 ≤ (1 : Int); decide, by show (1 : Int) ≤ 9223372036854775807; decide⟩, h, ⟨by show -9223372036854775808 ≤ (0 : Int); decide, by show (0 : Int) ≤ 9223372036854775807; decide⟩, ⟨by show -9223372036854775808 ≤ (0 : Int); decide, by show (0 : Int) ≤ 9223372036854775807; decide⟩, by show (0 : Nat) ≤ maxLen; omega⟩ ExL.nil
section
variable {w : World}
/-! ### a query that sums gathers -/
end
abbrev ppL (b : Nat) (x : Option Addr) (c : Nat) (L : List Tk) (H : List It) : List It := It.cells b #[.slice x L.length c] ty.query_parser :: It.rd x (tksL L) :: H
def PS (w0 w : World) (b : Nat) (L : List Tk) (H : List It) : Prop := ∃ x c, L.length ≤ c ∧ c ≤ 9223372036854775807 ∧ ST w0 w (ppL b x c L H)
theorem ppL_in {w0 w : World} {H : List It} {b : Nat} {x : Option Addr} {c : Nat} {L : List Tk} {y : It} (S : ST w0 w (y :: ppL b x c L H)) : ST w0 w (ppL b x c L (y :: H)) := (S.pull 2 rfl).pull 2 rfl
section
variable {w w0 : World} {H : List It} {b : Nat} {L : List Tk} {t : Tk}
theorem PS.newB (S : PS w0 w b L H) {cs : Array Value} {ty : TypeId} {k : Nat → World → Prop} (hk : ∀ b' w', PS w0 w' b L (It.cells b' cs ty :: H) → k b' w') : NEWB cs ty k w := by
  obtain ⟨x, c, h1, h2, S⟩ := S
  exact S.newB fun b' w' _ _ S' => hk b' w' ⟨x, c, h1, h2, ppL_in S'⟩
theorem PS.cell (S : PS w0 w b L H) (n : Nat) {b' : Nat} {cs : Array Value} {ty : TypeId} (hn : H[n]? = some (It.cells b' cs ty)) {i : Nat} {v : Value} (hv : cs[i]? = some v) : w.cell? ⟨b', i, none⟩ = some v := by
  obtain ⟨x, c, h1, h2, S⟩ := S
  exact S.cell (n + 2) hn hv
theorem PS.sto (S : PS w0 w b L H) (n : Nat) {b' : Nat} {cs cs' : Array Value} {ty : TypeId} (hn : H[n]? = some (It.cells b' cs ty)) {i : Nat} {v : Value} {k : World → Prop} (hi : i < cs.size) (hc : cs.setIfInBounds i v = cs')
    (hk : ∀ w', PS w0 w' b L (H.set n (It.cells b' cs' ty)) → k w') : STO ⟨b', i, none⟩ v k w := by
  obtain ⟨x, c, h1, h2, S⟩ := S
  exact S.sto (n + 2) hn hi hc fun w' S' => hk w' ⟨x, c, h1, h2, S'⟩
theorem PS.draw (S : PS w0 w b L H) {k : World → Prop} (hk : ∀ w', PS w0 w' b L H → k w') : DRAW k w := by
  obtain ⟨x, c, h1, h2, S⟩ := S
  exact S.draw fun w' _ S' => hk w' ⟨x, c, h1, h2, S'⟩
theorem PS.grown (S : PS w0 w b L H) {w' : World} (B : Below w.heap.size w w') : PS w0 w' b L H := by
  obtain ⟨x, c, h1, h2, S⟩ := S
  exact ⟨x, c, h1, h2, S.grown B⟩
theorem PS.drop (S : PS w0 w b L H) (n : Nat) : PS w0 w b L (H.drop n) := by
  obtain ⟨x, c, h1, h2, S⟩ := S
  exact ⟨x, c, h1, h2, S.sub (List.Sublist.cons_cons _ (List.Sublist.cons_cons _ (List.drop_sublist n H)))⟩
theorem PS.bel (S : PS w0 w b L H) : Below w0.heap.size w0 w := by
  obtain ⟨x, c, h1, h2, S⟩ := S
  exact S.bel
theorem PS.call (S : PS w0 w b L H) {P : Program} {f : FuncId} {args : Array Value} {Q : Ending → World → Prop} {v : Value} (h : Calls P f args w (Ret fun r w' => r = v ∧ Below w.heap.size w w')) (hk : ∀ w', PS w0 w' b L H → Q (.returned v) w') : Calls P f args w Q :=
  h.mono (by rintro _ w' ⟨_, rfl, rfl, B⟩; exact hk w' (S.grown B))
theorem PS.perm (S : PS w0 w b L H) {H' : List It} (h : H.Perm H') : PS w0 w b L H' := by
  obtain ⟨x, c, h1, h2, S⟩ := S
  exact ⟨x, c, h1, h2, S.perm ((h.cons _).cons _)⟩
theorem PS.lit6 (S : PS w0 w b L H) {z0 z1 z2 z3 z4 z5 v0 v1 v2 v3 v4 v5 : Value} {ty : TypeId} {k : Nat → World → Prop} (hk : ∀ b' w', PS w0 w' b L (It.cells b' #[v0, v1, v2, v3, v4, v5] ty :: H) → k b' w') :
    NEWB #[z0, z1, z2, z3, z4, z5] ty (fun b w => STO ⟨b, 0, none⟩ v0 (fun w => STO ⟨b, 1, none⟩ v1 (fun w => STO ⟨b, 2, none⟩ v2 (fun w => STO ⟨b, 3, none⟩ v3 (fun w => STO ⟨b, 4, none⟩ v4 (fun w => STO ⟨b, 5, none⟩ v5 (fun w => k b w) w) w) w) w) w) w) w := by
  obtain ⟨x, c, h1, h2, S⟩ := S
  exact S.lit6 fun b' w' _ S' => hk b' w' ⟨x, c, h1, h2, ppL_in S'⟩
theorem PS.lit3 (S : PS w0 w b L H) {z0 z1 z2 v0 v1 v2 : Value} {ty : TypeId} {k : Nat → World → Prop} (hk : ∀ b' w', PS w0 w' b L (It.cells b' #[v0, v1, v2] ty :: H) → k b' w') :
    NEWB #[z0, z1, z2] ty (fun b w => STO ⟨b, 0, none⟩ v0 (fun w => STO ⟨b, 1, none⟩ v1 (fun w => STO ⟨b, 2, none⟩ v2 (fun w => k b w) w) w) w) w := by
  obtain ⟨x, c, h1, h2, S⟩ := S
  exact S.lit3 fun b' w' _ S' => hk b' w' ⟨x, c, h1, h2, ppL_in S'⟩
theorem PS.stEx (S : PS w0 w b L H) (n : Nat) {b' : Nat} {x0 x1 x2 x3 x4 x5 : Value} {t0 t2 t3 : Int} {t1 t4 : ByteArray} {a5 : Option Addr} {l5 c5 : Nat} {t : TypeId} (hn : H[n]? = some (It.cells b' #[x0, x1, x2, x3, x4, x5] t)) {Q : Int → ByteArray → Int → Int → ByteArray → Option Addr → Nat → Nat → World → Prop}
    (hk : ∀ w', PS w0 w' b L (H.set n (It.cells b' #[.int .i64 t0, .string t1, .int .i64 t2, .int .i64 t3, .string t4, .slice a5 l5 c5] t)) → Q t0 t1 t2 t3 t4 a5 l5 c5 w') :
    STO ⟨b', 0, none⟩ (.int .i64 t0) (fun w => STO ⟨b', 1, none⟩ (.string t1) (fun w => STO ⟨b', 2, none⟩ (.int .i64 t2) (fun w => STO ⟨b', 3, none⟩ (.int .i64 t3) (fun w => STO ⟨b', 4, none⟩ (.string t4) (fun w => STO ⟨b', 5, none⟩ (.slice a5 l5 c5) (fun w =>
      ∃ r0 : Int, w.cell? ⟨b', 0, none⟩ = some (.int .i64 r0) ∧ ∃ r1 : ByteArray, w.cell? ⟨b', 1, none⟩ = some (.string r1) ∧ ∃ r2 : Int, w.cell? ⟨b', 2, none⟩ = some (.int .i64 r2) ∧ ∃ r3 : Int, w.cell? ⟨b', 3, none⟩ = some (.int .i64 r3) ∧ ∃ r4 : ByteArray, w.cell? ⟨b', 4, none⟩ = some (.string r4) ∧
      ∃ (r5 : Option Addr) (r5l r5c : Nat), w.cell? ⟨b', 5, none⟩ = some (.slice r5 r5l r5c) ∧ Q r0 r1 r2 r3 r4 r5 r5l r5c w) w) w) w) w) w) w := by
  obtain ⟨x, c, h1, h2, S⟩ := S
  exact Go.Proofs.YtbpdfpfgijhokaaGreatDoor.stEx S (n + 2) hn fun w' S' => hk w' ⟨x, c, h1, h2, S'⟩
theorem PS.stX (S : PS w0 w b L H) (n : Nat) {b' : Nat} {x : Ex} {a : Option Addr} {cap : Nat} (hn : H[n]? = some (exI b' (exHead x a cap))) {Q : Int → ByteArray → Int → Int → ByteArray → Option Addr → Nat → Nat → Prop} (hq : Q x.op x.nm x.v.1 x.v.2.1 x.v.2.2 a x.ks.length cap) :
    ∃ t0 : Int, w.cell? ⟨b', 0, none⟩ = some (.int .i64 t0) ∧ ∃ t1 : ByteArray, w.cell? ⟨b', 1, none⟩ = some (.string t1) ∧ ∃ t2 : Int, w.cell? ⟨b', 2, none⟩ = some (.int .i64 t2) ∧ ∃ t3 : Int, w.cell? ⟨b', 3, none⟩ = some (.int .i64 t3) ∧ ∃ t4 : ByteArray, w.cell? ⟨b', 4, none⟩ = some (.string t4) ∧
      ∃ (t5 : Option Addr) (l c : Nat), w.cell? ⟨b', 5, none⟩ = some (.slice t5 l c) ∧ Q t0 t1 t2 t3 t4 t5 l c := by
  obtain ⟨y, c, h1, h2, S⟩ := S
  exact Go.Proofs.YtbpdfpfgijhokaaGreatDoor.stX S (n + 2) hn hq
/-! ### tokens -/
def isB (t : Tk) (s : ByteArray) : Bool := decide (t.2.1 = 1 ∨ t.2.1 = 4) && decide (t.2.2 = s)
def tkV (t : Tk) : Value := .agg #[.int .i64 t.1, .int .i64 t.2.1, .string t.2.2]
theorem pnext_ok (S : PS w0 w b (t :: L) H) : Calls Tryz.prog f.query_parser_next #[.pointer (some ⟨b, 0, none⟩)] w (Ret fun r w' => r = tkV t ∧ PS w0 w' b (t :: L) H) := by
  obtain ⟨x, c, hc, hc2, S⟩ := S
  apply R.query_parser_next_calls
  unfold R.query_parser_next
  refine S.newB fun b2 w1 _ _ S1 => ?_
  obtain ⟨p, hp, c0, c1, c2⟩ := tk_at (show Rd w1 x (tksL (t :: L)) from S1.get 2 rfl) (i := 0) (by simp)
  subst hp
  exact PTR_i ⟨_, _, _, S1.cell 1 rfl rfl, ⟨by omega, by rw [List.length_cons]; omega⟩, PTR_i ⟨_, c0, _, c1, _, c2, S1.sto3 0 rfl fun w4 S4 => ⟨_, S4.cell 0 rfl rfl, _, S4.cell 0 rfl rfl, _, S4.cell 0 rfl rfl, rfl, _, c, hc, hc2, S4.drop 1⟩⟩⟩
theorem pskip_ok (S : PS w0 w b (t :: L) H) : Calls Tryz.prog f.query_parser_skip #[.pointer (some ⟨b, 0, none⟩)] w (Ret fun r w' => r = tkV t ∧ PS w0 w' b L H) := by
  obtain ⟨x, c, hc, hc2, S⟩ := S
  rw [List.length_cons] at hc
  apply R.query_parser_skip_calls
  unfold R.query_parser_skip
  refine S.newB fun b2 w1 _ _ S1 => ?_
  obtain ⟨p, hp, c0, c1, c2⟩ := tk_at (show Rd w1 x (tksL (t :: L)) from S1.get 2 rfl) (i := 0) (by simp)
  subst hp
  refine PTR_i ⟨_, _, _, S1.cell 1 rfl rfl, ⟨by omega, by rw [List.length_cons]; omega⟩, PTR_i ⟨_, c0, _, c1, _, c2, S1.lit3 fun b9 w5 _ S5 => PTR_i ⟨_, _, _, S5.cell 2 rfl rfl, ⟨by omega, by rw [List.length_cons]; omega, by rw [List.length_cons]; omega⟩, PTR_i ?_⟩⟩⟩
  refine S5.sto 2 rfl (cs' := #[.slice (SLA (some p) 1 c 3) L.length (c - 1)]) (by simp) rfl fun w6 S6 => ⟨_, S6.cell 0 rfl rfl, _, S6.cell 0 rfl rfl, _, S6.cell 0 rfl rfl, S6.sto3 1 rfl fun w9 S9 => ⟨_, S9.cell 1 rfl rfl, _, S9.cell 1 rfl rfl, _, S9.cell 1 rfl rfl, rfl, SLA (some p) 1 c 3, c - 1, by omega, by omega, ?_⟩⟩
  have hr : Rd w9 (some p) (tksL (t :: L)) := S9.get 3 rfl
  have h2 := hr.sla 1 (L.length + 1) c 3 hc
  have e : ((tksL (t :: L)).drop (1 * 3)).take ((L.length + 1 - 1) * 3) = tksL L := by
    show (tksL L).take ((L.length + 1 - 1) * 3) = tksL L
    have : (tksL L).length = L.length * 3 := by
      clear hr h2 c0 c1 c2 S9 S6 S5 S1 S hc
      induction L with
      | nil => rfl
      | cons t L ih =>
        show (tkC t ++ tksL L).length = _
        rw [List.length_append, ih, List.length_cons]
        show 3 + L.length * 3 = _
        omega
    exact List.take_of_length_le (by omega)
  rw [e] at h2
  have S10 := S9.chg 3 rfl (Keeps.refl _ w9) (It.rd (SLA (some p) 1 c 3) (tksL L)) h2 fun k hk => .inl (by
    have : (It.rd (some p) (tksL (t :: L))).blk = some p.block := rfl
    rw [this]
    cases hL : tksL L with
    | nil => rw [hL] at hk; cases hk
    | cons v vs =>
      rw [hL] at hk
      have hk : rowB (SLA (some p) 1 c 3) = some k := hk
      unfold SLA at hk
      split at hk
      · exact hk
      · simpa [rowB, addr_add_block] using hk)
  exact S10.drop 2
theorem pis_ok (S : PS w0 w b (t :: L) H) (s : ByteArray) : Calls Tryz.prog f.query_parser_is #[.pointer (some ⟨b, 0, none⟩), .string s] w (Ret fun r w' => r = .bool (isB t s) ∧ PS w0 w' b (t :: L) H) := by
  apply R.query_parser_is_calls
  unfold R.query_parser_is
  refine (pnext_ok S).mono ?_
  rintro _ w1 ⟨_, rfl, rfl, S1⟩
  refine ⟨_, _, _, rfl, S1.lit3 fun b7 w5 S5 => ⟨_, S5.cell 0 rfl rfl, ?_⟩⟩
  have S6 := S5.drop 1
  refine IFB_eq (fun h => ⟨_, S5.cell 0 rfl rfl, ?_, S6⟩) (fun h => ⟨_, S5.cell 0 rfl rfl, IFB_eq (fun h4 => ⟨_, S5.cell 0 rfl rfl, ?_, S6⟩) (fun h4 => ⟨?_, S6⟩)⟩)
  · rw [isB, decide_eq_true (.inl h), Bool.true_and, bytesEq_iff]
  · rw [isB, decide_eq_true (.inr h4), Bool.true_and, bytesEq_iff]
  · rw [isB, decide_eq_false (by rintro (h1 | h1) <;> contradiction), Bool.false_and]
theorem pisN (S : PS w0 w b (t :: L) H) {s : ByteArray} (h : isB t s = false) {Q : Ending → World → Prop} (hk : ∀ w', PS w0 w' b (t :: L) H → Q (.returned (.bool false)) w') : Calls Tryz.prog f.query_parser_is #[.pointer (some ⟨b, 0, none⟩), .string s] w Q := by
  refine (pis_ok S s).mono ?_
  rintro _ w' ⟨_, rfl, rfl, S'⟩
  rw [h]
  exact hk w' S'
theorem ptake_ok (S : PS w0 w b (t :: L) H) (s : ByteArray) : Calls Tryz.prog f.query_parser_take #[.pointer (some ⟨b, 0, none⟩), .string s] w (Ret fun r w' => r = .bool (isB t s) ∧ PS w0 w' b (if isB t s = true then L else t :: L) H) := by
  apply R.query_parser_take_calls
  unfold R.query_parser_take
  refine (pis_ok S s).mono ?_
  rintro _ w1 ⟨_, rfl, rfl, S1⟩
  refine ⟨_, rfl, IFB_of (fun h => (pskip_ok S1).mono ?_) (fun h => ⟨by rw [h], by rw [if_neg (by rw [h]; decide)]; exact S1⟩)⟩
  rintro _ w2 ⟨_, rfl, rfl, S2⟩
  exact ⟨_, _, _, rfl, by rw [h], by rw [if_pos h]; exact S2⟩
theorem ptakeN (S : PS w0 w b (t :: L) H) {s : ByteArray} (h : isB t s = false) {Q : Ending → World → Prop} (hk : ∀ w', PS w0 w' b (t :: L) H → Q (.returned (.bool false)) w') : Calls Tryz.prog f.query_parser_take #[.pointer (some ⟨b, 0, none⟩), .string s] w Q := by
  refine (ptake_ok S s).mono ?_
  rintro _ w' ⟨_, rfl, rfl, S'⟩
  rw [h, if_neg (by decide)] at S'
  rw [h]
  exact hk w' S'
theorem ptakeY (S : PS w0 w b (t :: L) H) {s : ByteArray} (h : isB t s = true) {Q : Ending → World → Prop} (hk : ∀ w', PS w0 w' b L H → Q (.returned (.bool true)) w') : Calls Tryz.prog f.query_parser_take #[.pointer (some ⟨b, 0, none⟩), .string s] w Q := by
  refine (ptake_ok S s).mono ?_
  rintro _ w' ⟨_, rfl, rfl, S'⟩
  rw [h, if_pos rfl] at S'
  rw [h]
  exact hk w' S'
theorem pneedY {b9 : Nat} {s : ByteArray} (S : PS w0 w b (t :: L) (It.cells b9 #[.string s] ty.string :: H)) (h : isB t s = true) {Q : Ending → World → Prop} (hk : ∀ w', PS w0 w' b L H → Q (.returned (.tuple #[])) w') : Calls Tryz.prog f.query_parser_need #[.pointer (some ⟨b, 0, none⟩), .slice (some ⟨b9, 0, none⟩) 1 1] w Q := by
  have hh : Calls Tryz.prog f.query_parser_need #[.pointer (some ⟨b, 0, none⟩), .slice (some ⟨b9, 0, none⟩) 1 1] w (Ret fun v w' => v = .tuple #[] ∧ PS w0 w' b L H) := by
    apply R.query_parser_need_calls
    unfold R.query_parser_need
    refine forUp 1 (fun j w => PS w0 w b (if j = 0 then t :: L else L) (It.cells b9 #[.string s] ty.string :: H)) (by omega) S fun I M j w1 hj S1 next => ?_
    refine IFB_dec (fun hlt => ⟨⟨by omega, hlt⟩, ?_⟩) (fun hge => ⟨rfl, ?_⟩)
    · have hj0 : j = 0 := by change (j : Int) < ((1 : Nat) : Int) at hlt; omega
      subst hj0
      exact PTR_i ⟨_, S1.cell 0 rfl rfl, ptakeY S1 h fun w2 S2 => ⟨_, rfl, IFB_not (IFB_true (next _ (by omega) S2))⟩⟩
    · change ¬ (j : Int) < ((1 : Nat) : Int) at hge
      rw [if_neg (by omega)] at S1
      exact S1.drop 1
  refine hh.mono ?_
  rintro _ w' ⟨_, rfl, rfl, S'⟩
  exact hk w' S'
theorem pnameY (E : Env w0) (S : PS w0 w b (t :: L) H) (h1 : t.2.1 = 1) (h2 : isKeyB t.2.2 = false) {Q : Ending → World → Prop} (hk : ∀ w', PS w0 w' b L H → Q (.returned (.string t.2.2)) w') : Calls Tryz.prog f.query_parser_name #[.pointer (some ⟨b, 0, none⟩)] w Q := by
  have hh : Calls Tryz.prog f.query_parser_name #[.pointer (some ⟨b, 0, none⟩)] w (Ret fun v w' => v = .string t.2.2 ∧ PS w0 w' b L H) := by
    apply R.query_parser_name_calls
    unfold R.query_parser_name
    refine (pnext_ok S).mono ?_
    rintro _ w1 ⟨_, rfl, rfl, S1⟩
    refine ⟨_, _, _, rfl, S1.lit3 fun b6 w5 S5 => ⟨_, S5.cell 0 rfl rfl, IFB_ne (fun h => absurd h1 h) (fun _ => ⟨_, S5.cell 0 rfl rfl, call0 (query_isKey_ok _ (E.grown S5.bel)) ⟨_, rfl, IFB_no h2 ((pskip_ok (S5.drop 1)).mono ?_)⟩⟩)⟩⟩
    rintro _ w7 ⟨_, rfl, rfl, S7⟩
    exact ⟨_, _, _, rfl, rfl, S7⟩
  refine hh.mono ?_
  rintro _ w' ⟨_, rfl, rfl, S'⟩
  exact hk w' S'
def powF (t : Tk) : Int × Int :=
  if t.2.1 = 3 then (0, 0) else if t.2.2 = ⟨#[111, 114]⟩ then (1, 13) else if t.2.2 = ⟨#[97, 110, 100]⟩ then (2, 12) else if t.2.2 = ⟨#[61]⟩ then (5, 9) else if t.2.2 = ⟨#[60]⟩ then (5, 10) else if t.2.2 = ⟨#[60, 61]⟩ then (5, 11) else
  if t.2.2 = ⟨#[43]⟩ then (6, 3) else if t.2.2 = ⟨#[45]⟩ then (6, 4) else if t.2.2 = ⟨#[42]⟩ then (7, 5) else if t.2.2 = ⟨#[47]⟩ then (7, 6) else if t.2.2 = ⟨#[37]⟩ then (7, 7) else (0, 0)
theorem ppower_ok (t : Tk) : Calls Tryz.prog f.query_power #[tkV t] w (Ret fun r w' => r = .tuple #[.int .i64 (powF t).1, .int .i64 (powF t).2] ∧ Below w.heap.size w w') := by
  apply R.query_power_calls
  unfold R.query_power
  refine (ST.start w).newB fun b4 w1 _ _ S1 => ⟨_, S1.cell 0 rfl rfl, ?_⟩
  unfold powF
  refine IFB_eq (fun h => ⟨by rw [if_pos h], S1.bel⟩) (fun h => ?_)
  rw [if_neg h]
  refine ⟨_, S1.cell 0 rfl rfl, ?_⟩
  simp only [bytesEq_iff]
  refine IFB_dec (fun h => ⟨by rw [if_pos h], S1.bel⟩) (fun h => ?_)
  rw [if_neg h]
  refine IFB_dec (fun h => ⟨by rw [if_pos h], S1.bel⟩) (fun h => ?_)
  rw [if_neg h]
  refine IFB_dec (fun h => ⟨by rw [if_pos h], S1.bel⟩) (fun h => ?_)
  rw [if_neg h]
  refine IFB_dec (fun h => ⟨by rw [if_pos h], S1.bel⟩) (fun h => ?_)
  rw [if_neg h]
  refine IFB_dec (fun h => ⟨by rw [if_pos h], S1.bel⟩) (fun h => ?_)
  rw [if_neg h]
  refine IFB_dec (fun h => ⟨by rw [if_pos h], S1.bel⟩) (fun h => ?_)
  rw [if_neg h]
  refine IFB_dec (fun h => ⟨by rw [if_pos h], S1.bel⟩) (fun h => ?_)
  rw [if_neg h]
  refine IFB_dec (fun h => ⟨by rw [if_pos h], S1.bel⟩) (fun h => ?_)
  rw [if_neg h]
  refine IFB_dec (fun h => ⟨by rw [if_pos h], S1.bel⟩) (fun h => ?_)
  rw [if_neg h]
  refine IFB_dec (fun h => ⟨by rw [if_pos h], S1.bel⟩) (fun h => ?_)
  rw [if_neg h]
  exact ⟨rfl, S1.bel⟩
end
end Go.Proofs.YtbpdfpfgijhokaaGreatDoor
