/-
  Texts of this claim, laid one behind the other by a program of mine (install.py): P.Pw5, P.Pw6, P.Pw7, P.Qr, P.Pw8, P.Pw9, P.Tree, P.PlW, P.Qs, P.Pw10, P.PlX, P.PlY, P.PlArg, P.Qt, P.Inj4, P.Pm4, P.Pm5, P.Qb1, P.Qb2, P.Pm3, P.Qb3.
-/
import Derived.Test.YtbpdfpfgijhokaaGreatDoorM7
import Derived.Test.YtbpdfpfgijhokaaGreatDoorM6
import Derived.Tactics
import Derived.Tactics2
import Derived.Defers
import Derived.Recover
import Derived.Laws.Pointers
import Derived.Test.YtbpdfpfgijhokaaGreatDoorM4
import Derived.Test.YtbpdfpfgijhokaaGreatDoorM3
import Derived.Test.YtbpdfpfgijhokaaGreatDoorM5
namespace Go.Proofs.YtbpdfpfgijhokaaGreatDoor
set_option maxRecDepth 100000
open Go.Dn Go.Proofs
open Go.RowKit (Below)
set_option linter.unusedVariables false
theorem plist_P {α : Type} {read : List Tk → Option (RS α)} {fr : FuncId} {c0 c1 : Value} {w0 : World} {b : Nat} {H : List It} {P : List α → List It → Prop} (he : enters Tryz.prog fr = true) (hsuf : ∀ L R, read L = some R → SufR 1 L R)
    (hP : ∀ D H', P D H' → ∃ A, H' = A ++ H)
    (step : ∀ D H' L R w, P D H' → SmT L → D.length + L.length ≤ 10000 → read L = some R → PS w0 w b L H' → Calls Tryz.prog fr #[c0, c1] w (RetP (fun v w' => v = .tuple #[] ∧ ∃ x L' H'', R = .ok x L' ∧ P (D ++ [x]) H'' ∧ PS w0 w' b L' H'') (BadP w0 H R)))
    {m : Nat} {L : List Tk} {R : RS (List α)} {w : World} {H' : List It} (h : listM read m L = some R) (hs : SmT L) (hL : L.length ≤ 9000) (h0 : P [] H') (S : PS w0 w b L H') :
    Calls Tryz.prog f.query_parser_list #[.pointer (some ⟨b, 0, none⟩), .func (.func fr) #[] #[c0, c1]] w (RetP (fun v w' => v = .tuple #[] ∧ ∃ l L' H'', R = .ok l L' ∧ SufR 1 L R ∧ P l H'' ∧ PS w0 w' b L' H'') (BadP w0 H R)) := by
  apply X.query_parser_list_calls
  unfold X.query_parser_list
  simp only [he, cond_true]
  have hsR := list_suf hsuf h
  have stp : ∀ {D : List α} {H' : List It} {L : List Tk} {w : World} {k : α → List Tk → Option (RS (List α))} (hp : P D H') (hs : SmT L) (hN : D.length + L.length ≤ 10000) (hb : bindR (read L) k = some R) (S : PS w0 w b L H') {Q : Ending → World → Prop}
      (hk : ∀ x L' H'' w', read L = some (.ok x L') → k x L' = some R → P (D ++ [x]) H'' → PS w0 w' b L' H'' → Q (.returned (.tuple #[])) w') (hx : ∀ ch w', BadP w0 H R ch w' → Q (.panicked ch) w'), Calls Tryz.prog fr #[c0, c1] w Q := by
    intro D H' L w k hp hs hN hb S Q hk hx
    rcases bindR_open hb with ⟨a, hr, rfl⟩ | ⟨x, L', hr, h2⟩
    · refine (step D H' L _ w hp hs hN hr S).mono ?_
      rintro _ w' (⟨_, rfl, rfl, x, L', H'', hR, _⟩ | ⟨ch, rfl, a', ha, hc, S'⟩)
      · cases hR
      · cases ha; exact hx _ _ ⟨_, rfl, hc, S'⟩
    · refine (step D H' L _ w hp hs hN hr S).mono ?_
      rintro _ w' (⟨_, rfl, rfl, y, M, H'', hR, hp', S'⟩ | ⟨ch, rfl, a', ha, hc, S'⟩)
      · cases hR; exact hk _ _ _ _ hr h2 hp' S'
      · cases ha
  refine stp h0 hs (by simp only [List.length_nil]; omega) h S (fun x L1 H1 w1 hr h1 hp1 S1 => .inl ⟨rfl, fun _ w => ∃ D L1 H1 g, moreM read g D L1 = some R ∧ P D H1 ∧ SmT L1 ∧ D.length + L1.length ≤ 10000 ∧ PS w0 w b L1 H1, fun _ w => psLen b w, ⟨[x], L1, H1, m, h1, hp1, hs.suf (hsuf _ _ hr), ?_, S1⟩, ?_⟩) (fun ch w' hB => .inr ⟨_, rfl, hB⟩)
  · obtain ⟨p, e, hp⟩ := hsuf _ _ hr x L1 rfl
    rw [e, List.length_append] at hL
    simp only [List.length_cons, List.length_nil]
    omega
  rintro w2 ⟨D, L1, H1, g, hm, hp1, hs1, hN, S2⟩
  cases g with
  | zero => cases hm
  | succ g =>
  cases L1 with
  | nil => cases hm
  | cons t L1 =>
  rw [moreM] at hm
  have hlen := S2.len
  by_cases hc : isB t qComma = true
  · rw [if_pos hc] at hm
    refine ptakeY S2 hc fun w3 S3 => .inl ⟨_, rfl, IFB_true (stp hp1 hs1.tail (by rw [List.length_cons] at hN; omega) hm S3 (fun x L2 H2 w4 hr h2 hp2 S4 => .inl ⟨rfl, ⟨D ++ [x], L2, H2, g, h2, hp2, hs1.tail.suf (hsuf _ _ hr), ?_, S4⟩, ?_⟩) (fun ch w' hB => .inr ⟨_, rfl, hB⟩))⟩
    · obtain ⟨p, e, hp⟩ := hsuf _ _ hr x L2 rfl
      rw [e, List.length_cons, List.length_append] at hN
      simp only [List.length_append, List.length_cons, List.length_nil]
      omega
    · obtain ⟨p, e, hp⟩ := hsuf _ _ hr x L2 rfl
      show psLen b w4 < psLen b w2
      rw [S4.len, hlen, e]
      simp only [List.length_cons, List.length_append]
      omega
  · rw [if_neg hc] at hm
    exact ptakeN S2 (by simpa using hc) fun w3 S3 => .inl ⟨_, rfl, IFB_false ⟨trivial, D, t :: L1, H1, (Option.some.inj hm).symm, hsR, hp1, S3⟩⟩
theorem plist_go {α β : Type} {read : List Tk → Option (RS α)} {fr : FuncId} {c0 c1 : Value} {w0 : World} {b : Nat} {H : List It} {P : List α → List It → Prop} (he : enters Tryz.prog fr = true) (hsuf : ∀ L R, read L = some R → SufR 1 L R)
    (hP : ∀ D H', P D H' → ∃ A, H' = A ++ H)
    (step : ∀ D H' L R w, P D H' → SmT L → D.length + L.length ≤ 10000 → read L = some R → PS w0 w b L H' → Calls Tryz.prog fr #[c0, c1] w (RetP (fun v w' => v = .tuple #[] ∧ ∃ x L' H'', R = .ok x L' ∧ P (D ++ [x]) H'' ∧ PS w0 w' b L' H'') (BadP w0 H R)))
    {m : Nat} {L : List Tk} {k : List α → List Tk → Option (RS β)} {R : RS β} {w : World} {H' : List It} (h : bindR (listM read m L) k = some R) (hs : SmT L) (hL : L.length ≤ 9000) (h0 : P [] H') (S : PS w0 w b L H')
    {Q : Ending → World → Prop} (hk : ∀ l L' H'' w', SufR 1 L (.ok l L') → k l L' = some R → P l H'' → PS w0 w' b L' H'' → Q (.returned (.tuple #[])) w') (hb : ∀ ch w', BadP w0 H R ch w' → Q (.panicked ch) w') :
    Calls Tryz.prog f.query_parser_list #[.pointer (some ⟨b, 0, none⟩), .func (.func fr) #[] #[c0, c1]] w Q := by
  rcases bindR_open h with ⟨a, hr, rfl⟩ | ⟨x, L', hr, h2⟩
  · refine (plist_P he hsuf hP step hr hs hL h0 S).mono ?_
    rintro _ w' (⟨_, rfl, rfl, l, L', H'', hR, _⟩ | ⟨ch, rfl, a', ha, hc, S'⟩)
    · cases hR
    · cases ha; exact hb _ _ ⟨_, rfl, hc, S'⟩
  · refine (plist_P he hsuf hP step hr hs hL h0 S).mono ?_
    rintro _ w' (⟨_, rfl, rfl, l, L', H'', hR, hsu, hp, S'⟩ | ⟨ch, rfl, a', ha, hc, S'⟩)
    · cases hR; exact hk _ _ _ _ hsu h2 hp S'
    · cases ha
/-! ### a query as it grows -/
structure QS where
  ai : Option Addr
  ni : Nat
  ci : Nat
  rs : List Value
  aw : Option Addr
  nw : Nat
  cw : Nat
  ag : Option Addr
  ng : Nat
  cg : Nat
  gs : List Value
  ao : Option Addr
  no : Nat
  co : Nat
  os : List Value
  lim : Int
def QS.its (q : QS) (b4 b2 b b3 : Nat) : List It :=
  [itemsI q.ai q.ni q.ci q.rs, exsI q.ag q.ng q.cg q.gs, keysI q.ao q.no q.co q.os, It.cells b4 #[.slice q.ai q.ni q.ci, .slice q.aw q.nw q.cw, .slice q.ag q.ng q.cg, .slice q.ao q.no q.co, .int .i64 q.lim] ty.api_Query, It.cells b2 #[.pointer (some ⟨b, 0, none⟩)] ty.P_query_parser, zqb b3]
structure QSem (it : List Itm) (wh gr : List Ex) (od : List (Int × Bool)) (l : Int) (q : QS) (K : List It) : Prop where
  ni : q.ni = it.length
  nw : q.nw = wh.length
  ng : q.ng = gr.length
  no : q.no = od.length
  it : ∀ w, (∀ x ∈ K, x.ok w) → RowsC (ItC (fun _ => False) w) it q.rs
  wh : ∀ w, (∀ x ∈ K, x.ok w) → ∃ ws, Rd w q.aw ws ∧ RowsC (ExC (fun _ => False) w) wh ws
  gr : ∀ w, (∀ x ∈ K, x.ok w) → RowsC (ExC (fun _ => False) w) gr q.gs
  od : RowsC keyC od q.os
  lim : q.lim = l ∧ i64 l
section
variable {it : List Itm} {wh gr : List Ex} {od : List (Int × Bool)} {l : Int} {q : QS} {K K1 : List It} {w0 w : World} {b b2 b3 b4 : Nat} {L : List Tk} {H : List It}
theorem pc1_P {m : Nat} {R : RS Itm} (h : itemM m L = some R) (hs : SmT L) (hn : it.length + L.length ≤ 10000) (E : Env2 w0) (Q : QSem it wh gr od l q K) (S : PS w0 w b L (q.its b4 b2 b b3 ++ (K ++ H))) :
    Calls Tryz.prog f.query_parser_query_c1 #[.pointer (some ⟨b4, 0, none⟩), .pointer (some ⟨b2, 0, none⟩)] w (RetP (fun v w' => v = .tuple #[] ∧ ∃ i L' q' K', R = .ok i L' ∧ QSem (it ++ [i]) wh gr od l q' K' ∧ PS w0 w' b L' (q'.its b4 b2 b b3 ++ (K' ++ H))) (BadP w0 H R)) := by
  apply X.query_parser_query_c1_calls
  unfold X.query_parser_query_c1
  have hni := Q.ni
  refine S.draw fun w1 S1 => ⟨_, _, _, S1.cell 3 rfl rfl, _, S1.cell 4 rfl rfl, (pitem_P h hs E S1).mono ?_⟩
  rintro _ w2 (⟨_, rfl, i, L', a, cap, K1, hR, hK, hz, ha, rfl, S2⟩ | ⟨ch, rfl, hB⟩)
  rotate_left
  · exact .inr ⟨_, rfl, hB.sub (A := q.its b4 b2 b b3 ++ K) fun _ => id⟩
  have S2 := PS.front (q.its b4 b2 b b3) S2
  refine .inl ⟨_, _, _, _, _, _, _, _, _, _, rfl, S2.cell 3 rfl rfl, S2.newB fun b14 w3 S3 => ⟨S3.cell 4 rfl rfl, ?_⟩⟩
  refine S3.app 1 rfl tItems rfl (by omega) (by omega) (S3.rdc 0 rfl) (mm := 1) rfl (it_one i a cap) (by omega) fun a1 c1 w4 S4 => ⟨_, _, _, rfl, S4.sto 4 rfl (cs' := #[.slice a1 (q.ni + 1) c1, .slice q.aw q.nw q.cw, .slice q.ag q.ng q.cg, .slice q.ao q.no q.co, .int .i64 q.lim]) (by simp) rfl fun w5 S5 => ⟨rfl, i, L', { q with ai := a1, ni := q.ni + 1, ci := c1, rs := q.rs ++ itHead i a cap }, K1 ++ K, hR, ⟨?_, Q.nw, Q.ng, Q.no, ?_, ?_, ?_, Q.od, Q.lim⟩, ?_⟩⟩
  · rw [hni, List.length_append]; rfl
  · exact fun w hok => RowsC.append (Q.it w fun x hx => hok x (by simp [hx])) (RowsC.one ⟨_, rfl, hK.rx fun x hx => hok x (by simp [hx]), hz, ha⟩)
  · exact fun w hok => Q.wh w fun x hx => hok x (by simp [hx])
  · exact fun w hok => Q.gr w fun x hx => hok x (by simp [hx])
  · have S6 := S5.drop 1
    rw [← List.append_assoc K1] at S6
    exact S6
theorem PS.stoRk6 (S : PS w0 w b L H) (n : Nat) {e : TypeId} {g c m : Nat} {gs : List Value} {x0 x1 x2 x3 x4 x5 v0 v1 v2 v3 v4 v5 : Value} (hl : gs.length = m * 6) (hn : H[n]? = some (It.row e 6 (some ⟨g, 0, none⟩) (m + 1) c (gs ++ [x0, x1, x2, x3, x4, x5]))) {k : World → Prop}
    (hk : ∀ w', PS w0 w' b L (H.set n (It.row e 6 (some ⟨g, 0, none⟩) (m + 1) c (gs ++ [v0, v1, v2, v3, v4, v5]))) → k w') :
    STO ((⟨g, 0, none⟩ : Addr).add (m * 6)) v0 (fun w => STO (((⟨g, 0, none⟩ : Addr).add (m * 6)).add 1) v1 (fun w => STO (((⟨g, 0, none⟩ : Addr).add (m * 6)).add 2) v2 (fun w => STO (((⟨g, 0, none⟩ : Addr).add (m * 6)).add 3) v3 (fun w => STO (((⟨g, 0, none⟩ : Addr).add (m * 6)).add 4) v4 (fun w => STO (((⟨g, 0, none⟩ : Addr).add (m * 6)).add 5) v5 k w) w) w) w) w) w := by
  have hlt := (List.getElem?_eq_some_iff.1 hn).1
  have gg : ∀ {x : It}, (H.set n x)[n]? = some x := List.getElem?_set_self hlt
  have e1 : ∀ (i : Nat) (l : List Value) (v : Value), (gs ++ l).set (m * 6 + i) v = gs ++ l.set i v := fun i l v => by
    rw [List.set_append, if_neg (by omega), ← hl, Nat.add_sub_cancel_left]
  simp only [addr_add_blk, Nat.zero_add]
  refine S.stoR n hn (j := m * 6) (by omega) fun w1 S1 => ?_
  rw [show m * 6 = m * 6 + 0 by omega, e1] at S1
  refine S1.stoR n gg (j := m * 6 + 1) (by omega) fun w2 S2 => ?_
  rw [List.set_set, e1] at S2
  refine S2.stoR n gg (j := m * 6 + 2) (by omega) fun w3 S3 => ?_
  rw [List.set_set, e1] at S3
  refine S3.stoR n gg (j := m * 6 + 3) (by omega) fun w4 S4 => ?_
  rw [List.set_set, e1] at S4
  refine S4.stoR n gg (j := m * 6 + 4) (by omega) fun w5 S5 => ?_
  rw [List.set_set, e1] at S5
  refine S5.stoR n gg (j := m * 6 + 5) (by omega) fun w6 S6 => ?_
  rw [List.set_set, e1] at S6
  exact hk w6 S6
theorem pc2_P {m : Nat} {R : RS Ex} (h : pt m (.E 1) L = some R) (hs : SmT L) (hn : gr.length + L.length ≤ 10000) (E : Env2 w0) (Q : QSem it wh gr od l q K) (S : PS w0 w b L (q.its b4 b2 b b3 ++ (K ++ H))) :
    Calls Tryz.prog f.query_parser_query_c2 #[.pointer (some ⟨b4, 0, none⟩), .pointer (some ⟨b2, 0, none⟩)] w (RetP (fun v w' => v = .tuple #[] ∧ ∃ x L' q' K', R = .ok x L' ∧ QSem it wh (gr ++ [x]) od l q' K' ∧ PS w0 w' b L' (q'.its b4 b2 b b3 ++ (K' ++ H))) (BadP w0 H R)) := by
  apply X.query_parser_query_c2_calls
  unfold X.query_parser_query_c2
  have hng := Q.ng
  have hX : XPt f.query_parser_expr [.int .i64 1] L R := pexpr_ok hs h
  have fin : ∀ {x : Ex} {L' : List Tk} {a : Option Addr} {cap : Nat} {K1 : List It} {g c1 b' : Nat} {cs : Array Value} {t : TypeId} {w' : World} (hR : R = .ok x L') (hK : XK x a cap K1) (S' : PS w0 w' b L' (It.cells b' cs t :: ((⟨q.ai, q.ni, q.ci, q.rs, q.aw, q.nw, q.cw, some ⟨g, 0, none⟩, q.ng + 1, c1, q.gs ++ exHead x a cap, q.ao, q.no, q.co, q.os, q.lim⟩ : QS).its b4 b2 b b3 ++ (K1 ++ (K ++ H))))),
      Value.tuple #[] = .tuple #[] ∧ ∃ x L' q' K', R = .ok x L' ∧ QSem it wh (gr ++ [x]) od l q' K' ∧ PS w0 w' b L' (q'.its b4 b2 b b3 ++ (K' ++ H)) := fun {x L' a cap K1 g c1 b' cs t w'} hR hK S' => by
    refine ⟨rfl, x, L', ⟨q.ai, q.ni, q.ci, q.rs, q.aw, q.nw, q.cw, some ⟨g, 0, none⟩, q.ng + 1, c1, q.gs ++ exHead x a cap, q.ao, q.no, q.co, q.os, q.lim⟩, K1 ++ K, hR, ⟨Q.ni, Q.nw, ?_, Q.no, fun w hok => Q.it w fun x hx => hok x (by simp [hx]), fun w hok => Q.wh w fun x hx => hok x (by simp [hx]), fun w hok => RowsC.append (Q.gr w fun x hx => hok x (by simp [hx])) (RowsC.one (hK.rx fun x hx => hok x (by simp [hx]))), Q.od, Q.lim⟩, ?_⟩
    rotate_left
    · have S6 := S'.drop 1
      rw [← List.append_assoc K1] at S6
      exact S6
    · show q.ng + 1 = _
      rw [hng, List.length_append]; rfl
  have app : ∀ {x : Ex} {L' : List Tk} {a : Option Addr} {cap : Nat} {K1 : List It} {b' : Nat} {w4 : World} {a1 : Option Addr} {c1 : Nat} (hR : R = .ok x L') (hK : XK x a cap K1) (S4 : PS w0 w4 b L' (It.cells b' #[.int .i64 0, .string E0, .int .i64 0, .int .i64 0, .string E0, .slice none 0 0] ty.api_Expr :: ((⟨q.ai, q.ni, q.ci, q.rs, q.aw, q.nw, q.cw, a1, q.ng + 1, c1, q.gs ++ exHead zeroX none 0, q.ao, q.no, q.co, q.os, q.lim⟩ : QS).its b4 b2 b b3).set 3 (It.cells b4 #[.slice q.ai q.ni q.ci, .slice q.aw q.nw q.cw, .slice q.ag q.ng q.cg, .slice q.ao q.no q.co, .int .i64 q.lim] ty.api_Query) ++ (K1 ++ (K ++ H)))),
      ∃ g, a1 = some ⟨g, 0, none⟩ := fun {x L' a cap K1 b' w4 a1 c1} hR hK S4 => by
    have hrow := S4.rw 2 rfl
    rcases hrow with ⟨_, ⟨_, h0, _⟩ | ⟨g, cur, rfl, _⟩⟩
    · cases h0
    · exact ⟨g, rfl⟩
  have hgl : q.gs.length = q.ng * 6 := by
    obtain ⟨x, c, h1, h2, S'⟩ := S
    have hr : Row w ty.api_Expr 6 q.ag q.ng q.cg q.gs := S'.get 3 rfl
    exact hr.1
  refine S.draw fun w1 S1 => ⟨_, _, _, S1.cell 3 rfl rfl, _, S1.cell 4 rfl rfl, (hX E S1).mono ?_, S1.newB fun b16 w19 S19 => ⟨S19.cell 5 rfl rfl, S19.cell 4 rfl rfl, (hX E S19).mono ?_⟩⟩
  · rintro _ w2 (⟨_, rfl, x, L', a, cap, K1, hR, hK, rfl, S2⟩ | ⟨ch, rfl, hB⟩)
    rotate_left
    · exact .inr ⟨_, rfl, hB.sub (A := q.its b4 b2 b b3 ++ K) fun _ => id⟩
    have S2 := PS.front (q.its b4 b2 b b3) S2
    refine .inl ⟨_, _, _, _, _, _, _, _, rfl, S2.cell 3 rfl rfl, S2.newB fun b12 w3 S3 => ⟨S3.cell 4 rfl rfl, ?_⟩⟩
    refine S3.app 2 rfl tExs rfl (by omega) (by omega) (S3.rdc 0 rfl) (mm := 1) rfl (ex_one zeroX none 0) (by omega) fun a1 c1 w4 S4 => ?_
    obtain ⟨g, rfl⟩ := app hR hK S4
    exact ⟨_, _, _, rfl, ⟨by omega, by omega⟩, PTR_i ⟨S4.stoRk6 2 hgl rfl fun w10 S10 => S10.sto 4 rfl (cs' := #[.slice q.ai q.ni q.ci, .slice q.aw q.nw q.cw, .slice (some ⟨g, 0, none⟩) (q.ng + 1) c1, .slice q.ao q.no q.co, .int .i64 q.lim]) (by simp) rfl fun w11 S11 => fin hR hK S11,
      S4.sto 4 rfl (cs' := #[.slice q.ai q.ni q.ci, .slice q.aw q.nw q.cw, .slice (some ⟨g, 0, none⟩) (q.ng + 1) c1, .slice q.ao q.no q.co, .int .i64 q.lim]) (by simp) rfl fun w12 S12 => S12.stoRk6 2 hgl rfl fun w18 S18 => fin hR hK S18⟩⟩
  · rintro _ w20 (⟨_, rfl, x, L', a, cap, K1, hR, hK, rfl, S2⟩ | ⟨ch, rfl, hB⟩)
    rotate_left
    · exact .inr ⟨_, rfl, hB.sub (A := _ :: (q.its b4 b2 b b3 ++ K)) fun _ => id⟩
    have S2 := PS.front (It.cells b16 #[.int .i64 0, .string E0, .int .i64 0, .int .i64 0, .string E0, .slice none 0 0] ty.api_Expr :: q.its b4 b2 b b3) S2
    refine .inl ⟨_, _, _, _, _, _, _, _, rfl, S2.cell 4 rfl rfl, ?_⟩
    refine PS.app S2 2 rfl tExs rfl (by omega) (by omega) (S2.rdc 0 rfl) (mm := 1) rfl (ex_one zeroX none 0) (by omega) fun a1 c1 w4 S4 => ?_
    obtain ⟨g, rfl⟩ := app hR hK S4
    exact ⟨_, _, _, rfl, ⟨by omega, by omega⟩, PTR_i ⟨S4.stoRk6 2 hgl rfl fun w10 S10 => S10.sto 4 rfl (cs' := #[.slice q.ai q.ni q.ci, .slice q.aw q.nw q.cw, .slice (some ⟨g, 0, none⟩) (q.ng + 1) c1, .slice q.ao q.no q.co, .int .i64 q.lim]) (by simp) rfl fun w11 S11 => fin hR hK S11,
      S4.sto 4 rfl (cs' := #[.slice q.ai q.ni q.ci, .slice q.aw q.nw q.cw, .slice (some ⟨g, 0, none⟩) (q.ng + 1) c1, .slice q.ao q.no q.co, .int .i64 q.lim]) (by simp) rfl fun w12 S12 => S12.stoRk6 2 hgl rfl fun w18 S18 => fin hR hK S18⟩⟩
theorem idx_i64 {α : Type} (l : List α) (p : α → Bool) (hl : l.length ≤ 100000) : i64 (idxV (l.findIdx? p)) := by
  cases h : l.findIdx? p with
  | none => decide
  | some i =>
    have := (List.findIdx?_eq_some_iff_findIdx_eq.1 h).1
    unfold idxV i64
    simp only
    omega
theorem pc3_P {R : RS (Int × Bool)} (h : keyM it L = some R) (hs : SmT L) (hi : it.length ≤ 10000) (hn : od.length + L.length ≤ 10000) (E : Env2 w0) (Q : QSem it wh gr od l q K) (S : PS w0 w b L (q.its b4 b2 b b3 ++ (K ++ H))) :
    Calls Tryz.prog f.query_parser_query_c3 #[.pointer (some ⟨b4, 0, none⟩), .pointer (some ⟨b2, 0, none⟩)] w (RetP (fun v w' => v = .tuple #[] ∧ ∃ k L' q' K', R = .ok k L' ∧ QSem it wh gr (od ++ [k]) l q' K' ∧ PS w0 w' b L' (q'.its b4 b2 b b3 ++ (K' ++ H))) (BadP w0 H R)) := by
  have hni := Q.ni
  have hno := Q.no
  have pl : ∀ {w' : World} {L' : List Tk} (n : Nat) {H' : List It} (s : ByteArray) (S : PS w0 w' b L' H') (hn : H'[n]? = some (itemsI q.ai q.ni q.ci q.rs)) (hk : ∀ it ∈ K, it ∈ H') {Q' : Ending → World → Prop} (hQ : ∀ w'', PS w0 w'' b L' H' → Q' (.returned (.int .i64 (placeI it s))) w''), Calls Tryz.prog f.query_place #[.slice q.ai q.ni q.ci, .string s] w' Q' := by
    intro w' L' n H' s S hn hk Q' hQ
    have hr := (S.rw n hn).rd
    rw [hni]
    refine (query_place_ok (l := it) hr (Q.it w' fun x hx => S.ok x (hk x hx)) (by omega) s).mono ?_
    rintro _ w'' ⟨_, rfl, rfl, B⟩
    exact hQ w'' (S.grown B)
  have hmem : ∀ (A : List It), ∀ it ∈ K, it ∈ A ++ (K ++ H) := fun A it hi => by simp [hi]
  apply X.query_parser_query_c3_calls
  unfold X.query_parser_query_c3
  refine ⟨fun st w => ∃ b9 s L', st = [.pointer (some ⟨b9, 0, none⟩)] ∧ optT qDesc (fun L => some (.ok (placeI it s, true) L)) (placeI it s, false) L' = some R ∧ PS w0 w b L' (It.cells b9 #[.int .i64 (placeI it s), .bool false] ty.api_Key :: (q.its b4 b2 b b3 ++ (K ++ H))),
    S.draw fun w1 S1 => ⟨_, _, _, S1.cell 3 rfl rfl, _, S1.cell 4 rfl rfl, pname1 E.env hs h S1 (fun s L' w2 _ _ h2 S2 => .inl ⟨_, rfl, S2.cell 3 rfl rfl, pl 0 s S2 rfl (hmem _) fun w3 S3 => .inl ⟨_, rfl, S3.newB fun b9 w4 S4 => S4.sto 0 rfl (cs' := #[.int .i64 (placeI it s), .bool false]) (by simp) rfl fun w5 S5 => S5.sto 0 rfl (cs' := #[.int .i64 (placeI it s), .bool false]) (by simp) rfl fun w6 S6 => ⟨b9, s, L', rfl, h2, S6⟩⟩,
      S2.newB fun b10 w7 S7 => ⟨S7.cell 4 rfl rfl, pl 1 s S7 rfl (fun it hi => List.mem_cons_of_mem _ (hmem _ it hi)) fun w8 S8 => .inl ⟨_, rfl, S8.sto 0 rfl (cs' := #[.int .i64 (placeI it s), .bool false]) (by simp) rfl fun w9 S9 => S9.sto 0 rfl (cs' := #[.int .i64 (placeI it s), .bool false]) (by simp) rfl fun w10 S10 => ⟨b10, s, L', rfl, h2, S10⟩⟩⟩⟩) (fun ch w' hB => .inr ⟨_, rfl, hB.sub (A := q.its b4 b2 b b3 ++ K) fun _ => id⟩),
      S1.newB fun b13 w11 S11 => ⟨S11.cell 5 rfl rfl, S11.cell 4 rfl rfl, pname1 E.env hs h S11 (fun s L' w12 _ _ h2 S12 => .inl ⟨_, rfl, S12.cell 4 rfl rfl, pl 1 s S12 rfl (fun it hi => List.mem_cons_of_mem _ (hmem _ it hi)) fun w13 S13 => .inl ⟨_, rfl, S13.sto 0 rfl (cs' := #[.int .i64 (placeI it s), .bool false]) (by simp) rfl fun w14 S14 => S14.sto 0 rfl (cs' := #[.int .i64 (placeI it s), .bool false]) (by simp) rfl fun w15 S15 => ⟨b13, s, L', rfl, h2, S15⟩⟩⟩) (fun ch w' hB => .inr ⟨_, rfl, hB.sub (A := _ :: (q.its b4 b2 b b3 ++ K)) fun _ => id⟩)⟩⟩, ?_⟩
  rintro k w16 ⟨b9, s, L', hst, h2, S16⟩
  obtain rfl : k = some ⟨b9, 0, none⟩ := by simpa using hst
  cases L' with
  | nil => cases h2
  | cons t L' =>
  rw [optT] at h2
  have fin : ∀ {d : Bool} {M : List Tk} {w17 : World}, R = .ok (placeI it s, d) M → PS w0 w17 b M (It.cells b9 #[.int .i64 (placeI it s), .bool false] ty.api_Key :: (q.its b4 b2 b b3 ++ (K ++ H))) → PTR (some (⟨b9, 0, none⟩ : Addr)) (fun a_28 => STO (a_28.add 1) (.bool d) (fun w18 => ∃ (t13 : Option Addr) (t13l t13c : Nat), w18.cell? ⟨b4, 3, none⟩ = some (.slice t13 t13l t13c) ∧ PTR (some (⟨b9, 0, none⟩ : Addr)) (fun a_30 => ∃ t140 : Int, w18.cell? a_30 = some (.int .i64 t140) ∧ ∃ t141 : Bool, w18.cell? (a_30.add 1) = some (.bool t141) ∧
      NEWB #[.int .i64 t140, .bool t141] ty.api_Key (fun b_33 w19 => OPR Tryz.prog (Builtin.append_ #[25, 25] 25 #[.slice t13 t13l t13c, .slice (some ⟨b_33, 0, none⟩) 1 1]) (fun r_35 w20 => ∃ (t16 : Option Addr) (t16l t16c : Nat), r_35 = .slice t16 t16l t16c ∧ STO ⟨b4, 3, none⟩ (.slice t16 t16l t16c) (fun w21 => (Value.tuple #[] = .tuple #[] ∧ ∃ k L' q' K', R = .ok k L' ∧ QSem it wh gr (od ++ [k]) l q' K' ∧ PS w0 w21 b L' (q'.its b4 b2 b b3 ++ (K' ++ H)))) w20) w19) w18)) w17) := fun {d M w17} hR S17 => by
    refine PTR_i (S17.sto 0 rfl (i := 1) (cs' := #[.int .i64 (placeI it s), .bool d]) (by simp) rfl fun w18 S18 => ⟨_, _, _, S18.cell 4 rfl rfl, PTR_i ⟨_, S18.cell 0 rfl rfl, _, S18.cell 0 rfl rfl, S18.newB fun b28 w19 S19 => ?_⟩⟩)
    refine S19.app 4 rfl tKeys rfl (by omega) (by omega) (S19.rdc 0 rfl) (mm := 1) rfl (by intro u hu; simp at hu; rcases hu with rfl | rfl <;> rfl) (by omega) fun a1 c1 w20 S20 => ⟨_, _, _, rfl, S20.sto 5 rfl (cs' := #[.slice q.ai q.ni q.ci, .slice q.aw q.nw q.cw, .slice q.ag q.ng q.cg, .slice a1 (q.no + 1) c1, .int .i64 q.lim]) (by simp) rfl fun w21 S21 => ⟨rfl, _, M, { q with ao := a1, no := q.no + 1, co := c1, os := q.os ++ [.int .i64 (placeI it s), .bool d] }, K, hR, ⟨Q.ni, Q.nw, Q.ng, ?_, Q.it, Q.wh, Q.gr, RowsC.append Q.od (RowsC.one ⟨rfl, idx_i64 _ _ (by omega)⟩), Q.lim⟩, S21.drop 2⟩⟩
    rw [hno, List.length_append]; rfl
  by_cases hd : isB t qDesc = true
  · rw [if_pos hd] at h2
    exact ⟨_, S16.cell 5 rfl rfl, ptakeY S16 hd fun w17 S17 => .inl ⟨_, rfl, fin (Option.some.inj h2).symm S17⟩⟩
  · rw [if_neg hd] at h2
    exact ⟨_, S16.cell 5 rfl rfl, ptakeN S16 (by simpa using hd) fun w17 S17 => .inl ⟨_, rfl, fin (Option.some.inj h2).symm S17⟩⟩
end
theorem row_max {w : World} {e : TypeId} {sz : Nat} {a : Option Addr} {n c : Nat} {xs : List Value} (h : Row w e sz a n c xs) : n ≤ 9223372036854775807 := by
  rcases h.2 with ⟨_, h0, _⟩ | ⟨_, _, _, _, h1, h2, _⟩
  · omega
  · omega
theorem pquery_P {m : Nat} {L : List Tk} {R : RS Qu} (h : queryM m L = some R) (hs : SmT L) (hL : L.length ≤ 5000) {w0 w : World} {H : List It} {b : Nat} (E : Env2 w0) (S : PS w0 w b L H) :
    Calls Tryz.prog f.query_parser_query #[.pointer (some ⟨b, 0, none⟩)] w (RetP (fun r w' => ∃ Q L' ai aw ag ao ci cw cg co K, R = .ok Q L' ∧ r = .agg ⟨quL Q ai aw ag ao ci cw cg co⟩ ∧ (∀ w'', (∀ x ∈ K, x.ok w'') → QAt w'' Q ai aw ag ao) ∧ PS w0 w' b L' (K ++ H)) (BadP w0 H R)) := by
  rw [queryM] at h
  apply X.query_parser_query_calls
  unfold X.query_parser_query
  refine S.newB fun b2 w1 S1 => S1.newB fun b3 w2 S2 => S2.newB fun b4 w3 S3 => S3.sto5 0 rfl fun w8 S8 => ?_
  obtain ⟨q0, hq0⟩ : ∃ q0 : QS, q0 = ⟨none, 0, 0, [], none, 0, 0, none, 0, 0, [], none, 0, 0, [], -1⟩ := ⟨_, rfl⟩
  have S8 : PS w0 w8 b L (q0.its b4 b2 b b3 ++ ([] ++ H)) := by
    subst hq0
    exact (((S8.perm (List.Perm.cons _ (List.Perm.swap _ _ _))).nil ty.api_Key 2).nil ty.api_Expr 6).nil ty.api_Item 8
  have Q0 : QSem [] [] [] [] (-1) q0 [] := by
    subst hq0
    exact ⟨rfl, rfl, rfl, rfl, fun _ _ => rfl, fun w _ => ⟨[], Rd.nil _ _, rfl⟩, fun _ _ => rfl, rfl, rfl, by decide⟩
  clear hq0
  have bad : ∀ {α : Type} {R' : RS α} {q : QS} {K : List It} {ch : List PanicEntry} {w' : World}, BadP w0 (q.its b4 b2 b b3 ++ (K ++ H)) R' ch w' → (∀ a, R' = .bad a → R = .bad a) → BadP w0 H R ch w' := fun {α R' q K ch w'} hB hR => hB.sub (A := q.its b4 b2 b b3 ++ K) hR
  refine ⟨_, S8.cell 4 rfl rfl, S8.newB fun b6 w9 S9 => pneed1 h S9 (fun L1 w10 hL1 h1 S10 => .inl ⟨rfl, _, S10.cell 4 rfl rfl, ?_⟩) (fun ch w' hB => .inr ⟨_, rfl, bad hB fun _ => id⟩)⟩
  have len1 : ∀ {α : Type} {x : α} {n : Nat} {A B : List Tk}, SufR n A (.ok x B) → B.length ≤ A.length := fun {α x n A B} hsu => by
    obtain ⟨p, e, _⟩ := hsu x B rfl
    rw [e, List.length_append]
    omega
  have hs1 := hs.suf hL1
  have hl1 := len1 hL1
  have he1 : enters Tryz.prog f.query_parser_query_c1 = true := by kernel_rfl
  have he2 : enters Tryz.prog f.query_parser_query_c2 = true := by kernel_rfl
  have he3 : enters Tryz.prog f.query_parser_query_c3 = true := by kernel_rfl
  refine plist_go (H := H) (P := fun D H' => ∃ q K, H' = q.its b4 b2 b b3 ++ (K ++ H) ∧ QSem D [] [] [] (-1) q K ∧ D.length ≤ 10000) he1 (fun L R hh => item_suf hh) ?_ ?_ h1 hs1 (by omega) ⟨q0, [], rfl, Q0, by simp⟩ S10 ?_ (fun ch w' hB => .inr ⟨_, rfl, hB⟩)
  · rintro D _ ⟨q, K, rfl, _⟩
    exact ⟨q.its b4 b2 b b3 ++ K, by rw [List.append_assoc]⟩
  · rintro D _ L R w ⟨q, K, rfl, Q, hD⟩ hsL hN hr S
    refine (pc1_P hr hsL hN E Q S).mono ?_
    rintro _ w' (⟨_, rfl, rfl, i, L', q', K', hR, Q', S'⟩ | ⟨ch, rfl, hB⟩)
    · refine .inl ⟨_, rfl, rfl, i, L', _, hR, ⟨q', K', rfl, Q', ?_⟩, S'⟩
      cases L with
      | nil => cases hr
      | cons u L =>
        simp only [List.length_cons, List.length_append, List.length_nil] at hN ⊢
        omega
    · exact .inr ⟨_, rfl, hB⟩
  rintro it L2 _ w11 hL2 h2 ⟨q, K, rfl, Q, hitl⟩ S11
  have hs2 := hs1.suf hL2
  have hl2 := len1 hL2
  -- where
  refine .inl ⟨rfl, fun _ w => ∃ wh L3 q K, bindR (optT qGroup (needT qBy (listM (pt m (.E 1)) m)) [] L3) (fun gr L4 => bindR (optT qOrder (needT qBy (listM (keyM it) m)) [] L4) fun od L5 => bindR (optT qLimit limM (-1) L5) fun lim L6 => endM ⟨it, wh, gr, od, lim⟩ L6) = some R ∧ SmT L3 ∧ L3.length ≤ 5000 ∧ wh.length ≤ 1 ∧ QSem it wh [] [] (-1) q K ∧ PS w0 w b L3 (q.its b4 b2 b b3 ++ (K ++ H)), ⟨_, S11.cell 4 rfl rfl, ?_⟩, ?_⟩
  · cases L2 with
    | nil => cases h2
    | cons t L2 =>
    rw [optT] at h2
    by_cases ht : isB t qWhere = true
    · rw [if_pos ht, whereM, bind_assoc] at h2
      have hl3 : L2.length ≤ 5000 := by simp only [List.length_cons] at hl2; omega
      refine ptakeY S11 ht fun w12 S12 => .inl ⟨_, rfl, IFB_true ⟨_, S12.cell 4 rfl rfl, XPt.go (fun _ => pexpr_ok hs2.tail) h2 E S12 (fun x L3 a cap K1 w13 hx h3 hK S13 => .inl ⟨_, _, _, _, _, _, _, _, rfl, (PS.front (q.its b4 b2 b b3) S13).newB fun b23 w14 S14 => S14.sto 4 rfl (i := 1) (cs' := #[.slice q.ai q.ni q.ci, .slice (some ⟨b23, 0, none⟩) 1 1, .slice q.ag q.ng q.cg, .slice q.ao q.no q.co, .int .i64 q.lim]) (by simp) rfl fun w15 S15 => ?_⟩) (fun ch w' hB => .inr ⟨_, rfl, bad hB fun _ => id⟩)⟩⟩
      have hx3 := pt_suf _ _ _ _ hx
      refine ⟨[x], L3, { q with aw := some ⟨b23, 0, none⟩, nw := 1, cw := 1 }, It.cells b23 ⟨exHead x a cap⟩ ty.api_Expr :: (K1 ++ K), h3, hs2.tail.suf hx3, Nat.le_trans (len1 hx3) hl3, Nat.le_refl _, ⟨Q.ni, rfl, Q.ng, Q.no, fun w hok => Q.it w fun y hy => hok y (by simp [hy]), fun w hok => ⟨exHead x a cap, Rd.of_block0 (hok (It.cells b23 ⟨exHead x a cap⟩ ty.api_Expr) (by simp)), RowsC.one (hK.rx fun y hy => hok y (by simp [hy]))⟩, fun w hok => Q.gr w fun y hy => hok y (by simp [hy]), Q.od, Q.lim⟩, ?_⟩
      have S16 : PS w0 w15 b L3 (It.cells b23 ⟨exHead x a cap⟩ ty.api_Expr :: (({ q with aw := some ⟨b23, 0, none⟩, nw := 1, cw := 1 } : QS).its b4 b2 b b3 ++ (K1 ++ (K ++ H)))) := S15
      have S17 := S16.perm List.perm_middle.symm
      rw [← List.append_assoc K1] at S17
      exact S17
    · rw [if_neg ht] at h2
      exact ptakeN S11 (by simpa using ht) fun w12 S12 => .inl ⟨_, rfl, IFB_false ⟨[], _, q, K, h2, hs2, by omega, by simp, Q, S12⟩⟩
  clear S11 S10 S8 S3 S2 S1 h2 Q Q0 hs2 hl2 hL2
  rintro w16 ⟨wh, L3, q, K, h3, hs3, hl3, hwh, Q, S16⟩
  -- group
  refine ⟨fun _ w => ∃ gr L4 q K, bindR (optT qOrder (needT qBy (listM (keyM it) m)) [] L4) (fun od L5 => bindR (optT qLimit limM (-1) L5) fun lim L6 => endM ⟨it, wh, gr, od, lim⟩ L6) = some R ∧ SmT L4 ∧ L4.length ≤ 5000 ∧ QSem it wh gr [] (-1) q K ∧ PS w0 w b L4 (q.its b4 b2 b b3 ++ (K ++ H)), ⟨_, S16.cell 4 rfl rfl, ?_⟩, ?_⟩
  · cases L3 with
    | nil => cases h3
    | cons t L3 =>
    rw [optT] at h3
    simp only [List.length_cons] at hl3
    by_cases ht : isB t qGroup = true
    · rw [if_pos ht] at h3
      refine ptakeY S16 ht fun w17 S17 => .inl ⟨_, rfl, IFB_true ⟨_, S17.cell 4 rfl rfl, S17.newB fun b31 w18 S18 => ?_⟩⟩
      have h3' : needT qBy (fun L => bindR (listM (pt m (.E 1)) m L) (fun gr L4 => bindR (optT qOrder (needT qBy (listM (keyM it) m)) [] L4) (fun od L5 => bindR (optT qLimit limM (-1) L5) fun lim L6 => endM ⟨it, wh, gr, od, lim⟩ L6))) L3 = some R := by
        cases L3 with
        | nil => cases h3
        | cons u L3 =>
          rw [needT] at h3 ⊢
          split at h3
          · rename_i hu; rw [if_pos hu]; exact h3
          · rename_i hu; rw [if_neg hu]; exact h3
      refine pneed1 h3' S18 (fun L5 w19 hL5 h5 S19 => .inl ⟨rfl, _, S19.cell 4 rfl rfl, ?_⟩) (fun ch w' hB => .inr ⟨_, rfl, bad hB fun _ => id⟩)
      have hl5 := len1 hL5
      refine plist_go (H := H) (P := fun D H' => ∃ q K, H' = q.its b4 b2 b b3 ++ (K ++ H) ∧ QSem it wh D [] (-1) q K) he2 (fun L R hh => pt_suf _ (.E 1) _ _ hh) ?_ ?_ h5 (hs3.tail.suf hL5) (by omega) ⟨q, K, rfl, Q⟩ S19 ?_ (fun ch w' hB => .inr ⟨_, rfl, hB⟩)
      · rintro D _ ⟨q, K, rfl, _⟩
        exact ⟨q.its b4 b2 b b3 ++ K, by rw [List.append_assoc]⟩
      · rintro D _ L R w ⟨q, K, rfl, Q⟩ hsL hN hr S
        refine (pc2_P hr hsL hN E Q S).mono ?_
        rintro _ w' (⟨_, rfl, rfl, i, L', q', K', hR, Q', S'⟩ | ⟨ch, rfl, hB⟩)
        · exact .inl ⟨_, rfl, rfl, i, L', _, hR, ⟨q', K', rfl, Q'⟩, S'⟩
        · exact .inr ⟨_, rfl, hB⟩
      rintro gr L6 _ w20 hL6 h6 ⟨q, K, rfl, Q⟩ S20
      have hl6 := len1 hL6
      exact .inl ⟨rfl, gr, L6, q, K, h6, (hs3.tail.suf hL5).suf hL6, by omega, Q, S20⟩
    · rw [if_neg ht] at h3
      exact ptakeN S16 (by simpa using ht) fun w17 S17 => .inl ⟨_, rfl, IFB_false ⟨[], _, q, K, h3, hs3, by simp only [List.length_cons]; omega, Q, S17⟩⟩
  clear S16 h3 Q hs3 hl3
  rintro w21 ⟨gr, L4, q, K, h4, hs4, hl4, Q, S21⟩
  -- order
  refine ⟨fun _ w => ∃ od L5 q K, bindR (optT qLimit limM (-1) L5) (fun lim L6 => endM ⟨it, wh, gr, od, lim⟩ L6) = some R ∧ SmT L5 ∧ L5.length ≤ 5000 ∧ QSem it wh gr od (-1) q K ∧ PS w0 w b L5 (q.its b4 b2 b b3 ++ (K ++ H)), ⟨_, S21.cell 4 rfl rfl, ?_⟩, ?_⟩
  · cases L4 with
    | nil => cases h4
    | cons t L4 =>
    rw [optT] at h4
    simp only [List.length_cons] at hl4
    by_cases ht : isB t qOrder = true
    · rw [if_pos ht] at h4
      refine ptakeY S21 ht fun w22 S22 => .inl ⟨_, rfl, IFB_true ⟨_, S22.cell 4 rfl rfl, S22.newB fun b43 w23 S23 => ?_⟩⟩
      have h4' : needT qBy (fun L => bindR (listM (keyM it) m L) (fun od L5 => bindR (optT qLimit limM (-1) L5) fun lim L6 => endM ⟨it, wh, gr, od, lim⟩ L6)) L4 = some R := by
        cases L4 with
        | nil => cases h4
        | cons u L4 =>
          rw [needT] at h4 ⊢
          split at h4
          · rename_i hu; rw [if_pos hu]; exact h4
          · rename_i hu; rw [if_neg hu]; exact h4
      refine pneed1 h4' S23 (fun L5 w24 hL5 h5 S24 => .inl ⟨rfl, _, S24.cell 4 rfl rfl, ?_⟩) (fun ch w' hB => .inr ⟨_, rfl, bad hB fun _ => id⟩)
      have hl5 := len1 hL5
      refine plist_go (H := H) (P := fun D H' => ∃ q K, H' = q.its b4 b2 b b3 ++ (K ++ H) ∧ QSem it wh gr D (-1) q K ∧ it.length ≤ 10000) he3 (fun L R hh => key_suf hh) ?_ ?_ h5 (hs4.tail.suf hL5) (by omega) ⟨q, K, rfl, Q, hitl⟩ S24 ?_ (fun ch w' hB => .inr ⟨_, rfl, hB⟩)
      · rintro D _ ⟨q, K, rfl, _⟩
        exact ⟨q.its b4 b2 b b3 ++ K, by rw [List.append_assoc]⟩
      · rintro D _ L R w ⟨q, K, rfl, Q, hit⟩ hsL hN hr S
        refine (pc3_P hr hsL hit hN E Q S).mono ?_
        rintro _ w' (⟨_, rfl, rfl, i, L', q', K', hR, Q', S'⟩ | ⟨ch, rfl, hB⟩)
        · exact .inl ⟨_, rfl, rfl, i, L', _, hR, ⟨q', K', rfl, Q', hit⟩, S'⟩
        · exact .inr ⟨_, rfl, hB⟩
      rintro od L6 _ w25 hL6 h6 ⟨q, K, rfl, Q, _⟩ S25
      have hl6 := len1 hL6
      exact .inl ⟨rfl, od, L6, q, K, h6, (hs4.tail.suf hL5).suf hL6, by omega, Q, S25⟩
    · rw [if_neg ht] at h4
      exact ptakeN S21 (by simpa using ht) fun w22 S22 => .inl ⟨_, rfl, IFB_false ⟨[], _, q, K, h4, hs4, by simp only [List.length_cons]; omega, Q, S22⟩⟩
  clear S21 h4 Q hs4 hl4
  rintro w26 ⟨od, L5, q, K, h5, hs5, hl5, Q, S26⟩
  -- limit
  refine ⟨fun _ w => ∃ lim L6 q K, endM ⟨it, wh, gr, od, lim⟩ L6 = some R ∧ QSem it wh gr od lim q K ∧ PS w0 w b L6 (q.its b4 b2 b b3 ++ (K ++ H)), ⟨_, S26.cell 4 rfl rfl, ?_⟩, ?_⟩
  · cases L5 with
    | nil => cases h5
    | cons t L5 =>
    rw [optT] at h5
    by_cases ht : isB t qLimit = true
    · rw [if_pos ht] at h5
      refine ptakeY S26 ht fun w27 S27 => .inl ⟨_, rfl, IFB_true ⟨_, S27.cell 4 rfl rfl, ?_⟩⟩
      rcases bindR_open h5 with ⟨a, hr, rfl⟩ | ⟨lim, L6, hr, h6⟩
      · refine (plimit_P hr hs5.tail E S27).mono ?_
        rintro _ w28 (⟨_, rfl, n, L', hR, _⟩ | ⟨ch, rfl, a', ha, hc, S'⟩)
        · cases hR
        · cases ha; exact .inr ⟨_, rfl, bad ⟨_, rfl, hc, S'⟩ fun _ => id⟩
      · refine (plimit_P hr hs5.tail E S27).mono ?_
        rintro _ w28 (⟨_, rfl, n, L', hR, hn, rfl, S28⟩ | ⟨ch, rfl, a', ha, _⟩)
        · cases hR
          exact .inl ⟨_, rfl, S28.sto 3 rfl (i := 4) (cs' := #[.slice q.ai q.ni q.ci, .slice q.aw q.nw q.cw, .slice q.ag q.ng q.cg, .slice q.ao q.no q.co, .int .i64 lim]) (by simp) rfl fun w29 S29 => ⟨lim, L6, { q with lim := lim }, K, h6, ⟨Q.ni, Q.nw, Q.ng, Q.no, Q.it, Q.wh, Q.gr, Q.od, rfl, hn⟩, S29⟩⟩
        · cases ha
    · rw [if_neg ht] at h5
      exact ptakeN S26 (by simpa using ht) fun w27 S27 => .inl ⟨_, rfl, IFB_false ⟨-1, t :: L5, q, K, h5, Q, S27⟩⟩
  clear S26 h5 Q hs5 hl5
  rintro w30 ⟨lim, L6, q, K, h6, Q, S30⟩
  cases L6 with
  | nil => cases h6
  | cons t L6 =>
  rw [endM] at h6
  refine ⟨_, S30.cell 4 rfl rfl, (pnext_ok S30).mono ?_⟩
  rintro _ w31 ⟨_, rfl, rfl, S31⟩
  refine .inl ⟨_, _, _, rfl, S31.lit3 fun b65 w35 S35 => ⟨_, S35.cell 0 rfl rfl, IFB_ne (fun h0 => ⟨_, S35.cell 0 rfl rfl, ?_⟩) (fun h0 => ?_)⟩⟩
  · rw [if_neg h0] at h6
    exact ⟨_, (Option.some.inj h6).symm, rfl, ST.tail (A := _ :: (q.its b4 b2 b b3 ++ K)) (by rw [List.cons_append, List.append_assoc]; exact S35.st)⟩
  rw [if_pos h0] at h6
  refine ⟨_, _, _, S35.cell 4 rfl rfl, _, _, _, S35.cell 4 rfl rfl, _, _, _, S35.cell 4 rfl rfl, _, _, _, S35.cell 4 rfl rfl, _, S35.cell 4 rfl rfl, S35.sto5 6 rfl fun w40 S40 => ⟨_, _, _, S40.cell 6 rfl rfl, _, _, _, S40.cell 6 rfl rfl, _, _, _, S40.cell 6 rfl rfl, _, _, _, S40.cell 6 rfl rfl, _, S40.cell 6 rfl rfl, ⟨it, wh, gr, od, lim⟩, t :: L6, q.ai, q.aw, q.ag, q.ao, q.ci, q.cw, q.cg, q.co, itemsI q.ai q.ni q.ci q.rs :: exsI q.ag q.ng q.cg q.gs :: keysI q.ao q.no q.co q.os :: K, (Option.some.inj h6).symm, ?_, ?_, ?_⟩⟩
  · simp only [quL, Q.ni, Q.nw, Q.ng, Q.no, Q.lim.1]
  · intro w'' hok
    have r1 : Row w'' ty.api_Item 8 q.ai q.ni q.ci q.rs := hok (itemsI q.ai q.ni q.ci q.rs) (by simp)
    have r2 : Row w'' ty.api_Expr 6 q.ag q.ng q.cg q.gs := hok (exsI q.ag q.ng q.cg q.gs) (by simp)
    have r3 : Row w'' ty.api_Key 2 q.ao q.no q.co q.os := hok (keysI q.ao q.no q.co q.os) (by simp)
    have hk : ∀ x ∈ K, x.ok w'' := fun x hx => hok x (by simp [hx])
    have m1 := row_max r1
    have m2 := row_max r2
    have m3 := row_max r3
    rw [Q.ni] at m1
    rw [Q.ng] at m2
    rw [Q.no] at m3
    exact ⟨⟨_, r1.rd, Q.it w'' hk⟩, Q.wh w'' hk, ⟨_, r2.rd, Q.gr w'' hk⟩, ⟨_, r3.rd, Q.od⟩, m1, by show wh.length ≤ _; omega, m2, m3, Q.lim.2⟩
  · have S41 := S40.drop 1
    exact S41.sub (.cons_cons _ (.cons_cons _ (.cons_cons _ (.cons _ (.cons _ (.cons _ (.refl _)))))))
def qEnd (l : List UInt8) (n : Nat) : Nat := if quoteN (l.drop n) = 0 then 0 else quoteN (l.drop n) + n
section
variable {w : World} {s : ByteArray}
theorem pclosed_ok (hs : s.size ≤ 9223372036854775800) (h0 : 0 < s.size) : Calls Tryz.prog f.query_closed #[.string s] w (Ret fun r w' => r = .int .i64 ((qEnd (bl s) 1 : Nat) : Int) ∧ w' = w) := by
  apply R.query_closed_calls
  unfold R.query_closed
  have hbl := bl_length s
  refine ⟨fun st w' => ∃ n : Nat, st = [.int .i64 (n : Int)] ∧ n ≤ s.size ∧ qEnd (bl s) n = qEnd (bl s) 1 ∧ w' = w, fun st _ => match st with | [.int _ t] => s.size - t.toNat | _ => 0, ⟨1, rfl, by omega, rfl, rfl⟩, ?_⟩
  rintro _ w1 ⟨n, hst, hn, hq, rfl⟩
  cases hst
  refine IFB_dec (fun hlt => ⟨⟨by omega, hlt⟩, ?_⟩) (fun hge => ⟨?_, rfl⟩)
  · have hnl : n < (bl s).length := by omega
    have hd : (bl s).drop n = (bl s)[n] :: (bl s).drop (n + 1) := List.drop_eq_getElem_cons hnl
    have hw : IntKind.i64.wrap ((n : Int) + 1) = ((n + 1 : Nat) : Int) := wrap_succ (by omega)
    rw [Int.toNat_natCast, sget_at (by omega), hw]
    refine IFB_ne (fun h39 => ⟨⟨n + 1, rfl, by omega, ?_, rfl⟩, by show s.size - ((n + 1 : Nat) : Int).toNat < s.size - ((n : Nat) : Int).toNat; omega⟩) (fun h39 => ?_)
    · rw [← hq, qEnd, qEnd, hd, quoteN_other (by omega)]
      by_cases hz : quoteN ((bl s).drop (n + 1)) = 0
      · rw [if_pos hz, if_pos hz, if_pos rfl]
      · rw [if_neg hz, if_neg hz, if_neg (by omega)]; omega
    · have h39 : (bl s)[n].toNat = 39 := by omega
      refine IFB_eq (fun he => ⟨?_, rfl⟩) (fun hne => ⟨⟨by omega, by omega⟩, ?_⟩)
      · have hnil : (bl s).drop (n + 1) = [] := List.drop_eq_nil_of_le (by omega)
        rw [← hq, qEnd, hd, hnil, quoteN_end h39, if_neg (by omega), Nat.add_comm]
      · have hn2 : n + 1 < (bl s).length := by omega
        have hd2 : (bl s).drop (n + 1) = (bl s)[n + 1] :: (bl s).drop (n + 2) := List.drop_eq_getElem_cons hn2
        have hw2 : IntKind.i64.wrap (((n + 1 : Nat) : Int) + 1) = ((n + 2 : Nat) : Int) := wrap_succ (by omega)
        rw [Int.toNat_natCast, sget_at (by omega), hw2]
        refine IFB_ne (fun h2 => ⟨?_, rfl⟩) (fun h2 => ⟨⟨n + 2, rfl, by omega, ?_, rfl⟩, by show s.size - ((n + 2 : Nat) : Int).toNat < s.size - ((n : Nat) : Int).toNat; omega⟩)
        · rw [← hq, qEnd, hd, hd2, quoteN_one h39 (by omega), if_neg (by omega), Nat.add_comm]
        · rw [← hq, qEnd, qEnd, hd, hd2, quoteN_two h39 (by omega)]
          by_cases hz : quoteN ((bl s).drop (n + 2)) = 0
          · rw [if_pos hz, if_pos hz, if_pos rfl]
          · rw [if_neg hz, if_neg hz, if_neg (by omega)]; omega
  · rw [← hq, qEnd, List.drop_eq_nil_of_le (by omega)]
    rfl
theorem pfirstG_ok (h0 : 0 < s.size) (hs : s.size ≤ 9223372036854775800) : Calls Tryz.prog f.query_first #[.string s] w (Ret fun r w' => r = .tuple #[.int .i64 (sortG (bl s)), .int .i64 (((lenT (bl s)).1 : Nat) : Int)] ∧ w' = w) := by
  apply R.query_first_calls
  unfold R.query_first
  obtain ⟨c, r, hcr⟩ : ∃ c r, bl s = c :: r := by
    cases h : bl s with
    | nil => have := bl_length s; rw [h] at this; simp at this; omega
    | cons c r => exact ⟨c, r, rfl⟩
  have hlen : s.size = r.length + 1 := by rw [← bl_length, hcr]; simp
  have g0 : sget s 0 = c := by rw [sget_eq, hcr]; rfl
  have e : ((sget s 0).toNat : Int).toNat.toUInt8 = c := by rw [g0]; simp
  refine ⟨⟨by omega, by omega⟩, (Tryz.strings_IndexByte lettersS ((sget s 0).toNat : Int) w).mono ?_⟩
  rintro _ w1 ⟨rfl, rfl⟩
  refine ⟨_, rfl, ?_⟩
  rw [e, set_let]
  unfold lenT sortG
  rw [hcr]
  refine IFB_of (fun h1 => call0 (pspan_ok set_word hs) ⟨_, rfl, ?_, rfl⟩) (fun h1 => (Tryz.strings_IndexByte digS ((sget s 0).toNat : Int) w1).mono ?_)
  · have hw : wordCh c = true := by simp [wordCh, h1]
    simp only [h1, if_true, hcr, runN, hw]
  rintro _ w3 ⟨rfl, rfl⟩
  refine ⟨_, rfl, ?_⟩
  rw [e, set_dig]
  refine IFB_of (fun h2 => call0 (pspan_ok set_dig hs) ⟨_, rfl, ?_, rfl⟩) (fun h2 => IFB_eq (fun h39 => ?_) (fun h39 => call0 (phas_ok _ (by omega)) ⟨_, rfl, ?_⟩))
  · simp only [h1, h2, if_true, hcr, Bool.false_eq_true, if_false, runN]
  · have h39 : c.toNat = 39 := by rw [g0] at h39; omega
    refine call0 (pclosed_ok hs h0) ⟨_, rfl, ?_, rfl⟩
    simp only [h1, h2, h39, if_true, Bool.false_eq_true, if_false]
    rw [hcr, qEnd]
    show Value.tuple #[.int .i64 3, .int .i64 ((if quoteN r = 0 then 0 else quoteN r + 1 : Nat) : Int)] = _
    by_cases hz : quoteN r = 0
    · rw [if_pos hz, if_pos hz]
    · rw [if_neg hz, if_neg hz]
  have h39 : c.toNat ≠ 39 := by rw [g0] at h39; omega
  have hx : (decide ((⟨#[60, 61]⟩ : ByteArray).size ≤ s.size) && decide (s.extract 0 (⟨#[60, 61]⟩ : ByteArray).size = ⟨#[60, 61]⟩)) = decide (c.toNat = 60 ∧ 1 ≤ r.length ∧ (r.getD 0 0).toNat = 61) := by
    rw [Bool.eq_iff_iff, Bool.and_eq_true, decide_eq_true_eq, decide_eq_true_eq, decide_eq_true_eq, extract_eq, hcr]
    show (2 ≤ s.size ∧ sof (((c :: r).drop 0).take (2 - 0)) = ⟨#[60, 61]⟩) ↔ _
    rw [List.drop_zero, Nat.sub_zero]
    constructor
    · rintro ⟨_, h⟩
      have := congrArg bl h
      rw [bl_sof] at this
      have this : (c :: r).take 2 = [60, 61] := this
      cases r with
      | nil => simp at this
      | cons d r =>
        simp at this
        obtain ⟨rfl, rfl⟩ := this
        simp
    · rintro ⟨h1, h2, h3⟩
      cases r with
      | nil => simp at h2
      | cons d r =>
        simp only [List.getD_cons_zero] at h3
        have hc : c = 60 := UInt8.toNat_inj.1 (by rw [h1]; rfl)
        have hd : d = 61 := UInt8.toNat_inj.1 (by rw [h3]; rfl)
        subst hc hd
        refine ⟨by rw [hlen]; simp, rfl⟩
  rw [hx]
  refine IFB_dec (fun h3 => ⟨?_, rfl⟩) (fun h3 => (Tryz.strings_IndexByte signS ((sget s 0).toNat : Int) w3).mono ?_)
  · simp only [h1, h2, h39, h3, Bool.false_eq_true, if_false, and_self, if_true]
    rfl
  rintro _ w7 ⟨rfl, rfl⟩
  refine ⟨_, rfl, ?_⟩
  rw [e, set_sign]
  refine IFB_of (fun h4 => ⟨?_, rfl⟩) (fun h4 => ⟨?_, rfl⟩)
  · simp only [h1, h2, h39, h3, h4, Bool.false_eq_true, if_false, if_true]
    rfl
  · simp only [h1, h2, h39, h3, h4, Bool.false_eq_true, if_false]
    rfl
end
theorem ptokG_c1 {w0 w : World} {s : ByteArray} {T : List Tk} {L b : Nat} {I : List Tk → List It → Prop} {J : List It → Prop} (hT : Lx (bl s) 0 T) (hs : s.size ≤ 9223372036854775800) (hy : Yld w0 L T (fun t vs => vs = [tkV t]) I J) {HN B : List It} (hI : I [] B) (S : ST w0 w (It.cells b #[.string s] ty.string :: (HN ++ B))) :
    Calls Tryz.prog f.query_tokens_c1 #[.func (.yield L) #[] #[], .pointer (some ⟨b, 0, none⟩)] w (Ret fun _ w' => ∃ B', ST w0 w' (HN ++ B') ∧ (I T B' ∨ J B')) := by
  apply R.query_tokens_c1_calls
  unfold R.query_tokens_c1
  have hbl := bl_length s
  refine ⟨fun st w => ∃ (n : Nat) (D rest : List Tk) (B' : List It), st = [.int .i64 (n : Int)] ∧ n ≤ s.size ∧ Lx ((bl s).drop n) n rest ∧ T = D ++ rest ∧ I D B' ∧ ST w0 w (It.cells b #[.string s] ty.string :: (HN ++ B')), fun st _ => match st with | [.int _ t] => s.size - t.toNat | _ => 0, ⟨0, [], T, B, rfl, by omega, hT, rfl, hI, S⟩, ?_⟩
  rintro at_ w1 ⟨n, D, rest, B1, hst, hn, hk, hTD, hI1, S1⟩
  cases hst
  obtain ⟨l, hl⟩ : ∃ l, l = (bl s).drop n := ⟨_, rfl⟩
  have hll : l.length = s.size - n := by rw [hl, List.length_drop]; omega
  have hle := runN_le blankCh l
  rw [← hl] at hk
  have hk := hk.skip
  obtain ⟨m, hm⟩ : ∃ m, m = runN blankCh l := ⟨_, rfl⟩
  have hhead : ∀ {c r}, l.drop m = c :: r → blankCh c = false := fun h => runN_head (by rw [← hm]; exact h)
  rw [← hm] at hk hle
  refine ⟨_, S1.cell 0 rfl rfl, ⟨by omega, by omega, by omega⟩, ?_⟩
  have hse : (s.extract n s.size).size = s.size - n := by rw [← bl_length, bl_extract]; simp [bl_length]
  have hbe : bl (s.extract n s.size) = l := by rw [bl_extract, ← hl, List.take_of_length_le (by omega)]
  rw [Int.toNat_natCast]
  refine call0 (pspan_ok (s := s.extract n s.size) (am := ⟨#[32, 10]⟩) set_blank (by omega)) ⟨_, rfl, _, S1.cell 0 rfl rfl, ?_⟩
  rw [hbe, ← hm]
  have ew : IntKind.i64.wrap ((n : Int) + (m : Int)) = ((n + m : Nat) : Int) := by rw [wrap_i64 (by omega) (by omega)]; omega
  rw [ew]
  have hyl : ∀ {x : Tk} {rest' : List Tk} {w2 : World}, rest = x :: rest' → ST w0 w2 (It.cells b #[.string s] ty.string :: (HN ++ B1)) → YLD Tryz.prog L #[tkV x] (fun y w' => ∃ B', ST w0 w' (It.cells b #[.string s] ty.string :: (HN ++ B')) ∧ ((y = true ∧ I (D ++ [x]) B') ∨ (y = false ∧ J B'))) w2 := fun hr S2 => hy D _ _ [tkV _] (It.cells b #[.string s] ty.string :: HN) B1 _ (by rw [hTD, hr]) hI1 S2 rfl
  refine IFB_eq (fun he => ?_) (fun hne => ?_)
  · have hnil : l.drop m = [] := List.drop_eq_nil_of_le (by omega)
    rw [hnil] at hk
    obtain rfl : rest = [(((n + m : Nat) : Int), 0, E0)] := by cases hk; rfl
    refine (hyl rfl S1).mono ?_
    rintro y w3 ⟨B', S3, ⟨_, hI3⟩ | ⟨_, hJ⟩⟩
    · exact ⟨B', S3.drop 1, .inl (by rw [hTD]; exact hI3)⟩
    · exact ⟨B', S3.drop 1, .inr hJ⟩
  · have hml : m < l.length := by omega
    have hse2 : (s.extract (n + m) s.size).size = s.size - (n + m) := by rw [← bl_length, bl_extract]; simp [bl_length]
    have hdd : l.drop m = (bl s).drop (n + m) := by rw [hl, List.drop_drop]
    have hbe2 : bl (s.extract (n + m) s.size) = l.drop m := by rw [bl_extract, ← hdd, List.take_of_length_le (by rw [List.length_drop]; omega)]
    obtain ⟨q, hqq⟩ : ∃ q, q = lenT (l.drop m) := ⟨_, rfl⟩
    have hql : q.1 ≤ s.size - (n + m) := by
      have := lenT_le (l.drop m)
      rw [← hqq, List.length_drop] at this
      omega
    refine ⟨_, S1.cell 0 rfl rfl, ⟨by omega, by omega, by omega⟩, ?_⟩
    rw [Int.toNat_natCast]
    refine call0 (pfirstG_ok (s := s.extract (n + m) s.size) (by omega) (by omega)) ⟨_, _, rfl, _, S1.cell 0 rfl rfl, ?_⟩
    rw [hbe2, ← hqq]
    have ew2 : IntKind.i64.wrap (((n + m : Nat) : Int) + (q.1 : Int)) = ((n + m + q.1 : Nat) : Int) := by rw [wrap_i64 (by omega) (by omega)]; omega
    rw [ew2, Int.toNat_natCast]
    refine ⟨⟨by omega, by omega, by omega⟩, ?_⟩
    have hex : s.extract (n + m) (n + m + q.1) = sof ((l.drop m).take q.1) := by rw [extract_eq, hdd, Nat.add_sub_cancel_left]
    rw [hex]
    obtain ⟨c, r, hcr⟩ : ∃ c r, l.drop m = c :: r := by
      cases h : l.drop m with
      | nil => have := congrArg List.length h; simp only [List.length_drop, List.length_nil] at this; omega
      | cons c r => exact ⟨c, r, rfl⟩
    have hb := hhead hcr
    rw [hcr] at hk hqq ⊢
    by_cases hz : q.1 = 0
    · have hr : rest = [(((n + m : Nat) : Int), sortG (c :: r), E0)] := by
        cases hk with
        | blank h _ => rw [hb] at h; cases h
        | tok _ h _ => exact absurd (by rw [← hqq]; exact hz) h
        | bad _ _ => rfl
      rw [hz, List.take_zero]
      refine (hyl hr S1).mono ?_
      rintro y w5 ⟨B', S5, ⟨rfl, hI5⟩ | ⟨rfl, hJ⟩⟩
      · exact IFB_not (IFB_true (IFB_eq (fun _ => ⟨B', S5.drop 1, .inl (by rw [hTD, hr]; exact hI5)⟩) (fun h => absurd rfl h)))
      · exact IFB_not (IFB_false ⟨B', S5.drop 1, .inr hJ⟩)
    · obtain ⟨T', hr, hk'⟩ : ∃ T', rest = (((n + m : Nat) : Int), sortG (c :: r), sof ((c :: r).take q.1)) :: T' ∧ Lx ((c :: r).drop q.1) (n + m + q.1) T' := by
        cases hk with
        | blank h _ => rw [hb] at h; cases h
        | tok _ h hk2 => exact ⟨_, by rw [sort_len h, hqq], by rw [hqq]; exact hk2⟩
        | bad _ h => exact absurd (by rw [hqq]; exact h) hz
      refine (hyl hr S1).mono ?_
      rintro y w5 ⟨B', S5, ⟨rfl, hI5⟩ | ⟨rfl, hJ⟩⟩
      · refine IFB_not (IFB_true (IFB_eq (fun h => absurd h (by omega)) (fun _ => ⟨⟨n + m + q.1, D ++ [_], T', B', rfl, by omega, ?_, by rw [hTD, hr]; simp, hI5, S5⟩, by simp only [Int.toNat_natCast]; omega⟩)))
        rw [← hcr, hdd, List.drop_drop] at hk'
        exact hk'
      · exact IFB_not (IFB_false ⟨B', S5.drop 1, .inr hJ⟩)
theorem read_idle (p q r : Addr) (w : World) :
    CallsD Tryz.prog 99 #[.pointer (some p), .pointer (some q), .pointer (some r)] .returning w fun e u' w' => e = .returned (.tuple #[]) ∧ u' = .returning ∧ w' = w := by
  refine callsD_of_wpS Tryz.func99 rfl fun c₀ cs hu => ?_
  apply wpS_seq
  apply wpS_region
  simp [wpOpsS, go_sem, recoverD, hu, Tryz.ntmps99, Exit.thenS]
  refine wpS_of_wp ?_
  go_wp2
  cases c₀
  simp_all [bodyPostS, results, Tryz.results99]
theorem pread_ok {w0 w : World} {H : List It} (E : Env w0) {x : Option Addr} {c : Nat} (S : ST w0 w (It.rd x (tksL T1) :: H)) (hc : T1.length ≤ c) (hc2 : c ≤ 9223372036854775807) : Calls Tryz.prog 60 #[.slice x T1.length c] w (Ret fun v w' => ∃ a cap K a1 c1 ag cg ao co, mulR a cap K ∧ v = .tuple #[.agg ⟨quL Q1 a1 none ag ao c1 0 cg co⟩, .int .i64 0, .bool true] ∧ ST w0 w' (QL a cap K a1 c1 ag cg ao co ++ H)) := by
  have hmf : ∀ (fn : Fn) (first cap : Array Value) (w : World), (Instr.makeFunc fn first cap).run Tryz.prog w = .ok (.func fn first cap) w := fun _ _ _ _ => rfl
  have key : NEWB #[.slice none 0 0, .slice none 0 0, .slice none 0 0, .slice none 0 0, .int .i64 0] ty.api_Query (fun b1 w1 => NEWB #[.int .i64 0] ty.int (fun b2 w2 => NEWB #[.bool false] ty.bool (fun b3 w3 => NEWB #[.slice x T1.length c] ty.query_parser (fun b4 w4 => ST w0 w4 [It.cells b4 #[.slice x T1.length c] ty.query_parser, It.cells b3 #[.bool false] ty.bool, It.cells b2 #[.int .i64 0] ty.int, zqb b1] ∧ ST w0 w4 (It.cells b4 #[.slice x T1.length c] ty.query_parser :: It.cells b3 #[.bool false] ty.bool :: It.cells b2 #[.int .i64 0] ty.int :: zqb b1 :: It.rd x (tksL T1) :: H)) w3) w2) w1) w :=
    S.newB fun b1 w1 _ _ S1 => S1.newB fun b2 w2 _ _ S2 => S2.newB fun b3 w3 _ _ S3 => S3.newB fun b4 w4 _ _ S4 => ⟨S4.sub (.cons_cons _ (.cons_cons _ (.cons_cons _ (.cons_cons _ (List.nil_sublist _))))), S4⟩
  unfold NEWB at key
  simp only [World.size_alloc] at key
  obtain ⟨_, S4⟩ := key
  have P4 : PS w0 _ _ T1 _ := ⟨x, c, hc, hc2, S4.pull 4 rfl |>.pull 1 rfl⟩
  generalize hn : T1.length = n at *
  go_enter_defers Tryz.func60, Tryz.ntmps60
  go_wp2_with (fail)
  refine (pquery_ok pplain_one pconst_one E P4).mono ?_
  rintro _ w5 ⟨_, rfl, a, cap, K, a1, c1, ag, cg, ao, co, hR, rfl, P5⟩
  have st1 : STOREC (quL Q1 a1 none ag ao c1 0 cg co) ⟨w.heap.size, 0, none⟩ 0 (fun w6 => PS w0 w6 (w.heap.size + 1 + 1 + 1) [kEnd] (It.cells w.heap.size ⟨quL Q1 a1 none ag ao c1 0 cg co⟩ ty.api_Query :: It.cells (w.heap.size + 1) #[.int .i64 0] ty.int :: It.cells (w.heap.size + 1 + 1) #[.bool false] ty.bool :: (QL a cap K a1 c1 ag cg ao co ++ H))) w5 := by
    have P6 := (PS.front [It.cells (w.heap.size + 1 + 1) #[.bool false] ty.bool, It.cells (w.heap.size + 1) #[.int .i64 0] ty.int, zqb w.heap.size] P5)
    exact PS.sto5 ((P6.perm (List.Perm.swap _ _ _)).perm ((List.Perm.cons _ (List.Perm.swap _ _ _)).trans (List.Perm.swap _ _ _))) 0 rfl fun w6 S6 => S6.perm (List.Perm.cons _ (List.Perm.refl _))
  obtain ⟨w6, S6, hr6⟩ := STOREC_run (P := Tryz.prog) _ _ _ _ _ st1
  obtain ⟨_, z2, S7⟩ := S6.sto 1 rfl (i := 0) (v := .int .i64 0) (cs' := #[.int .i64 0]) (by simp) rfl fun w7 S7 => S7
  have c2 := S6.cell 1 rfl (i := 0) rfl
  obtain ⟨_, z3, S8⟩ := S7.sto 2 rfl (i := 0) (v := .bool true) (cs' := #[.bool true]) (by simp) rfl fun w8 S8 => S8
  have c3 := S7.cell 2 rfl (i := 0) rfl
  go_wp2_with (fail)
  generalize (w6.setCell ⟨w.heap.size + 1, 0, none⟩ (.int .i64 0)).setCell ⟨w.heap.size + 1 + 1, 0, none⟩ (.bool true) = w8 at S8 ⊢
  have d0 : w8.cell? ⟨w.heap.size, 0, none⟩ = some (.slice a1 1 c1) := S8.cell 0 rfl rfl
  have d1 : w8.cell? ⟨w.heap.size, 1, none⟩ = some (.slice none 0 0) := S8.cell 0 rfl rfl
  have d2 : w8.cell? ⟨w.heap.size, 2, none⟩ = some (.slice ag 1 cg) := S8.cell 0 rfl rfl
  have d3 : w8.cell? ⟨w.heap.size, 3, none⟩ = some (.slice ao 1 co) := S8.cell 0 rfl rfl
  have d4 : w8.cell? ⟨w.heap.size, 4, none⟩ = some (.int .i64 (-1)) := S8.cell 0 rfl rfl
  have d5 : w8.cell? ⟨w.heap.size + 1, 0, none⟩ = some (.int .i64 0) := S8.cell 1 rfl rfl
  have d6 : w8.cell? ⟨w.heap.size + 1 + 1, 0, none⟩ = some (.bool true) := S8.cell 2 rfl rfl
  have S9 : ST w0 w8 (QL a cap K a1 c1 ag cg ao co ++ H) := by
    obtain ⟨_, _, _, _, S9⟩ := S8.drop 3
    exact S9.drop 2
  refine leaves_cons (f := 99) (args := #[.pointer (some ⟨w.heap.size, 0, none⟩), .pointer (some ⟨w.heap.size + 1, 0, none⟩), .pointer (some ⟨w.heap.size + 1 + 1, 0, none⟩)]) (by simp) (by simp [go_sem]) ?_
  refine (read_idle _ _ _ _).mono ?_
  rintro e u' w'' ⟨rfl, rfl, rfl⟩
  simp [Leaves, settle, results, Tryz.results60, go_sem, d0, d1, d2, d3, d4, d5, d6]
  exact ⟨_, rfl, a, cap, K, hR, a1, c1, ag, cg, ao, co, rfl, S9⟩
theorem assert_wrong (a : Int) (w : World) : (Instr.typeAssert (.iface 142 (.agg #[.int .i64 a])) 20 142 true).run Tryz.prog w = .ok (.tuple #[.agg #[.int .i64 a], .bool true]) w := by kernel_rfl
theorem not_nil (a : Int) (w : World) : (binOp .eql 20 (.iface 142 (.agg #[.int .i64 a])) .nilIface).run Tryz.prog w = .ok (.bool false) w := by kernel_rfl
def r7 : Code := .region 7
  #[{ dst := some 12, op := .build 27 #[], type := 27, pos := "query.go:372", after := #[], guard := none },
    { dst := some 13, op := .fieldAddr 142 (.tmp 4) 0, type := 0, pos := "query.go:372", after := #[{ on := 3, ground := .gcOnly .lateStores }], guard := none },
    { dst := some 14, op := .load 3 (.tmp 13), type := 3, pos := "query.go:372", after := #[{ on := 1, ground := .data }, { on := 3, ground := .gcOnly .lateStores }], guard := none },
    { dst := none, op := .store 27 (.tmp 0) (.tmp 12), type := 0, pos := "query.go:372", after := #[{ on := 0, ground := .data }, { on := 0, ground := .phase }, { on := 1, ground := .textOnly .lateStores }, { on := 2, ground := .textOnly .lateStores }], guard := none },
    { dst := none, op := .store 3 (.tmp 1) (.tmp 14), type := 0, pos := "query.go:372", after := #[{ on := 2, ground := .data }, { on := 3, ground := .chain }, { on := 0, ground := .phase }, { on := 1, ground := .phase }, { on := 2, ground := .phase }, { on := 3, ground := .phase }], guard := none },
    { dst := none, op := .store 4 (.tmp 2) (.const (.bool false)), type := 0, pos := "query.go:372", after := #[{ on := 4, ground := .chain }, { on := 0, ground := .phase }, { on := 1, ground := .phase }, { on := 2, ground := .phase }, { on := 3, ground := .phase }, { on := 4, ground := .phase }], guard := none }]
  true
def wrongK (bp bq br N : Nat) (Post : World → Prop) (w0 : World) : Prop :=
  DRAW (fun w1 => ∃ t : Int, w1.cell? ⟨N, 0, none⟩ = some (.int .i64 t) ∧ STO ⟨bp, 0, none⟩ (.slice none 0 0) (fun w2 => STO ⟨bp, 1, none⟩ (.slice none 0 0) (fun w3 => STO ⟨bp, 2, none⟩ (.slice none 0 0) (fun w4 => STO ⟨bp, 3, none⟩ (.slice none 0 0) (fun w5 => STO ⟨bp, 4, none⟩ (.int .i64 0) (fun w6 =>
    w6.cell? ⟨N, 0, none⟩ = some (.int .i64 t) ∧ STO ⟨bq, 0, none⟩ (.int .i64 t) (fun w7 => STO ⟨br, 0, none⟩ (.bool false) (fun w8 => Post w8) w7) w6) w5) w4) w3) w2) w1) w0
theorem den_r7 {bp bq br N : Nat} {Post : World → Prop} {w : World} (h : wrongK bp bq br N Post w) : den Tryz.prog 15 [] [] r7 none (fun e _ _ w' => match e with | .normal => Post w' | _ => False) [(0, .pointer (some ⟨bp, 0, none⟩)), (1, .pointer (some ⟨bq, 0, none⟩)), (2, .pointer (some ⟨br, 0, none⟩)), (4, .pointer (some ⟨N, 0, none⟩))] [] w := Eq.mpr (by kernel_rfl) h
theorem res99 (tm : Array Value) (w : World) : (results Tryz.f99 tm).run Tryz.prog w = .ok (.tuple #[]) w := by kernel_rfl
theorem agrees4 {tm : Array Value} {v0 v1 v2 v4 : Value} (h0 : tm[0]? = some v0) (h1 : tm[1]? = some v1) (h2 : tm[2]? = some v2) (h4 : tm[4]? = some v4) : Agrees [(0, v0), (1, v1), (2, v2), (4, v4)] ⟨tm, []⟩ := by
  intro i v hv
  simp only [look_cons] at hv
  by_cases e0 : 0 = i
  · rw [if_pos e0] at hv; cases hv; rw [← e0]; exact h0
  rw [if_neg e0] at hv
  by_cases e1 : 1 = i
  · rw [if_pos e1] at hv; cases hv; rw [← e1]; exact h1
  rw [if_neg e1] at hv
  by_cases e2 : 2 = i
  · rw [if_pos e2] at hv; cases hv; rw [← e2]; exact h2
  rw [if_neg e2] at hv
  by_cases e4 : 4 = i
  · rw [if_pos e4] at hv; cases hv; rw [← e4]; exact h4
  rw [if_neg e4] at hv
  cases hv
set_option maxHeartbeats 4000000 in
theorem read_wrong {bp bq br : Nat} {a : Int} {w : World} {Post : World → Prop} (h : NEWB #[.int .i64 a] 142 (fun N w1 => wrongK bp bq br N Post w1) w) :
    CallsD Tryz.prog 99 #[.pointer (some ⟨bp, 0, none⟩), .pointer (some ⟨bq, 0, none⟩), .pointer (some ⟨br, 0, none⟩)] (.panicking (wrE a)) w fun e u' w' => e = .returned (.tuple #[]) ∧ u' = .panicking [{ v := .iface 142 (.agg #[.int .i64 a]), recovered := true }] ∧ Post w' := by
  refine callsD_of_wpS Tryz.func99 rfl fun c₀ cs hu => ?_
  apply wpS_seq
  apply wpS_region
  simp [wpOpsS, go_sem, recoverD, hu, wrE, Tryz.ntmps99, Exit.thenS]
  refine wpS_of_wp ?_
  have h0 := not_nil a w
  have h1 := assert_wrong a w
  go_wp2
  refine wpIn_wide.1 (wpIn_mono (den_sound (n := 15) (L := []) (C := []) mixed r7 none 0 _ [(0, .pointer (some ⟨bp, 0, none⟩)), (1, .pointer (some ⟨bq, 0, none⟩)), (2, .pointer (some ⟨br, 0, none⟩)), (4, .pointer (some ⟨w.heap.size, 0, none⟩))] [] _ _ ?_ ?_ rfl (den_r7 h)) ?_)
  · exact agrees4 (by simp) (by simp) (by simp) (by simp)
  · simp
  · rintro e ⟨tm, df⟩ w' ⟨hst, fr, ms, hg, hd, hk⟩
    cases e with
    | normal =>
      have hdf : df = [] := hst.defers rfl
      subst hdf
      exact ⟨rfl, _, rfl, _, res99 tm w', rfl, rfl, hk⟩
    | _ => exact hk.elim
def zeroQ : Qu := ⟨[], [], [], [], 0⟩
def ReadR (w0 : World) (H : List It) (R : RS Qu) (v : Value) (w' : World) : Prop :=
  (∃ a, R = .bad a ∧ v = .tuple #[.agg ⟨quL zeroQ none none none none 0 0 0 0⟩, .int .i64 a, .bool false] ∧ ST w0 w' H) ∨
      ∃ Q L' ai aw ag ao ci cw cg co K, R = .ok Q L' ∧ v = .tuple #[.agg ⟨quL Q ai aw ag ao ci cw cg co⟩, .int .i64 0, .bool true] ∧ (∀ w'', (∀ y ∈ K, y.ok w'') → QAt w'' Q ai aw ag ao) ∧ ST w0 w' (K ++ H)
theorem pread_G {w0 w : World} {H : List It} (E : Env2 w0) {T : List Tk} {x : Option Addr} {c : Nat} (S : ST w0 w (It.rd x (tksL T) :: H)) (hc : T.length ≤ c) (hc2 : c ≤ 9223372036854775807) {f : Nat} {R : RS Qu} (h : queryM f T = some R) (hs : SmT T) (hL : T.length ≤ 5000) :
    Calls Tryz.prog 60 #[.slice x T.length c] w (Ret (ReadR w0 H R)) := by
  have hmf : ∀ (fn : Fn) (first cap : Array Value) (w : World), (Instr.makeFunc fn first cap).run Tryz.prog w = .ok (.func fn first cap) w := fun _ _ _ _ => rfl
  have key : NEWB #[.slice none 0 0, .slice none 0 0, .slice none 0 0, .slice none 0 0, .int .i64 0] ty.api_Query (fun b1 w1 => NEWB #[.int .i64 0] ty.int (fun b2 w2 => NEWB #[.bool false] ty.bool (fun b3 w3 => NEWB #[.slice x T.length c] ty.query_parser (fun b4 w4 => ST w0 w4 (It.cells b4 #[.slice x T.length c] ty.query_parser :: It.cells b3 #[.bool false] ty.bool :: It.cells b2 #[.int .i64 0] ty.int :: zqb b1 :: It.rd x (tksL T) :: H)) w3) w2) w1) w :=
    S.newB fun b1 w1 _ _ S1 => S1.newB fun b2 w2 _ _ S2 => S2.newB fun b3 w3 _ _ S3 => S3.newB fun b4 w4 _ _ S4 => S4
  unfold NEWB at key
  simp only [World.size_alloc] at key
  have P4 : PS w0 _ _ T _ := ⟨x, c, hc, hc2, key.pull 4 rfl |>.pull 1 rfl⟩
  have hq := pquery_P h hs hL E P4
  clear P4 key S
  generalize hn : T.length = n at *
  go_enter_defers Tryz.func60, Tryz.ntmps60
  go_wp2_with (fail)
  refine hq.mono ?_
  rintro _ w5 (⟨_, rfl, Q, L', ai, aw, ag, ao, ci, cw, cg, co, K, hR, rfl, hQ, P5⟩ | ⟨ch, rfl, a, ha, rfl, S5⟩)
  · have st1 : STOREC (quL Q ai aw ag ao ci cw cg co) ⟨w.heap.size, 0, none⟩ 0 (fun w6 => ST w0 w6 (It.cells w.heap.size ⟨quL Q ai aw ag ao ci cw cg co⟩ ty.api_Query :: It.cells (w.heap.size + 1) #[.int .i64 0] ty.int :: It.cells (w.heap.size + 1 + 1) #[.bool false] ty.bool :: (K ++ H))) w5 := by
      have P6 := (PS.front [It.cells (w.heap.size + 1 + 1) #[.bool false] ty.bool, It.cells (w.heap.size + 1) #[.int .i64 0] ty.int, zqb w.heap.size] P5).st
      exact ST.sto5 ((P6.perm (List.Perm.swap _ _ _)).perm ((List.Perm.cons _ (List.Perm.swap _ _ _)).trans (List.Perm.swap _ _ _))) 0 rfl fun w6 S6 => S6.perm (List.Perm.cons _ (List.Perm.refl _))
    obtain ⟨w6, S6, hr6⟩ := STOREC_run (P := Tryz.prog) _ _ _ _ _ st1
    obtain ⟨_, z2, S7⟩ := S6.sto 1 rfl (i := 0) (v := .int .i64 0) (cs' := #[.int .i64 0]) (by simp) rfl fun w7 S7 => S7
    have c2 := S6.cell 1 rfl (i := 0) rfl
    obtain ⟨_, z3, S8⟩ := S7.sto 2 rfl (i := 0) (v := .bool true) (cs' := #[.bool true]) (by simp) rfl fun w8 S8 => S8
    have c3 := S7.cell 2 rfl (i := 0) rfl
    go_wp2_with (fail)
    generalize (w6.setCell ⟨w.heap.size + 1, 0, none⟩ (.int .i64 0)).setCell ⟨w.heap.size + 1 + 1, 0, none⟩ (.bool true) = w8 at S8 ⊢
    have d0 : w8.cell? ⟨w.heap.size, 0, none⟩ = some (.slice ai Q.it.length ci) := S8.cell 0 rfl rfl
    have d1 : w8.cell? ⟨w.heap.size, 1, none⟩ = some (.slice aw Q.wh.length cw) := S8.cell 0 rfl rfl
    have d2 : w8.cell? ⟨w.heap.size, 2, none⟩ = some (.slice ag Q.gr.length cg) := S8.cell 0 rfl rfl
    have d3 : w8.cell? ⟨w.heap.size, 3, none⟩ = some (.slice ao Q.od.length co) := S8.cell 0 rfl rfl
    have d4 : w8.cell? ⟨w.heap.size, 4, none⟩ = some (.int .i64 Q.lim) := S8.cell 0 rfl rfl
    have d5 : w8.cell? ⟨w.heap.size + 1, 0, none⟩ = some (.int .i64 0) := S8.cell 1 rfl rfl
    have d6 : w8.cell? ⟨w.heap.size + 1 + 1, 0, none⟩ = some (.bool true) := S8.cell 2 rfl rfl
    have S9 := S8.drop 3
    refine leaves_cons (f := 99) (args := #[.pointer (some ⟨w.heap.size, 0, none⟩), .pointer (some ⟨w.heap.size + 1, 0, none⟩), .pointer (some ⟨w.heap.size + 1 + 1, 0, none⟩)]) (by simp) (by simp [go_sem]) ?_
    refine (read_idle _ _ _ _).mono ?_
    rintro e u' w'' ⟨rfl, rfl, rfl⟩
    simp [Leaves, settle, results, Tryz.results60, go_sem, d0, d1, d2, d3, d4, d5, d6]
    exact ⟨_, rfl, .inr ⟨Q, L', ai, aw, ag, ao, ci, cw, cg, co, K, hR, rfl, hQ, S9⟩⟩
  · have S5 : ST w0 w5 (It.cells (w.heap.size + 1 + 1) #[.bool false] ty.bool :: It.cells (w.heap.size + 1) #[.int .i64 0] ty.int :: zqb w.heap.size :: H) := S5
    have hw : NEWB #[.int .i64 a] 142 (fun N w1 => wrongK w.heap.size (w.heap.size + 1) (w.heap.size + 1 + 1) N (fun w8 => ∃ N, ST w0 w8 (It.cells N #[.int .i64 a] 142 :: It.cells (w.heap.size + 1 + 1) #[.bool false] ty.bool :: It.cells (w.heap.size + 1) #[.int .i64 a] ty.int :: zqb w.heap.size :: H)) w1) w5 :=
      S5.newB fun N w1 _ _ S6 => S6.draw fun w2 _ S7 => ⟨_, S7.cell 0 rfl rfl, S7.sto5 3 rfl fun w6 S8 => ⟨S8.cell 0 rfl rfl, S8.sto 2 rfl (cs' := #[.int .i64 a]) (by simp) rfl fun w7 S9 => S9.sto 1 rfl (cs' := #[.bool false]) (by simp) rfl fun w8 S10 => ⟨N, S10⟩⟩⟩
    show Leaves Tryz.prog Tryz.f60 _ _ _ _ _
    refine leaves_cons (f := 99) (args := #[.pointer (some ⟨w.heap.size, 0, none⟩), .pointer (some ⟨w.heap.size + 1, 0, none⟩), .pointer (some ⟨w.heap.size + 1 + 1, 0, none⟩)]) (by simp) (by simp [go_sem]) ?_
    refine (read_wrong hw).mono ?_
    rintro e u' w8 ⟨rfl, rfl, N, S8⟩
    have d0 : w8.cell? ⟨w.heap.size, 0, none⟩ = some (.slice none 0 0) := S8.cell 3 rfl rfl
    have d1 : w8.cell? ⟨w.heap.size, 1, none⟩ = some (.slice none 0 0) := S8.cell 3 rfl rfl
    have d2 : w8.cell? ⟨w.heap.size, 2, none⟩ = some (.slice none 0 0) := S8.cell 3 rfl rfl
    have d3 : w8.cell? ⟨w.heap.size, 3, none⟩ = some (.slice none 0 0) := S8.cell 3 rfl rfl
    have d4 : w8.cell? ⟨w.heap.size, 4, none⟩ = some (.int .i64 0) := S8.cell 3 rfl rfl
    have d5 : w8.cell? ⟨w.heap.size + 1, 0, none⟩ = some (.int .i64 a) := S8.cell 2 rfl rfl
    have d6 : w8.cell? ⟨w.heap.size + 1 + 1, 0, none⟩ = some (.bool false) := S8.cell 1 rfl rfl
    have S9 := S8.drop 4
    simp [Leaves, settle, results, Tryz.results60, go_sem, d0, d1, d2, d3, d4, d5, d6]
    exact ⟨_, rfl, .inl ⟨a, ha, rfl, S9⟩⟩
section
variable {P : Program} {w : World}
end
section
variable {w : World}
end
section
variable {w : World} {cs : List Col} {a1 : Option Addr} {c1 : Nat} {q : Qu} {ai aw ag ao : Option Addr} {ci cw cg co : Nat}
end
def txt1 : ByteArray := ⟨#[115, 101, 108, 101, 99, 116, 32, 115, 117, 109, 40, 32, 97, 42, 40, 98, 43, 49, 41, 32, 41, 32, 97, 115, 32, 115, 32, 103, 114, 111, 117, 112, 32, 98, 121, 32, 99, 32, 111, 114, 100, 101, 114, 32, 98, 121, 32, 115, 32, 100, 101, 115, 99]⟩
def out1 : ByteArray := ⟨#[115, 101, 108, 101, 99, 116, 32, 115, 117, 109, 40, 97, 32, 42, 32, 40, 98, 32, 43, 32, 49, 41, 41, 32, 97, 115, 32, 115, 32, 103, 114, 111, 117, 112, 32, 98, 121, 32, 99, 32, 111, 114, 100, 101, 114, 32, 98, 121, 32, 115, 32, 100, 101, 115, 99]⟩
theorem toks1 : toksP 60 (bl txt1) 0 = some T1 := by kernel_rfl
theorem show1 : showQ Q1 = .tuple #[.string out1, .int .i64 0] := by kernel_rfl
abbrev ptkI (a : Option Addr) (c : Nat) (T : List Tk) : It := It.row ty.query_token 3 a T.length c (tksL T)
theorem tPks : slT Tryz.prog ty.L_query_token = some (ty.query_token, 3, 32, zTk) := by kernel_rfl
theorem T1_end : ∀ x ∈ T1, x.2.2 = E0 → ¬ x.1 < (txt1.size : Int) := by decide
theorem pparse1 {w : World} (E : Env w) : Calls Tryz.prog f.query_Parse #[.string txt1] w (Ret fun v w' => ∃ ai ag ao ci cg co, v = .tuple #[.agg ⟨quL Q1 ai none ag ao ci 0 cg co⟩, .int .i64 0, .int .i64 0] ∧ QAt w' Q1 ai none ag ao ∧ Below w.heap.size w w') := by
  apply R.query_Parse_calls
  unfold R.query_Parse
  refine (ST.start w).newB fun b2 w1 _ _ S1 => S1.newB fun b3 w2 _ _ S2 => S2.newB fun b4 w3 _ _ S3 => S3.newB fun b5 w4 _ _ S4 => ⟨_, S4.cell 3 rfl rfl, IFB_dec (fun h => absurd h (by decide)) (fun _ => S4.newB fun b14 w12 _ _ S12 => ⟨_, S12.cell 4 rfl rfl, ptokens_ok.mono ?_⟩)⟩
  rintro _ w13 ⟨_, rfl, bt, rfl, P13⟩
  have S13 := (S12.nil ty.query_token 3).join P13
  refine ⟨_, _, _, rfl, by kernel_rfl, fun rr hst hpe hy => ?_⟩
  have S14 := S13.range rr
  obtain ⟨L, hL⟩ : ∃ L, L = w13.heap.size + 1 := ⟨_, rfl⟩
  obtain ⟨m, hm⟩ : ∃ m, m = w13.heap.size := ⟨_, rfl⟩
  rw [← hL] at S14 hy ⊢
  rw [← hm] at S14 ⊢
  have S15 : ST w ((w13.alloc (.deferred (some []))).alloc (.loop rr)) (It.cells bt #[.string txt1] ty.string :: ([It.obj m (.deferred (some []))] ++ [ptkI none 0 [], It.cells b14 #[.slice none 0 0] ty.L_query_token, It.obj L (.loop rr), It.cells b5 #[.int .i64 0] ty.api_Errno, It.cells b4 #[.int .i64 0] ty.int, zqb b3, It.cells b2 #[.string txt1] ty.string])) :=
    (((S14.pull 4 rfl).pull 4 rfl).pull 3 rfl).pull 4 rfl
  refine (ptokens_c1 (I := fun D B => ∃ a c, B = [ptkI a c D, It.cells b14 #[.slice a D.length c] ty.L_query_token, It.obj L (.loop rr), It.cells b5 #[.int .i64 0] ty.api_Errno, It.cells b4 #[.int .i64 0] ty.int, zqb b3, It.cells b2 #[.string txt1] ty.string]) (J := fun _ => False) toks1 (by decide) ?_ ⟨none, 0, rfl⟩ S15).mono ?_
  · rintro D x rest vs HN _ w14 htot ⟨a, c, rfl⟩ S rfl
    have S := ST.mid (B := []) [ptkI a c D, It.cells b14 #[.slice a D.length c] ty.L_query_token, It.obj L (.loop rr), It.cells b5 #[.int .i64 0] ty.api_Errno, It.cells b4 #[.int .i64 0] ty.int, zqb b3, It.cells b2 #[.string txt1] ty.string] S
    have hxm : x ∈ T1 := by rw [htot]; simp
    have hD : D.length ≤ 21 := by
      have := congrArg List.length htot
      simp only [List.length_append, List.length_cons] at this
      have h21 : T1.length = 21 := rfl
      omega
    refine hy _ _ _ _ w14 (S.get 2 rfl) ?_
    refine S.lit3 fun b22 w18 _ S => S.begr 3 rfl fun w19 S => ⟨_, S.cell 0 rfl rfl, ?_⟩
    have app : ∀ {k : Bool → World → Prop}, (∀ w', (∃ B', ST w w' (HN ++ B') ∧ ∃ a c, B' = [ptkI a c (D ++ [x]), It.cells b14 #[.slice a (D ++ [x]).length c] ty.L_query_token, It.obj L (.loop rr), It.cells b5 #[.int .i64 0] ty.api_Errno, It.cells b4 #[.int .i64 0] ty.int, zqb b3, It.cells b2 #[.string txt1] ty.string]) → k true w') →
        ∃ (t32 : Option Addr) (t32l t32c : Nat), w19.cell? ⟨b14, 0, none⟩ = some (.slice t32 t32l t32c) ∧ ∃ t330 : Int, w19.cell? ⟨b22, 0, none⟩ = some (.int .i64 t330) ∧ ∃ t331 : Int, w19.cell? ⟨b22, 1, none⟩ = some (.int .i64 t331) ∧ ∃ t332 : ByteArray, w19.cell? ⟨b22, 2, none⟩ = some (.string t332) ∧
          NEWB #[.int .i64 t330, .int .i64 t331, .string t332] 103 (fun b31 w28 => OPR Tryz.prog (Builtin.append_ #[98, 98] 98 #[.slice t32 t32l t32c, .slice (some ⟨b31, 0, none⟩) 1 1]) (fun r w29 => ∃ (t35 : Option Addr) (t35l t35c : Nat), r = .slice t35 t35l t35c ∧ STO ⟨b14, 0, none⟩ (.slice t35 t35l t35c) (fun w30 => ENDR rr L k none w30) w29) w28) w19 := fun hk => by
      refine ⟨_, _, _, S.cell 2 rfl rfl, _, S.cell 0 rfl rfl, _, S.cell 0 rfl rfl, _, S.cell 0 rfl rfl, S.newB fun b31 w28 _ _ S28 => ?_⟩
      refine S28.app 2 rfl tPks rfl (by omega) (by omega) (S28.rdc 0 rfl) (mm := 1) rfl (by intro u hu; simp at hu; rcases hu with rfl | rfl | rfl <;> rfl) (by omega) fun a' c' w29 S29 => ⟨_, _, _, rfl, S29.sto 3 rfl (cs' := #[.slice a' (D.length + 1) c']) (by simp) rfl fun w30 S30 => S30.endr0 4 hst hpe rfl fun w' S' => hk w' ⟨[ptkI a' c' (D ++ [x]), It.cells b14 #[.slice a' (D ++ [x]).length c'] ty.L_query_token, It.obj L (.loop rr), It.cells b5 #[.int .i64 0] ty.api_Errno, It.cells b4 #[.int .i64 0] ty.int, zqb b3, It.cells b2 #[.string txt1] ty.string], ?_, a', c', rfl⟩⟩
      have S9 := S'.drop 2
      have e : ptkI a' c' (D ++ [x]) = It.row ty.query_token 3 a' (D.length + 1) c' (tksL D ++ tkC x) := by
        show It.row ty.query_token 3 a' (D ++ [x]).length c' (tksL (D ++ [x])) = _
        rw [List.length_append, List.length_singleton]
        simp [tksL]
      rw [e, List.length_append, List.length_singleton]
      exact ST.unmid (B := []) [It.row ty.query_token 3 a' (D.length + 1) c' (tksL D ++ tkC x), It.cells b14 #[.slice a' (D.length + 1) c'] ty.L_query_token, It.obj L (.loop rr), It.cells b5 #[.int .i64 0] ty.api_Errno, It.cells b4 #[.int .i64 0] ty.int, zqb b3, It.cells b2 #[.string txt1] ty.string] S9
    rw [bytesEq_iff]
    refine IFB_dec (fun he => ⟨_, S.cell 0 rfl rfl, _, S.cell 7 rfl rfl, IFB_dec (fun hlt => absurd hlt (T1_end x hxm he)) (fun _ => app fun w' ⟨B', h1, h2⟩ => ⟨B', h1, .inl ⟨rfl, h2⟩⟩)⟩) (fun _ => app fun w' ⟨B', h1, h2⟩ => ⟨B', h1, .inl ⟨rfl, h2⟩⟩)
  · rintro _ w35 ⟨_, rfl, B', S35, ⟨a, c, rfl⟩ | h⟩
    rotate_left
    · cases h
    have S35 := ST.mid (B := []) [ptkI a c T1, It.cells b14 #[.slice a T1.length c] ty.L_query_token, It.obj L (.loop rr), It.cells b5 #[.int .i64 0] ty.api_Errno, It.cells b4 #[.int .i64 0] ty.int, zqb b3, It.cells b2 #[.string txt1] ty.string] S35
    refine ⟨⟨_, rfl⟩, S35.endl0 2 hst hpe rfl fun w36 S36 => .inl ⟨rfl, _, _, _, S36.cell 1 rfl rfl, ?_⟩⟩
    have hrow := S36.rw 0 rfl
    have hcap : T1.length ≤ c ∧ c ≤ 9223372036854775807 := by
      rcases hrow.2 with ⟨_, h0, _⟩ | ⟨_, _, _, _, h1, h2, _⟩
      · cases h0
      · exact ⟨h1, h2⟩
    refine (pread_ok E (S36.toRd 0 rfl) hcap.1 hcap.2).mono ?_
    rintro _ w37 ⟨_, rfl, x, cap, K, a1, c1, ag, cg, ao, co, hR, rfl, S37⟩
    refine ⟨_, _, _, _, _, _, _, _, _, _, _, _, _, _, _, rfl, S37.newB fun b58 w38 _ _ S38 => S38.sto5 0 rfl fun w42 S42 => IFB_not (IFB_true ?_)⟩
    have q42 : ∀ {w' : World} {H : List It}, ST w w' (quI b58 Q1 a1 none ag ao c1 0 cg co :: (QL x cap K a1 c1 ag cg ao co ++ H)) → QAt w' Q1 a1 none ag ao := fun S => qat1 hR (fun it hi => S.ok it (by simp [hi])) (S.rd 1 rfl) (S.rd 2 rfl) (S.rd 3 rfl)
    have S42 : ST w w42 (quI b58 Q1 a1 none ag ao c1 0 cg co :: (QL x cap K a1 c1 ag cg ao co ++ [It.cells b14 #[.slice a T1.length c] ty.L_query_token, It.obj L (.loop { rr with state := .exhausted, pending := none }), It.cells b5 #[.int .i64 0] ty.api_Errno, It.cells b4 #[.int .i64 0] ty.int, zqb b3, It.cells b2 #[.string txt1] ty.string, It.obj m (.deferred (some []))])) := S42
    refine stQ S42 0 rfl (S42.call (query_Show_ok (E.grown S42.bel) (q42 S42)) fun w50 _ S50 => ?_)
    rw [show1]
    refine ⟨_, _, rfl, IFB_ne (fun h => absurd rfl h) (fun _ => stQ S50 0 rfl ?_)⟩
    have S51 : ST w w50 (zqb b3 :: It.cells b4 #[.int .i64 0] ty.int :: It.cells b5 #[.int .i64 0] ty.api_Errno :: It.obj m (.deferred (some [])) :: quI b58 Q1 a1 none ag ao c1 0 cg co :: (QL x cap K a1 c1 ag cg ao co ++ [])) := by
      have S := ST.mid (B := []) (X := quI b58 Q1 a1 none ag ao c1 0 cg co :: QL x cap K a1 c1 ag cg ao co) [It.cells b14 #[.slice a T1.length c] ty.L_query_token, It.obj L (.loop { rr with state := .exhausted, pending := none }), It.cells b5 #[.int .i64 0] ty.api_Errno, It.cells b4 #[.int .i64 0] ty.int, zqb b3, It.cells b2 #[.string txt1] ty.string, It.obj m (.deferred (some []))] (by simpa using S50)
      have S := S.drop 2
      exact ((((S.pull 4 rfl).pull 1 rfl).pull 2 rfl).pull 3 rfl).sub (.cons_cons _ (.cons_cons _ (.cons_cons _ (.cons_cons _ (.cons _ (.refl _))))))
    refine S51.sto5 0 rfl fun w62 S62 => S62.sto 1 rfl (cs' := #[.int .i64 0]) (by simp) rfl fun w63 S63 => S63.sto 2 rfl (cs' := #[.int .i64 0]) (by simp) rfl fun w64 S64 => ⟨S64.get 3 rfl, ?_⟩
    have S65 := S64.put 3 rfl (.deferred none)
    refine ⟨_, _, _, S65.cell 0 rfl rfl, _, _, _, S65.cell 0 rfl rfl, _, _, _, S65.cell 0 rfl rfl, _, _, _, S65.cell 0 rfl rfl, _, S65.cell 0 rfl rfl, _, S65.cell 1 rfl rfl, _, S65.cell 2 rfl rfl, a1, ag, ao, c1, cg, co, rfl, ?_, S65.bel⟩
    exact qat1 hR (fun it hi => S65.ok it (by simp [hi])) (S65.rd 5 rfl) (S65.rd 6 rfl) (S65.rd 7 rfl)
theorem law11_shown_ok {w : World} (E : Env w) : Calls Tryz.prog f.law11_shown #[] w (Ret fun r w' => r = .bool true ∧ Below w.heap.size w w') := by
  apply R.law11_shown_calls
  unfold R.law11_shown
  refine (pparse1 E).mono ?_
  rintro _ w1 ⟨_, rfl, ai, ag, ao, ci, cg, co, rfl, Q, B1⟩
  refine ⟨_, _, _, _, _, _, _, _, _, _, _, _, _, _, _, rfl, (ST.start w1).newB fun b9 w2 _ _ S2 => S2.sto5 0 rfl fun w7 S7 => ?_⟩
  have S7 : ST w1 w7 [quI b9 Q1 ai none ag ao ci 0 cg co] := S7
  refine stQ S7 0 rfl (S7.call (query_Show_ok ((E.grown B1).grown S7.bel) (Q.grown S7.bel)) fun w8 _ S8 => ?_)
  rw [show1]
  exact ⟨_, _, rfl, IFB_true (IFB_true ⟨by rw [bytesEq_iff]; exact congrArg Value.bool (decide_eq_true rfl), below_j B1 S8.bel⟩)⟩
inductive ParseIs (s : ByteArray) : Option Qu → Int → Int → Prop
  | long : 4096 < s.size → ParseIs s none 0 111
  | tok {T : List Tk} {t : Tk} : s.size ≤ 4096 → Lx (bl s) 0 T → t ∈ T → t.2.2 = E0 → t.1 < s.size → ParseIs s none t.1 110
  | bad {T : List Tk} {a : Int} : s.size ≤ 4096 → Lx (bl s) 0 T → Fin T → (Ev fun f => queryM f T = some (.bad a)) → ParseIs s none a 110
  | form {T : List Tk} {q : Qu} {L : List Tk} : s.size ≤ 4096 → Lx (bl s) 0 T → Fin T → (Ev fun f => queryM f T = some (.ok q L)) → rightQ q = false → ParseIs s none 0 110
  | ok {T : List Tk} {q : Qu} {L : List Tk} : s.size ≤ 4096 → Lx (bl s) 0 T → Fin T → (Ev fun f => queryM f T = some (.ok q L)) → rightQ q = true → ParseIs s (some q) 0 0
theorem qatZ (w : World) : QAt w zeroQ none none none none :=
  ⟨⟨[], Rd.nil _ _, rfl⟩, ⟨[], Rd.nil _ _, rfl⟩, ⟨[], Rd.nil _ _, rfl⟩, ⟨[], Rd.nil _ _, rfl⟩, by decide, by decide, by decide, by decide, by decide⟩
theorem Lx.len {l : List UInt8} {n : Nat} {T : List Tk} (h : Lx l n T) : T.length ≤ l.length + 1 := by
  induction h with
  | fin n => simp
  | blank _ _ ih => simp only [List.length_cons]; omega
  | tok _ hz _ ih =>
    rw [List.length_drop] at ih
    simp only [List.length_cons] at ih ⊢
    omega
  | bad _ _ => simp
theorem Lx.fin_of {l : List UInt8} {n : Nat} {T : List Tk} (h : Lx l n T) : (∀ x ∈ T, ¬ (x.2.2 = E0 ∧ x.1 < ((n + l.length : Nat) : Int))) → Fin T := by
  induction h with
  | fin n => intro _; exact .one _
  | @blank c r n T hb h ih =>
    intro hno
    refine ih fun x hx => ?_
    have := hno x hx
    rw [List.length_cons] at this
    rw [show n + 1 + r.length = n + (r.length + 1) by omega]
    exact this
  | @tok c r n T hb hz h ih =>
    intro hno
    have hl := lenT_le (c :: r)
    refine .cons (lenT_sort hz) (take_ne hz) (ih fun x hx => ?_)
    have := hno x (by simp [hx])
    rw [List.length_drop, show n + (lenT (c :: r)).1 + ((c :: r).length - (lenT (c :: r)).1) = n + (c :: r).length by omega]
    exact this
  | @bad c r n hb hz =>
    intro hno
    exact absurd ⟨rfl, by show ((n : Nat) : Int) < _; simp only [List.length_cons]; omega⟩ (hno _ (List.mem_singleton.2 rfl))
theorem pparse_G {w : World} (E : Env2 w) {s : ByteArray} (hs : s.size ≤ 9223372036854775800) : Calls Tryz.prog f.query_Parse #[.string s] w (Ret fun v w' => ∃ o a e ai aw ag ao ci cw cg co, ParseIs s o a e ∧ v = .tuple #[.agg ⟨quL (o.getD zeroQ) ai aw ag ao ci cw cg co⟩, .int .i64 a, .int .i64 e] ∧ QAt w' (o.getD zeroQ) ai aw ag ao ∧ Below w.heap.size w w') := by
  apply R.query_Parse_calls
  unfold R.query_Parse
  have hbl := bl_length s
  refine (ST.start w).newB fun b2 w1 _ _ S1 => S1.newB fun b3 w2 _ _ S2 => S2.newB fun b4 w3 _ _ S3 => S3.newB fun b5 w4 _ _ S4 => ⟨_, S4.cell 3 rfl rfl, IFB_dec (fun h => ?_) (fun hlong => S4.newB fun b14 w12 _ _ S12 => ⟨_, S12.cell 4 rfl rfl, ptokens_ok.mono ?_⟩)⟩
  · exact S4.sto5 2 rfl fun w9 S9 => S9.sto 1 rfl (cs' := #[.int .i64 0]) (by simp) rfl fun w10 S10 => S10.sto 0 rfl (cs' := #[.int .i64 111]) (by simp) rfl fun w11 S11 => ⟨_, _, _, S11.cell 2 rfl rfl, _, _, _, S11.cell 2 rfl rfl, _, _, _, S11.cell 2 rfl rfl, _, _, _, S11.cell 2 rfl rfl, _, S11.cell 2 rfl rfl, _, S11.cell 1 rfl rfl, _, S11.cell 0 rfl rfl,
      none, 0, 111, none, none, none, none, 0, 0, 0, 0, .long (by omega), rfl, qatZ _, S11.bel⟩
  have hsz : s.size ≤ 4096 := by omega
  obtain ⟨T, hT⟩ := lx_ex _ (bl s) 0 (Nat.le_refl _)
  have hTl := hT.len
  have hTs := hT.small
  rw [hbl] at hTl hTs
  rintro _ w13 ⟨_, rfl, bt, rfl, P13⟩
  have S13 := (S12.nil ty.query_token 3).join P13
  refine ⟨_, _, _, rfl, by kernel_rfl, fun rr hst hpe hy => ?_⟩
  have S14 := S13.range rr
  obtain ⟨L, hL⟩ : ∃ L, L = w13.heap.size + 1 := ⟨_, rfl⟩
  obtain ⟨m, hm⟩ : ∃ m, m = w13.heap.size := ⟨_, rfl⟩
  rw [← hL] at S14 hy ⊢
  rw [← hm] at S14 ⊢
  have S15 : ST w ((w13.alloc (.deferred (some []))).alloc (.loop rr)) (It.cells bt #[.string s] ty.string :: ([It.obj m (.deferred (some []))] ++ [ptkI none 0 [], It.cells b14 #[.slice none 0 0] ty.L_query_token, It.obj L (.loop rr), It.cells b5 #[.int .i64 0] ty.api_Errno, It.cells b4 #[.int .i64 0] ty.int, zqb b3, It.cells b2 #[.string s] ty.string])) :=
    (((S14.pull 4 rfl).pull 4 rfl).pull 3 rfl).pull 4 rfl
  refine (ptokG_c1 (I := fun D B => (∀ x ∈ D, ¬ (x.2.2 = E0 ∧ x.1 < (s.size : Int))) ∧ ∃ a c, B = [ptkI a c D, It.cells b14 #[.slice a D.length c] ty.L_query_token, It.obj L (.loop rr), It.cells b5 #[.int .i64 0] ty.api_Errno, It.cells b4 #[.int .i64 0] ty.int, zqb b3, It.cells b2 #[.string s] ty.string])
    (J := fun B => ∃ t ∈ T, t.2.2 = E0 ∧ t.1 < (s.size : Int) ∧ ∃ a c D, B = [ptkI a c D, It.cells b14 #[.slice a D.length c] ty.L_query_token, It.obj L (.loop { rr with state := .done, pending := some .ret }), It.cells b5 #[.int .i64 110] ty.api_Errno, It.cells b4 #[.int .i64 t.1] ty.int, zqb b3, It.cells b2 #[.string s] ty.string]) hT hs ?_ ⟨by simp, none, 0, rfl⟩ S15).mono ?_
  · rintro D x rest vs HN _ w14 htot ⟨hno, a, c, rfl⟩ S rfl
    have S := ST.mid (B := []) [ptkI a c D, It.cells b14 #[.slice a D.length c] ty.L_query_token, It.obj L (.loop rr), It.cells b5 #[.int .i64 0] ty.api_Errno, It.cells b4 #[.int .i64 0] ty.int, zqb b3, It.cells b2 #[.string s] ty.string] S
    have hxm : x ∈ T := by rw [htot]; simp
    have hD : D.length ≤ 5000 := by
      have := congrArg List.length htot
      simp only [List.length_append, List.length_cons] at this
      omega
    refine hy _ _ _ _ w14 (S.get 2 rfl) ?_
    refine S.lit3 fun b22 w18 _ S => S.begr 3 rfl fun w19 S => ⟨_, S.cell 0 rfl rfl, ?_⟩
    have app : ∀ {k : Bool → World → Prop}, (∀ w', (∃ B', ST w w' (HN ++ B') ∧ ∃ a c, B' = [ptkI a c (D ++ [x]), It.cells b14 #[.slice a (D ++ [x]).length c] ty.L_query_token, It.obj L (.loop rr), It.cells b5 #[.int .i64 0] ty.api_Errno, It.cells b4 #[.int .i64 0] ty.int, zqb b3, It.cells b2 #[.string s] ty.string]) → k true w') →
        ∃ (t32 : Option Addr) (t32l t32c : Nat), w19.cell? ⟨b14, 0, none⟩ = some (.slice t32 t32l t32c) ∧ ∃ t330 : Int, w19.cell? ⟨b22, 0, none⟩ = some (.int .i64 t330) ∧ ∃ t331 : Int, w19.cell? ⟨b22, 1, none⟩ = some (.int .i64 t331) ∧ ∃ t332 : ByteArray, w19.cell? ⟨b22, 2, none⟩ = some (.string t332) ∧
          NEWB #[.int .i64 t330, .int .i64 t331, .string t332] 103 (fun b31 w28 => OPR Tryz.prog (Builtin.append_ #[98, 98] 98 #[.slice t32 t32l t32c, .slice (some ⟨b31, 0, none⟩) 1 1]) (fun r w29 => ∃ (t35 : Option Addr) (t35l t35c : Nat), r = .slice t35 t35l t35c ∧ STO ⟨b14, 0, none⟩ (.slice t35 t35l t35c) (fun w30 => ENDR rr L k none w30) w29) w28) w19 := fun hk => by
      refine ⟨_, _, _, S.cell 2 rfl rfl, _, S.cell 0 rfl rfl, _, S.cell 0 rfl rfl, _, S.cell 0 rfl rfl, S.newB fun b31 w28 _ _ S28 => ?_⟩
      refine S28.app 2 rfl tPks rfl (by omega) (by omega) (S28.rdc 0 rfl) (mm := 1) rfl (by intro u hu; simp at hu; rcases hu with rfl | rfl | rfl <;> rfl) (by omega) fun a' c' w29 S29 => ⟨_, _, _, rfl, S29.sto 3 rfl (cs' := #[.slice a' (D.length + 1) c']) (by simp) rfl fun w30 S30 => S30.endr0 4 hst hpe rfl fun w' S' => hk w' ⟨[ptkI a' c' (D ++ [x]), It.cells b14 #[.slice a' (D ++ [x]).length c'] ty.L_query_token, It.obj L (.loop rr), It.cells b5 #[.int .i64 0] ty.api_Errno, It.cells b4 #[.int .i64 0] ty.int, zqb b3, It.cells b2 #[.string s] ty.string], ?_, a', c', rfl⟩⟩
      have S9 := S'.drop 2
      have e : ptkI a' c' (D ++ [x]) = It.row ty.query_token 3 a' (D.length + 1) c' (tksL D ++ tkC x) := by
        show It.row ty.query_token 3 a' (D ++ [x]).length c' (tksL (D ++ [x])) = _
        rw [List.length_append, List.length_singleton]
        simp [tksL]
      rw [e, List.length_append, List.length_singleton]
      exact ST.unmid (B := []) [It.row ty.query_token 3 a' (D.length + 1) c' (tksL D ++ tkC x), It.cells b14 #[.slice a' (D.length + 1) c'] ty.L_query_token, It.obj L (.loop rr), It.cells b5 #[.int .i64 0] ty.api_Errno, It.cells b4 #[.int .i64 0] ty.int, zqb b3, It.cells b2 #[.string s] ty.string] S9
    have good : ¬ (x.2.2 = E0 ∧ x.1 < (s.size : Int)) → ∀ y ∈ D ++ [x], ¬ (y.2.2 = E0 ∧ y.1 < (s.size : Int)) := fun hx y hy => by
      rcases List.mem_append.1 hy with h | h
      · exact hno y h
      · rw [List.mem_singleton.1 h]; exact hx
    rw [bytesEq_iff]
    refine IFB_dec (fun he => ⟨_, S.cell 0 rfl rfl, _, S.cell 7 rfl rfl, IFB_dec (fun hlt => ?_) (fun hge => app fun w' ⟨B', h1, h2⟩ => ⟨B', h1, .inl ⟨rfl, good (fun h => hge h.2), h2⟩⟩)⟩) (fun hne => app fun w' ⟨B', h1, h2⟩ => ⟨B', h1, .inl ⟨rfl, good (fun h => hne h.1), h2⟩⟩)
    refine S.draw fun w20 _ S20 => ⟨_, S20.cell 0 rfl rfl, S20.sto5 6 rfl fun w25 S25 => ⟨S25.cell 0 rfl rfl, S25.sto 5 rfl (cs' := #[.int .i64 x.1]) (by simp) rfl fun w26 S26 => S26.sto 4 rfl (cs' := #[.int .i64 110]) (by simp) rfl fun w27 S27 => S27.endr1 3 rfl fun w' S' => ⟨_, ST.unmid (B := []) [ptkI a c D, It.cells b14 #[.slice a D.length c] ty.L_query_token, It.obj L (.loop { rr with state := .done, pending := some .ret }), It.cells b5 #[.int .i64 110] ty.api_Errno, It.cells b4 #[.int .i64 x.1] ty.int, zqb b3, It.cells b2 #[.string s] ty.string] (S'.drop 1), .inr ⟨rfl, x, hxm, he, hlt, a, c, D, by rw [List.append_nil]⟩⟩⟩⟩
  rintro _ w35 ⟨_, rfl, B', S35, ⟨hno, a, c, rfl⟩ | ⟨t, htm, ht1, ht2, a, c, D, rfl⟩⟩
  rotate_left
  · have S35 := ST.mid (B := []) [ptkI a c D, It.cells b14 #[.slice a D.length c] ty.L_query_token, It.obj L (.loop { rr with state := .done, pending := some .ret }), It.cells b5 #[.int .i64 110] ty.api_Errno, It.cells b4 #[.int .i64 t.1] ty.int, zqb b3, It.cells b2 #[.string s] ty.string] S35
    refine ⟨⟨_, rfl⟩, S35.endl1 2 rfl fun w36 S36 => .inr ⟨rfl, S36.get 7 rfl, ?_⟩⟩
    have S65 := S36.put 7 rfl (.deferred none)
    exact ⟨_, _, _, S65.cell 5 rfl rfl, _, _, _, S65.cell 5 rfl rfl, _, _, _, S65.cell 5 rfl rfl, _, _, _, S65.cell 5 rfl rfl, _, S65.cell 5 rfl rfl, _, S65.cell 4 rfl rfl, _, S65.cell 3 rfl rfl, none, t.1, 110, none, none, none, none, 0, 0, 0, 0, .tok hsz hT htm ht1 ht2, rfl, qatZ _, S65.bel⟩
  have hF : Fin T := hT.fin_of (by rw [Nat.zero_add, hbl]; exact hno)
  obtain ⟨R, hR, _⟩ := query_tot (hF.good (P := fun _ => True) fun _ _ => trivial)
  obtain ⟨f, hf⟩ := hR.one
  have S35 := ST.mid (B := []) [ptkI a c T, It.cells b14 #[.slice a T.length c] ty.L_query_token, It.obj L (.loop rr), It.cells b5 #[.int .i64 0] ty.api_Errno, It.cells b4 #[.int .i64 0] ty.int, zqb b3, It.cells b2 #[.string s] ty.string] S35
  refine ⟨⟨_, rfl⟩, S35.endl0 2 hst hpe rfl fun w36 S36 => .inl ⟨rfl, _, _, _, S36.cell 1 rfl rfl, ?_⟩⟩
  have hrow := S36.rw 0 rfl
  have hcap : T.length ≤ c ∧ c ≤ 9223372036854775807 := by
    rcases hrow.2 with ⟨_, h0, _⟩ | ⟨_, _, _, _, h1, h2, _⟩
    · exfalso
      cases hF <;> simp at h0
    · exact ⟨h1, h2⟩
  refine (pread_G E (S36.toRd 0 rfl) hcap.1 hcap.2 hf (fun t ht => Nat.le_trans (hTs t ht) hsz) (by omega)).mono ?_
  rintro _ w37 ⟨_, rfl, ⟨a', rfl, rfl, S37⟩ | ⟨Q, L', ai, aw, ag, ao, ci, cw, cg, co, K, rfl, rfl, hQ, S37⟩⟩
  · refine ⟨_, _, _, _, _, _, _, _, _, _, _, _, _, _, _, rfl, S37.newB fun b58 w38 _ _ S38 => S38.sto5 0 rfl fun w42 S42 => IFB_not (IFB_false ?_)⟩
    refine S42.sto5 5 rfl fun w62 S62 => S62.sto 4 rfl (cs' := #[.int .i64 a']) (by simp) rfl fun w63 S63 => S63.sto 3 rfl (cs' := #[.int .i64 110]) (by simp) rfl fun w64 S64 => ⟨S64.get 7 rfl, ?_⟩
    have S65 := S64.put 7 rfl (.deferred none)
    exact ⟨_, _, _, S65.cell 5 rfl rfl, _, _, _, S65.cell 5 rfl rfl, _, _, _, S65.cell 5 rfl rfl, _, _, _, S65.cell 5 rfl rfl, _, S65.cell 5 rfl rfl, _, S65.cell 4 rfl rfl, _, S65.cell 3 rfl rfl, none, a', 110, none, none, none, none, 0, 0, 0, 0, .bad hsz hT hF hR, rfl, qatZ _, S65.bel⟩
  have S37 : ST w w37 ([It.cells b14 #[.slice a T.length c] ty.L_query_token, It.obj L (.loop { rr with state := .exhausted, pending := none }), It.cells b5 #[.int .i64 0] ty.api_Errno, It.cells b4 #[.int .i64 0] ty.int, zqb b3, It.cells b2 #[.string s] ty.string, It.obj m (.deferred (some []))] ++ K) := by
    have S37 : ST w w37 (K ++ [It.cells b14 #[.slice a T.length c] ty.L_query_token, It.obj L (.loop { rr with state := .exhausted, pending := none }), It.cells b5 #[.int .i64 0] ty.api_Errno, It.cells b4 #[.int .i64 0] ty.int, zqb b3, It.cells b2 #[.string s] ty.string, It.obj m (.deferred (some []))]) := S37
    exact S37.perm List.perm_append_comm
  refine ⟨_, _, _, _, _, _, _, _, _, _, _, _, _, _, _, rfl, S37.newB fun b58 w38 _ _ S38 => S38.sto5 0 rfl fun w42 S42 => IFB_not (IFB_true ?_)⟩
  have S42 : ST w w42 (quI b58 Q ai aw ag ao ci cw cg co :: It.cells b14 #[.slice a T.length c] ty.L_query_token :: It.obj L (.loop { rr with state := .exhausted, pending := none }) :: It.cells b5 #[.int .i64 0] ty.api_Errno :: It.cells b4 #[.int .i64 0] ty.int :: zqb b3 :: It.cells b2 #[.string s] ty.string :: It.obj m (.deferred (some [])) :: K) := S42
  have hk : ∀ {w' : World} {A : List It}, ST w w' (A ++ K) → QAt w' Q ai aw ag ao := fun {w' A} S => hQ w' fun y hy => S.ok y (by simp [hy])
  refine stQ S42 0 rfl (S42.call (query_Show_ok (E.env.grown S42.bel) (hk (A := [_, _, _, _, _, _, _, _]) S42)) fun w50 _ S50 => ?_)
  by_cases hr : rightQ Q = true
  · rw [showQ, if_pos hr]
    refine ⟨_, _, rfl, IFB_ne (fun h => absurd rfl h) (fun _ => stQ S50 0 rfl ?_)⟩
    refine S50.sto5 5 rfl fun w62 S62 => S62.sto 4 rfl (cs' := #[.int .i64 0]) (by simp) rfl fun w63 S63 => S63.sto 3 rfl (cs' := #[.int .i64 0]) (by simp) rfl fun w64 S64 => ⟨S64.get 7 rfl, ?_⟩
    have S65 := S64.put 7 rfl (.deferred none)
    exact ⟨_, _, _, S65.cell 5 rfl rfl, _, _, _, S65.cell 5 rfl rfl, _, _, _, S65.cell 5 rfl rfl, _, _, _, S65.cell 5 rfl rfl, _, S65.cell 5 rfl rfl, _, S65.cell 4 rfl rfl, _, S65.cell 3 rfl rfl, some Q, 0, 0, ai, aw, ag, ao, ci, cw, cg, co, .ok hsz hT hF hR hr, rfl, hk (A := [_, _, _, _, _, _, _, _]) S65, S65.bel⟩
  · rw [showQ, if_neg hr]
    refine ⟨_, _, rfl, IFB_ne (fun _ => ?_) (fun h => absurd h (by decide))⟩
    refine S50.sto5 5 rfl fun w62 S62 => S62.sto 4 rfl (cs' := #[.int .i64 0]) (by simp) rfl fun w63 S63 => S63.sto 3 rfl (cs' := #[.int .i64 110]) (by simp) rfl fun w64 S64 => ⟨S64.get 7 rfl, ?_⟩
    have S65 := S64.put 7 rfl (.deferred none)
    exact ⟨_, _, _, S65.cell 5 rfl rfl, _, _, _, S65.cell 5 rfl rfl, _, _, _, S65.cell 5 rfl rfl, _, _, _, S65.cell 5 rfl rfl, _, S65.cell 5 rfl rfl, _, S65.cell 4 rfl rfl, _, S65.cell 3 rfl rfl, none, 0, 110, none, none, none, none, 0, 0, 0, 0, .form hsz hT hF hR (by simpa using hr), rfl, qatZ _, S65.bel⟩
section
variable {w : World} {cs : List Col} {a1 : Option Addr} {c1 : Nat} {q : Qu} {ai aw ag ao : Option Addr} {ci cw cg co : Nat}
end
section
variable {w : World} {cs : List Col} {a1 : Option Addr} {c1 : Nat} {q : Qu} {ai aw ag ao : Option Addr} {ci cw cg co : Nat}
end
section
variable {w : World} {q u : Qu} {ai aw ag ao bi bw bg bo : Option Addr} {ci cw cg co di dw dg d_o : Nat}
end
end Go.Proofs.YtbpdfpfgijhokaaGreatDoor
namespace Go.Proofs.YtbpdfpfgijhokaaGreatDoor
set_option maxRecDepth 100000
open Go.Dn Go.Proofs
set_option linter.unusedVariables false
section
variable {f : Nat} {lv own : Int} {x : Ex} {t u : Tk} {L R : List Tk} {O : RS Ex}
end
/-! ### digits -/
/-! ### expressions -/
section
variable {x : Ex} {lv need : Int} {rest : List UInt8} {n : Nat} {R : List Tk} {O : RS Ex}
end
end Go.Proofs.YtbpdfpfgijhokaaGreatDoor
namespace Go.Proofs.YtbpdfpfgijhokaaGreatDoor
set_option maxRecDepth 100000
open Go.Dn Go.Proofs
set_option linter.unusedVariables false
/-! ### names, items -/
/-! ### lists -/
section
variable {α : Type} {read : Nat → List Tk → Option (RS α)} {tx : α → ByteArray} {G : List UInt8 → List Tk → Prop}
end
/-! ### a query -/
section
variable {s : List UInt8} {n : Nat} {R : List Tk} {ws : List ByteArray}
end
abbrev w1 : List ByteArray := [qLimit]
abbrev w2 : List ByteArray := [qLimit, qOrder]
abbrev w3 : List ByteArray := [qLimit, qOrder, qGroup]
abbrev w4 : List ByteArray := [qLimit, qOrder, qGroup, qWhere]
theorem w1_no {s : ByteArray} (h : qLimit ≠ s) : ∀ w ∈ w1, w ≠ s := by
  intro w hw
  simp only [w1, List.mem_cons, List.not_mem_nil, or_false] at hw
  subst hw
  exact h
theorem w12 : ∀ w ∈ w1, w ∈ w2 := fun w h => by simp only [w1, w2, List.mem_cons, List.not_mem_nil, or_false] at h ⊢; exact .inl h
theorem w23 : ∀ w ∈ w2, w ∈ w3 := fun w h => by simp only [w2, w3, List.mem_cons, List.not_mem_nil, or_false] at h ⊢; exact h.imp_right .inl
theorem w34 : ∀ w ∈ w3, w ∈ w4 := fun w h => by simp only [w3, w4, List.mem_cons, List.not_mem_nil, or_false] at h ⊢; exact h.imp_right fun h => h.imp_right .inl
end Go.Proofs.YtbpdfpfgijhokaaGreatDoor
namespace Go.Proofs.YtbpdfpfgijhokaaGreatDoor
set_option maxRecDepth 100000
open Go.Dn Go.Proofs
open Go.RowKit (Below)
set_option linter.unusedVariables false
theorem Lx.det {l : List UInt8} {n : Nat} {T : List Tk} (h : Lx l n T) : ∀ {U : List Tk}, Lx l n U → T = U := by
  induction h with
  | fin n => intro U h2; cases h2; rfl
  | blank hb _ ih =>
    intro U h2
    cases h2 with
    | blank _ h2 => exact ih h2
    | tok hb2 _ _ => rw [hb] at hb2; cases hb2
    | bad hb2 _ => rw [hb] at hb2; cases hb2
  | tok hb hz _ ih =>
    intro U h2
    cases h2 with
    | blank hb2 _ => rw [hb] at hb2; cases hb2
    | tok _ _ h2 => rw [ih h2]
    | bad _ hz2 => exact absurd hz2 hz
  | bad hb hz =>
    intro U h2
    cases h2 with
    | blank hb2 _ => rw [hb] at hb2; cases hb2
    | tok _ hz2 _ => exact absurd hz hz2
    | bad _ _ => rfl
theorem Ev.det {α : Type} {g : Nat → Option α} {a b : α} (h : Ev fun f => g f = some a) (h' : Ev fun f => g f = some b) : a = b := by
  obtain ⟨f, h1, h2⟩ := (h.and h').one
  rw [h1] at h2
  exact Option.some.inj h2
/-! ### whether two are alike, the program -/
section
variable {w : World} {q : Qu} {ai aw ag ao : Option Addr} {ci cw cg co : Nat}
theorem pparse_ST {w0 w : World} {H : List It} (E : Env2 w) {s : ByteArray} (hs : s.size ≤ 9223372036854775800) (S : ST w0 w H) {Q : Ending → World → Prop}
    (hk : ∀ o a e ai aw ag ao ci cw cg co w', ParseIs s o a e → QAt w' (o.getD zeroQ) ai aw ag ao → ST w0 w' H → Below w.heap.size w w' → Q (.returned (.tuple #[.agg ⟨quL (o.getD zeroQ) ai aw ag ao ci cw cg co⟩, .int .i64 a, .int .i64 e])) w') : Calls Tryz.prog f.query_Parse #[.string s] w Q :=
  (pparse_G E hs).mono (by
    rintro _ w' ⟨_, rfl, o, a, e, ai, aw, ag, ao, ci, cw, cg, co, hP, rfl, hQ, B⟩
    exact hk o a e ai aw ag ao ci cw cg co w' hP hQ (S.grown B) B)
end
end Go.Proofs.YtbpdfpfgijhokaaGreatDoor
namespace Go.Proofs.YtbpdfpfgijhokaaGreatDoor
set_option maxRecDepth 100000
open Go.Dn Go.Proofs
set_option linter.unusedVariables false
abbrev endK (n : Int) : Tk := (n, 0, E0)
section
variable {α β : Type} {n : Int} {t : Tk} {S p : List Tk}
def EndR (n : Int) (R : RS α) : Prop := R = .bad n ∨ ∃ y, R = .ok y [endK n]
def Sim (t : Tk) (S : List Tk) (R1 R2 : RS α) : Prop := (∃ x p, R1 = .ok x (p ++ t :: S) ∧ R2 = .ok x (p ++ [endK t.1])) ∨ EndR t.1 R2 ∨ ∃ a, R1 = .bad a ∧ R2 = .bad a
theorem isB_end (s : ByteArray) : isB (endK n) s = false := by simp [isB]
theorem need_end {s : ByteArray} {k : List Tk → Option (RS α)} {R : RS α} (h : needT s k [endK n] = some R) : EndR n R := by
  rw [needT, if_neg (by rw [isB_end]; decide)] at h
  exact .inl (Option.some.inj h).symm
theorem name_end {k : ByteArray → List Tk → Option (RS α)} {R : RS α} (h : nameT k [endK n] = some R) : EndR n R := by
  rw [nameT, if_neg (by simp)] at h
  exact .inl (Option.some.inj h).symm
theorem opt_end {s : ByteArray} {k : List Tk → Option (RS α)} {d : α} {R : RS α} (h : optT s k d [endK n] = some R) : EndR n R := by
  rw [optT, if_neg (by rw [isB_end]; decide)] at h
  exact .inr ⟨d, (Option.some.inj h).symm⟩
theorem bind_end {r : Option (RS α)} {k : α → List Tk → Option (RS β)} {R : RS β} (hr : ∀ R, r = some R → EndR n R) (hk : ∀ y R, k y [endK n] = some R → EndR n R) (h : bindR r k = some R) : EndR n R := by
  rcases bindR_open h with ⟨a, h1, h2⟩ | ⟨x, L, h1, h2⟩
  · rcases hr _ h1 with h3 | ⟨y, h3⟩
    · cases h3; exact .inl h2
    · cases h3
  · rcases hr _ h1 with h3 | ⟨y, h3⟩
    · cases h3
    · cases h3; exact hk _ _ h2
theorem sim_bind {r1 r2 : Option (RS α)} {k : α → List Tk → Option (RS β)} {R1 R2 : RS β} (hr : ∀ R1 R2, r1 = some R1 → r2 = some R2 → Sim t S R1 R2) (hk : ∀ x p R1 R2, k x (p ++ t :: S) = some R1 → k x (p ++ [endK t.1]) = some R2 → Sim t S R1 R2)
    (he : ∀ y R, k y [endK t.1] = some R → EndR t.1 R) (h1 : bindR r1 k = some R1) (h2 : bindR r2 k = some R2) : Sim t S R1 R2 := by
  rcases bindR_open h1 with ⟨a, f1, rfl⟩ | ⟨x, L, f1, g1⟩ <;> rcases bindR_open h2 with ⟨b, f2, rfl⟩ | ⟨y, L2, f2, g2⟩ <;> rcases hr _ _ f1 f2 with ⟨z, p, e1, e2⟩ | (e | ⟨u, e⟩) | ⟨c, e1, e2⟩
  · cases e1
  · cases e; exact .inr (.inl (.inl rfl))
  · cases e
  · cases e1; cases e2; exact .inr (.inr ⟨_, rfl, rfl⟩)
  · cases e1
  · cases e
  · cases e; exact .inr (.inl (he _ _ g2))
  · cases e2
  · cases e2
  · cases e; exact .inr (.inl (.inl rfl))
  · cases e
  · cases e1
  · cases e1; cases e2; exact hk _ _ _ _ g1 g2
  · cases e
  · cases e; exact .inr (.inl (he _ _ g2))
  · cases e1
theorem sim_need {s : ByteArray} {k : List Tk → Option (RS α)} {R1 R2 : RS α} (hk : ∀ p R1 R2, k (p ++ t :: S) = some R1 → k (p ++ [endK t.1]) = some R2 → Sim t S R1 R2) (h1 : needT s k (p ++ t :: S) = some R1) (h2 : needT s k (p ++ [endK t.1]) = some R2) : Sim t S R1 R2 := by
  cases p with
  | nil => exact .inr (.inl (need_end h2))
  | cons u p =>
    rw [List.cons_append, needT] at h1 h2
    by_cases h : isB u s = true
    · rw [if_pos h] at h1 h2
      exact hk _ _ _ h1 h2
    · rw [if_neg h] at h1 h2
      exact .inr (.inr ⟨_, (Option.some.inj h1).symm, (Option.some.inj h2).symm⟩)
theorem sim_name {k : ByteArray → List Tk → Option (RS α)} {R1 R2 : RS α} (hk : ∀ s p R1 R2, k s (p ++ t :: S) = some R1 → k s (p ++ [endK t.1]) = some R2 → Sim t S R1 R2) (h1 : nameT k (p ++ t :: S) = some R1) (h2 : nameT k (p ++ [endK t.1]) = some R2) : Sim t S R1 R2 := by
  cases p with
  | nil => exact .inr (.inl (name_end h2))
  | cons u p =>
    rw [List.cons_append, nameT] at h1 h2
    by_cases h : u.2.1 = 1 ∧ isKeyB u.2.2 = false
    · rw [if_pos h] at h1 h2
      exact hk _ _ _ _ h1 h2
    · rw [if_neg h] at h1 h2
      exact .inr (.inr ⟨_, (Option.some.inj h1).symm, (Option.some.inj h2).symm⟩)
theorem sim_opt {s : ByteArray} {k : List Tk → Option (RS α)} {d : α} {R1 R2 : RS α} (hk : ∀ p R1 R2, k (p ++ t :: S) = some R1 → k (p ++ [endK t.1]) = some R2 → Sim t S R1 R2) (h1 : optT s k d (p ++ t :: S) = some R1) (h2 : optT s k d (p ++ [endK t.1]) = some R2) : Sim t S R1 R2 := by
  cases p with
  | nil => exact .inr (.inl (opt_end h2))
  | cons u p =>
    rw [List.cons_append, optT] at h1 h2
    by_cases h : isB u s = true
    · rw [if_pos h] at h1 h2
      exact hk _ _ _ h1 h2
    · rw [if_neg h] at h1 h2
      exact .inl ⟨d, u :: p, (Option.some.inj h1).symm, (Option.some.inj h2).symm⟩
theorem sim_ok {x : α} {R1 R2 : RS α} (p : List Tk) (h1 : some (RS.ok x (p ++ t :: S)) = some R1) (h2 : some (RS.ok x (p ++ [endK t.1])) = some R2) : Sim t S R1 R2 := .inl ⟨x, p, (Option.some.inj h1).symm, (Option.some.inj h2).symm⟩
theorem ok_end {x : α} {R : RS α} (h : some (RS.ok x [endK n]) = some R) : EndR n R := .inr ⟨x, (Option.some.inj h).symm⟩
end
section
variable {t : Tk} {S : List Tk}
theorem pt_end (n : Int) : ∀ (f : Nat) (g : Tag) (R : RS Ex), pt f g [endK n] = some R → EndR n R := by
  intro f
  induction f with
  | zero => intro g R h; cases g <;> simp [pt] at h
  | succ f ih =>
    intro g R h
    have hA : ∀ R, pt (f + 1) .A [endK n] = some R → EndR n R := fun R h => by
      rw [pt, if_neg (by simp), if_neg (by simp), if_neg (by simp [isB_end]), if_neg (by simp [isB_end]), if_neg (by simp [isB_end])] at h
      exact name_end h
    cases g with
    | E lv =>
      rw [pt, if_neg (by simp [isB_end])] at h
      exact bind_end (ih _) (fun y R h => ih _ _ h) h
    | L lv x own =>
      rw [pt, if_neg (by simp [isB_end]), if_pos (.inr (.inl rfl))] at h
      exact ok_end h
    | M =>
      rw [pt, if_neg (by simp [isB_end])] at h
      exact ih _ _ h
    | A => exact hA R h
theorem pt_sim : ∀ (f : Nat) (g : Tag) (p : List Tk) (R1 R2 : RS Ex), pt f g (p ++ t :: S) = some R1 → pt f g (p ++ [endK t.1]) = some R2 → Sim t S R1 R2 := by
  intro f
  induction f with
  | zero => intro g p R1 R2 h; cases g <;> simp [pt] at h
  | succ f ih =>
    intro g p R1 R2 h1 h2
    cases p with
    | nil => exact .inr (.inl (pt_end _ _ _ _ h2))
    | cons u p =>
      rw [List.cons_append] at h1 h2
      cases g with
      | E lv =>
        rw [pt] at h1 h2
        by_cases hc : lv ≤ 3 ∧ isB u qNot = true
        · rw [if_pos hc] at h1 h2
          exact sim_bind (ih _ _) (fun x p R1 R2 => ih _ _ _ _) (fun y R h => pt_end _ _ _ _ h) h1 h2
        · rw [if_neg hc] at h1 h2
          exact sim_bind (ih _ (u :: p)) (fun x p R1 R2 => ih _ _ _ _) (fun y R h => pt_end _ _ _ _ h) h1 h2
      | L lv x own =>
        rw [pt] at h1 h2
        by_cases hi : isB u qIs = true
        · rw [if_pos hi] at h1 h2
          by_cases h4 : 4 < lv ∨ own < 5
          · rw [if_pos h4] at h1 h2
            exact sim_ok (u :: p) h1 h2
          · rw [if_neg h4] at h1 h2
            exact sim_need (fun p R1 R2 => ih _ _ _ _) h1 h2
        · rw [if_neg hi] at h1 h2
          by_cases hc : (powF u).1 < lv ∨ (powF u).1 = 0 ∨ own < (powF u).1 ∨ ((powF u).1 = 5 ∧ own = 5)
          · rw [if_pos hc] at h1 h2
            exact sim_ok (u :: p) h1 h2
          · rw [if_neg hc] at h1 h2
            exact sim_bind (ih _ _) (fun x p R1 R2 => ih _ _ _ _) (fun y R h => pt_end _ _ _ _ h) h1 h2
      | M =>
        rw [pt] at h1 h2
        by_cases hm : isB u qMinus = true
        · rw [if_pos hm] at h1 h2
          cases p with
          | nil =>
            rw [List.nil_append, negM, if_neg (by simp)] at h2
            exact .inr (.inl (bind_end (pt_end _ _ _) (fun y R h => ok_end h) h2))
          | cons v p =>
            rw [List.cons_append, negM] at h1 h2
            by_cases hv : v.2.1 = 2
            · rw [if_pos hv] at h1 h2
              exact sim_ok p h1 h2
            · rw [if_neg hv] at h1 h2
              exact sim_bind (ih _ (v :: p)) (fun x p R1 R2 => sim_ok p) (fun y R h => ok_end h) h1 h2
        · rw [if_neg hm] at h1 h2
          exact ih _ (u :: p) _ _ h1 h2
      | A =>
        rw [pt] at h1 h2
        by_cases c2 : u.2.1 = 2
        · rw [if_pos c2] at h1 h2
          exact sim_ok p h1 h2
        rw [if_neg c2] at h1 h2
        by_cases c3 : u.2.1 = 3
        · rw [if_pos c3] at h1 h2
          exact sim_ok p h1 h2
        rw [if_neg c3] at h1 h2
        by_cases cw : isB u qNull = true ∨ isB u qTrue = true ∨ isB u qFalse = true
        · rw [if_pos cw] at h1 h2
          exact sim_ok p h1 h2
        rw [if_neg cw] at h1 h2
        by_cases cl : isB u qLen = true
        · rw [if_pos cl] at h1 h2
          exact sim_need (fun p R1 R2 h1 h2 => sim_bind (ih _ _) (fun x p R1 R2 h1 h2 => sim_need (fun p R1 R2 => sim_ok p) h1 h2) (fun y R h => need_end h) h1 h2) h1 h2
        rw [if_neg cl] at h1 h2
        by_cases co : isB u qOpen = true
        · rw [if_pos co] at h1 h2
          exact sim_bind (ih _ _) (fun x p R1 R2 h1 h2 => sim_need (fun p R1 R2 => sim_ok p) h1 h2) (fun y R h => need_end h) h1 h2
        rw [if_neg co] at h1 h2
        exact sim_name (p := u :: p) (fun s p R1 R2 => sim_ok p) h1 h2
theorem tail_sim {a : Int} {x : Ex} {p : List Tk} {R1 R2 : RS Itm} (h1 : tailT a x (p ++ t :: S) = some R1) (h2 : tailT a x (p ++ [endK t.1]) = some R2) : Sim t S R1 R2 :=
  sim_need (fun p R1 R2 h1 h2 => sim_name (fun s p R1 R2 => sim_ok p) h1 h2) h1 h2
theorem tail_end {n : Int} {a : Int} {x : Ex} {R : RS Itm} (h : tailT a x [endK n] = some R) : EndR n R := need_end h
theorem star_sim {f : Nat} {a : Int} {p : List Tk} {R1 R2 : RS (Int × Ex)} (h1 : starT f a (p ++ t :: S) = some R1) (h2 : starT f a (p ++ [endK t.1]) = some R2) : Sim t S R1 R2 := by
  cases p with
  | nil =>
    rw [List.nil_append, starT, if_neg (by simp [isB_end])] at h2
    exact .inr (.inl (bind_end (pt_end _ _ _) (fun y R h => ok_end h) h2))
  | cons u p =>
    rw [List.cons_append, starT] at h1 h2
    by_cases hc : a = 2 ∧ isB u qStar = true
    · rw [if_pos hc] at h1 h2
      exact sim_ok p h1 h2
    · rw [if_neg hc] at h1 h2
      exact sim_bind (pt_sim _ _ (u :: p)) (fun x p R1 R2 => sim_ok p) (fun y R h => ok_end h) h1 h2
theorem item_end {n : Int} {f : Nat} {R : RS Itm} (h : itemM f [endK n] = some R) : EndR n R := by
  rw [itemM, if_pos (by simp [aggT])] at h
  exact bind_end (pt_end _ _ _) (fun y R h => tail_end h) h
theorem item_sim {f : Nat} {p : List Tk} {R1 R2 : RS Itm} (h1 : itemM f (p ++ t :: S) = some R1) (h2 : itemM f (p ++ [endK t.1]) = some R2) : Sim t S R1 R2 := by
  cases p with
  | nil => exact .inr (.inl (item_end h2))
  | cons u p =>
    rw [List.cons_append, itemM] at h1 h2
    by_cases hc : aggT u = 0
    · rw [if_pos hc] at h1 h2
      exact sim_bind (pt_sim _ _ (u :: p)) (fun x p R1 R2 => tail_sim) (fun y R h => tail_end h) h1 h2
    · rw [if_neg hc] at h1 h2
      exact sim_need (fun p R1 R2 h1 h2 => sim_bind (fun R1 R2 => star_sim) (fun x p R1 R2 h1 h2 => sim_need (fun p R1 R2 => tail_sim) h1 h2) (fun y R h => need_end h) h1 h2) h1 h2
variable {α : Type} {read : List Tk → Option (RS α)}
theorem more_end {n : Int} {f : Nat} {D : List α} {R : RS (List α)} (h : moreM read f D [endK n] = some R) : EndR n R := by
  cases f with
  | zero => simp [moreM] at h
  | succ f =>
    rw [moreM, if_neg (by simp [isB_end])] at h
    exact ok_end h
theorem more_sim (hr : ∀ p R1 R2, read (p ++ t :: S) = some R1 → read (p ++ [endK t.1]) = some R2 → Sim t S R1 R2) (he : ∀ R, read [endK t.1] = some R → EndR t.1 R) : ∀ (f : Nat) (D : List α) (p : List Tk) (R1 R2 : RS (List α)), moreM read f D (p ++ t :: S) = some R1 → moreM read f D (p ++ [endK t.1]) = some R2 → Sim t S R1 R2 := by
  intro f
  induction f with
  | zero => intro D p R1 R2 h; simp [moreM] at h
  | succ f ih =>
    intro D p R1 R2 h1 h2
    cases p with
    | nil => exact .inr (.inl (more_end h2))
    | cons u p =>
      rw [List.cons_append, moreM] at h1 h2
      by_cases hc : isB u qComma = true
      · rw [if_pos hc] at h1 h2
        exact sim_bind (hr _) (fun x p R1 R2 => ih _ _ _ _) (fun y R h => more_end h) h1 h2
      · rw [if_neg hc] at h1 h2
        exact sim_ok (u :: p) h1 h2
theorem list_sim (hr : ∀ p R1 R2, read (p ++ t :: S) = some R1 → read (p ++ [endK t.1]) = some R2 → Sim t S R1 R2) (he : ∀ R, read [endK t.1] = some R → EndR t.1 R) {f : Nat} {p : List Tk} {R1 R2 : RS (List α)} (h1 : listM read f (p ++ t :: S) = some R1) (h2 : listM read f (p ++ [endK t.1]) = some R2) : Sim t S R1 R2 :=
  sim_bind (hr p) (fun x p R1 R2 => more_sim hr he _ _ _ _ _) (fun y R h => more_end h) h1 h2
end
theorem key_sim {t : Tk} {S : List Tk} {it : List Itm} {p : List Tk} {R1 R2 : RS (Int × Bool)} (h1 : keyM it (p ++ t :: S) = some R1) (h2 : keyM it (p ++ [endK t.1]) = some R2) : Sim t S R1 R2 :=
  sim_name (fun s p R1 R2 h1 h2 => sim_opt (fun p R1 R2 => sim_ok p) h1 h2) h1 h2
theorem lim_sim {t : Tk} {S : List Tk} {p : List Tk} {R1 R2 : RS Int} (h1 : limM (p ++ t :: S) = some R1) (h2 : limM (p ++ [endK t.1]) = some R2) : Sim t S R1 R2 := by
  cases p with
  | nil =>
    rw [List.nil_append, limM, if_neg (by simp)] at h2
    exact .inr (.inl (.inl (Option.some.inj h2).symm))
  | cons u p =>
    rw [List.cons_append, limM] at h1 h2
    by_cases hc : u.2.1 = 2
    · rw [if_pos hc] at h1 h2
      exact sim_ok p h1 h2
    · rw [if_neg hc] at h1 h2
      exact .inr (.inr ⟨_, (Option.some.inj h1).symm, (Option.some.inj h2).symm⟩)
theorem end_end {n : Int} {q : Qu} {R : RS Qu} (h : endM q [endK n] = some R) : EndR n R := by
  rw [endM, if_pos rfl] at h
  exact ok_end h
theorem end_sim {t : Tk} {S : List Tk} {q : Qu} {p : List Tk} {R1 R2 : RS Qu} (h1 : endM q (p ++ t :: S) = some R1) (h2 : endM q (p ++ [endK t.1]) = some R2) : Sim t S R1 R2 := by
  cases p with
  | nil => exact .inr (.inl (end_end h2))
  | cons u p =>
    rw [List.cons_append, endM] at h1 h2
    by_cases hc : u.2.1 = 0
    · rw [if_pos hc] at h1 h2
      exact sim_ok (u :: p) h1 h2
    · rw [if_neg hc] at h1 h2
      exact .inr (.inr ⟨_, (Option.some.inj h1).symm, (Option.some.inj h2).symm⟩)
theorem query_sim {t : Tk} {S p : List Tk} {f : Nat} {R1 R2 : RS Qu} (h1 : queryM f (p ++ t :: S) = some R1) (h2 : queryM f (p ++ [endK t.1]) = some R2) : Sim t S R1 R2 := by
  have e1 : ∀ {it : List Itm} {wh gr : List Ex} (od : List (Int × Bool)) (R : RS Qu), bindR (optT qLimit limM (-1) [endK t.1]) (fun lim L6 => endM ⟨it, wh, gr, od, lim⟩ L6) = some R → EndR t.1 R := fun od R h => by
    refine bind_end (fun R => opt_end) (fun lim R h => ?_) h
    exact end_end h
  have e2 : ∀ {it : List Itm} {wh : List Ex} (gr : List Ex) (R : RS Qu), bindR (optT qOrder (needT qBy (listM (keyM it) f)) [] [endK t.1]) (fun od L5 => bindR (optT qLimit limM (-1) L5) fun lim L6 => endM ⟨it, wh, gr, od, lim⟩ L6) = some R → EndR t.1 R := fun gr R h => by
    refine bind_end (fun R => opt_end) (fun od R h => ?_) h
    exact e1 _ _ h
  have e3 : ∀ {it : List Itm} (wh : List Ex) (R : RS Qu), bindR (optT qGroup (needT qBy (listM (pt f (.E 1)) f)) [] [endK t.1]) (fun gr L4 => bindR (optT qOrder (needT qBy (listM (keyM it) f)) [] L4) fun od L5 => bindR (optT qLimit limM (-1) L5) fun lim L6 => endM ⟨it, wh, gr, od, lim⟩ L6) = some R → EndR t.1 R := fun wh R h => by
    refine bind_end (fun R => opt_end) (fun gr R h => ?_) h
    exact e2 _ _ h
  have e4 : ∀ (it : List Itm) (R : RS Qu), bindR (optT qWhere (whereM f) [] [endK t.1]) (fun wh L3 => bindR (optT qGroup (needT qBy (listM (pt f (.E 1)) f)) [] L3) fun gr L4 => bindR (optT qOrder (needT qBy (listM (keyM it) f)) [] L4) fun od L5 => bindR (optT qLimit limM (-1) L5) fun lim L6 => endM ⟨it, wh, gr, od, lim⟩ L6) = some R → EndR t.1 R := fun it R h => by
    refine bind_end (fun R => opt_end) (fun wh R h => ?_) h
    exact e3 _ _ h
  refine sim_need (fun p R1 R2 h1 h2 => sim_bind (fun R1 R2 => list_sim (fun p R1 R2 => item_sim) (fun R => item_end)) (fun it p R1 R2 h1 h2 => ?_) (fun it R h => ?_) h1 h2) h1 h2
  · refine sim_bind (fun R1 R2 => sim_opt fun p R1 R2 h1 h2 => sim_bind (pt_sim _ _ _) (fun x p R1 R2 => sim_ok p) (fun y R h => ok_end h) h1 h2) (fun wh p R1 R2 h1 h2 => ?_) (fun wh R h => ?_) h1 h2
    · refine sim_bind (fun R1 R2 => sim_opt fun p R1 R2 => sim_need fun p R1 R2 => list_sim (fun p R1 R2 => pt_sim _ _ _ _ _) (fun R => pt_end _ _ _ _)) (fun gr p R1 R2 h1 h2 => ?_) (fun gr R h => ?_) h1 h2
      · refine sim_bind (fun R1 R2 => sim_opt fun p R1 R2 => sim_need fun p R1 R2 => list_sim (fun p R1 R2 => key_sim) (fun R => name_end)) (fun od p R1 R2 h1 h2 => ?_) (fun od R h => ?_) h1 h2
        · exact sim_bind (fun R1 R2 => sim_opt fun p R1 R2 => lim_sim) (fun lim p R1 R2 => end_sim) (fun lim R h => end_end h) h1 h2
        · exact e1 _ _ h
      · exact e2 _ _ h
    · exact e3 _ _ h
  · exact e4 _ _ h
theorem front_of {t : Tk} {S p : List Tk} {R : RS Qu} (h1 : Ev fun f => queryM f (p ++ t :: S) = some (.bad t.1)) (h2 : Ev fun f => queryM f (p ++ [endK t.1]) = some R) : R = .bad t.1 ∨ ∃ q L, R = .ok q L := by
  obtain ⟨f, h1, h2⟩ := (h1.and h2).one
  rcases query_sim h1 h2 with ⟨x, q, e, _⟩ | (e | ⟨y, e⟩) | ⟨a, e1, e2⟩
  · cases e
  · exact .inl e
  · exact .inr ⟨_, _, e⟩
  · cases e1; exact .inl e2
end Go.Proofs.YtbpdfpfgijhokaaGreatDoor
namespace Go.Proofs.YtbpdfpfgijhokaaGreatDoor
set_option maxRecDepth 100000
open Go.Dn Go.Proofs
open Go.RowKit (Below)
set_option linter.unusedVariables false
theorem toksF_whole : ∀ (f : Nat) (l : List UInt8) (n : Nat) (T U : List Tk), l.length < f → toksF f l n = .ok U → Lx l n T → ∀ t ∈ T, ¬ (t.2.2 = E0 ∧ t.1 < ((n + l.length : Nat) : Int))
  | 0, l, n, T, U, hf, _, _ => by omega
  | f + 1, l, n, T, U, hf, h, hl => by
    cases hl with
    | fin n =>
      intro t ht h
      rw [List.mem_singleton.1 ht] at h
      have := h.2
      simp at this
    | @blank c r _ _ hb hr =>
      rw [toksF] at h
      have hb : c.toNat = 32 ∨ c.toNat = 10 := by simpa [blankCh] using hb
      rw [if_pos hb] at h
      rw [List.length_cons, show n + (r.length + 1) = n + 1 + r.length by omega]
      exact toksF_whole f r (n + 1) T U (by simpa using hf) h hr
    | @tok c r _ T' hb hz hr =>
      rw [toksF] at h
      have hb : ¬ (c.toNat = 32 ∨ c.toNat = 10) := by simpa [blankCh] using hb
      simp only [if_neg hb, if_neg hz] at h
      split at h
      · cases h
      · rename_i U' hU
        have hl := lenT_le (c :: r)
        have e2 : n + (lenT (c :: r)).1 + ((c :: r).drop (lenT (c :: r)).1).length = n + (c :: r).length := by rw [List.length_drop]; omega
        have ih := toksF_whole f _ _ T' U' (by rw [List.length_drop]; omega) hU hr
        rw [e2] at ih
        intro t ht
        rcases List.mem_cons.1 ht with rfl | ht
        · intro h; exact take_ne hz h.1
        · exact ih t ht
    | @bad c r _ hb hz =>
      rw [toksF] at h
      have hb : ¬ (c.toNat = 32 ∨ c.toNat = 10) := by simpa [blankCh] using hb
      simp only [if_neg hb, if_pos hz] at h
      cases h
theorem front_plain {s : ByteArray} {U : List Tk} (hU : toksF (s.size + 1) (bl s) 0 = .ok U) {o o' : Option Qu} {a e a' e' : Int} (h : ParseIs s o a e) (he : e = 110) (h0 : 0 < a) (h1 : a ≤ s.size) (h' : ParseIs (s.extract 0 a.toNat) o' a' e') : e' = 0 ∨ e' = 110 ∧ (a' = a ∨ a' = 0) := by
  have hbl := bl_length s
  cases h with
  | long h => exact absurd he (by decide)
  | @tok T t _ hT ht h2 h3 =>
    exfalso
    refine toksF_whole _ _ 0 T U (by omega) hU hT t ht ⟨h2, ?_⟩
    rw [Nat.zero_add, hbl]; exact h3
  | form => omega
  | ok => exact absurd he (by decide)
  | @bad T _ hs hT hF hq =>
    have hw := toksF_whole _ _ 0 T U (by omega) hU hT
    obtain ⟨R, hR, hP⟩ := query_tot (hF.good (P := fun a => ∃ t ∈ T, t.1 = a) fun t ht => ⟨t, ht, rfl⟩)
    obtain rfl := hq.det hR
    obtain ⟨t, ht, rfl⟩ := hP _ rfl
    obtain ⟨A, B, rfl⟩ := List.append_of_mem ht
    obtain ⟨k, hk, hkl, hL⟩ := hT.front A t B rfl
    have hk : t.1 = (k : Int) := by rw [hk, Nat.zero_add]
    have hex : bl (s.extract 0 t.1.toNat) = (bl s).take k := by rw [bl_extract, List.drop_zero, Nat.sub_zero, hk, Int.toNat_natCast]
    have hsz : (s.extract 0 t.1.toNat).size = k := by rw [← bl_length, hex, List.length_take]; omega
    rw [← hex] at hL
    cases h' with
    | long h => exfalso; omega
    | @tok T' u _ hT' hu h2 h3 =>
      exfalso
      rw [hT'.det hL] at hu
      rw [hsz] at h3
      rcases List.mem_append.1 hu with hu | hu
      · exact hw u (by simp [hu]) ⟨h2, by rw [Nat.zero_add]; omega⟩
      · rw [List.mem_singleton.1 hu] at h3
        simp only at h3
        omega
    | @bad T' a' _ hT' hF' hq' =>
      rw [hT'.det hL] at hq'
      rcases front_of hq hq' with h | ⟨_, _, h⟩
      · cases h; exact .inr ⟨rfl, .inl rfl⟩
      · cases h
    | form => exact .inr ⟨rfl, .inr rfl⟩
    | ok => exact .inl rfl
theorem QueryFront_core {w : World} (E : Env2 w) (s : ByteArray) (hs : s.size ≤ 4000000) : Calls Tryz.prog f.law11_QueryFront #[.string s] w (Ret fun v w' => v = .bool true ∧ Below w.heap.size w w') := by
  apply R.law11_QueryFront_calls
  unfold R.law11_QueryFront
  refine (ST.start w).call (law11_shown_ok E.env) fun w1 _ S1 => ⟨_, rfl, (ref11_Tokens_ok hs).mono ?_⟩
  rintro _ w2 ⟨_, rfl, hV⟩
  have g : ∃ (sl : Option Addr) (n c : Nat) (e : Int) (b : Bool), ‹Value› = .tuple #[.slice sl n c, .int .i64 e, .bool b] ∧ ST w w2 [] ∧ (b = true → ∃ U, toksF (s.size + 1) (bl s) 0 = .ok U) := by
    unfold ToksV at hV
    split at hV
    · rename_i T hT
      obtain ⟨a, c, rfl, S⟩ := hV
      exact ⟨_, _, _, _, _, rfl, (S1.join S).drop 1, fun _ => ⟨T, hT⟩⟩
    · obtain ⟨rfl, B⟩ := hV
      exact ⟨_, _, _, _, _, rfl, S1.grown B, fun h => by cases h⟩
  obtain ⟨sl, n, c, e0, b, rfl, S2, hU⟩ := g
  refine ⟨_, _, _, _, _, rfl, pparse_ST (E.grown S2.bel) (by omega) S2 fun o a e bi bw bg bo di dw dg d_o w3 hP Q3 S3 _ => ?_⟩
  refine ⟨_, _, _, _, _, _, _, _, _, _, _, _, _, _, _, rfl, S3.newB fun b16 w4 _ _ S4 => S4.sto5 0 rfl fun w9 S9 => ?_⟩
  have yes : (Value.bool true = .bool true ∧ Below w.heap.size w w9) := ⟨rfl, S9.bel⟩
  cases b with
  | false => exact IFB_not (IFB_false yes)
  | true =>
    obtain ⟨U, hU⟩ := hU rfl
    refine IFB_not (IFB_true (IFB_ne (fun _ => yes) fun he => IFB_dec (fun _ => yes) fun h0 => IFB_dec (fun _ => yes) fun h1 => ⟨⟨by omega, by omega, by omega⟩, ?_⟩))
    have hex : (s.extract 0 a.toNat).size ≤ s.size := by rw [← bl_length, bl_extract, List.length_take, List.length_drop, bl_length]; omega
    refine pparse_ST (E.grown S9.bel) (by omega) S9 fun o' a' e' ei ew eg eo fi fw fg fo w10 hP' Q10 S10 _ => ?_
    refine ⟨_, _, _, _, _, _, _, _, _, _, _, _, _, _, _, rfl, S10.newB fun b25 w11 _ _ S11 => S11.sto5 0 rfl fun w16 S16 => IFB_true ?_⟩
    have yes : (Value.bool true = .bool true ∧ Below w.heap.size w w16) := ⟨rfl, S16.bel⟩
    rcases front_plain hU hP he (by omega) (by omega) hP' with h | ⟨h, h2⟩
    · exact IFB_eq (fun _ => yes) (fun hn => absurd h hn)
    · refine IFB_eq (fun _ => yes) (fun _ => IFB_eq (fun _ => IFB_eq (fun _ => yes) (fun hn => ?_)) (fun hn => absurd h hn))
      rcases h2 with h2 | h2
      · exact absurd h2 hn
      · refine ⟨?_, S16.bel⟩
        rw [h2]; rfl
end Go.Proofs.YtbpdfpfgijhokaaGreatDoor
