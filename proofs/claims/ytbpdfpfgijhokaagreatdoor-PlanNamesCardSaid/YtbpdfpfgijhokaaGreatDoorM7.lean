/-
  Texts of this claim, laid one behind the other by a program of mine (install.py): P.Rp4, P.Pl1, P.Pl2, P.Pl3, P.SortI, P.Pl4, P.Pl5, P.Pl6, P.Pl7, P.Rp5, P.Rp6, P.Tree, P.PlW, P.PlX, P.PlY, P.PlArg.
-/
import Derived.Test.YtbpdfpfgijhokaaGreatDoorM6
import Derived.Test.YtbpdfpfgijhokaaGreatDoorM5
import Derived.Test.YtbpdfpfgijhokaaGreatDoorM4
import Derived.Test.YtbpdfpfgijhokaaGreatDoorM3
namespace Go.Proofs.YtbpdfpfgijhokaaGreatDoor
set_option maxRecDepth 100000
open Go.Dn Go.Proofs
open Go.RowKit (Below)
set_option linter.unusedVariables false
section
variable {w0 w : World} {H : List It}
theorem stI (S : ST w0 w H) (n : Nat) {b : Nat} {i : Itm} {a : Option Addr} {cap : Nat} (hn : H[n]? = some (itI b i a cap)) {Q : ByteArray → Int → Int → ByteArray → Int → Int → ByteArray → Option Addr → Nat → Nat → Prop} (hq : Q i.1 i.2.1 i.2.2.op i.2.2.nm i.2.2.v.1 i.2.2.v.2.1 i.2.2.v.2.2 a i.2.2.ks.length cap) :
    ∃ t0 : ByteArray, w.cell? ⟨b, 0, none⟩ = some (.string t0) ∧ ∃ t1 : Int, w.cell? ⟨b, 1, none⟩ = some (.int .i64 t1) ∧ ∃ t2 : Int, w.cell? ⟨b, 2, none⟩ = some (.int .i64 t2) ∧ ∃ t3 : ByteArray, w.cell? ⟨b, 3, none⟩ = some (.string t3) ∧ ∃ t4 : Int, w.cell? ⟨b, 4, none⟩ = some (.int .i64 t4) ∧ ∃ t5 : Int, w.cell? ⟨b, 5, none⟩ = some (.int .i64 t5) ∧ ∃ t6 : ByteArray, w.cell? ⟨b, 6, none⟩ = some (.string t6) ∧
      ∃ (t7 : Option Addr) (l c : Nat), w.cell? ⟨b, 7, none⟩ = some (.slice t7 l c) ∧ Q t0 t1 t2 t3 t4 t5 t6 t7 l c :=
  ⟨_, S.cell n hn rfl, _, S.cell n hn rfl, _, S.cell n hn rfl, _, S.cell n hn rfl, _, S.cell n hn rfl, _, S.cell n hn rfl, _, S.cell n hn rfl, _, _, _, S.cell n hn rfl, hq⟩
theorem stItm (S : ST w0 w H) (n : Nat) {b : Nat} {x0 x1 x2 x3 x4 x5 x6 x7 : Value} {t1 t2 t4 t5 : Int} {t0 t3 t6 : ByteArray} {a7 : Option Addr} {l7 c7 : Nat} {t : TypeId} (hn : H[n]? = some (It.cells b #[x0, x1, x2, x3, x4, x5, x6, x7] t)) {Q : ByteArray → Int → Int → ByteArray → Int → Int → ByteArray → Option Addr → Nat → Nat → World → Prop}
    (hk : ∀ w', ST w0 w' (H.set n (It.cells b #[.string t0, .int .i64 t1, .int .i64 t2, .string t3, .int .i64 t4, .int .i64 t5, .string t6, .slice a7 l7 c7] t)) → Q t0 t1 t2 t3 t4 t5 t6 a7 l7 c7 w') :
    STO ⟨b, 0, none⟩ (.string t0) (fun w => STO ⟨b, 1, none⟩ (.int .i64 t1) (fun w => STO ⟨b, 2, none⟩ (.int .i64 t2) (fun w => STO ⟨b, 3, none⟩ (.string t3) (fun w => STO ⟨b, 4, none⟩ (.int .i64 t4) (fun w => STO ⟨b, 5, none⟩ (.int .i64 t5) (fun w => STO ⟨b, 6, none⟩ (.string t6) (fun w => STO ⟨b, 7, none⟩ (.slice a7 l7 c7) (fun w =>
      ∃ r0 : ByteArray, w.cell? ⟨b, 0, none⟩ = some (.string r0) ∧ ∃ r1 : Int, w.cell? ⟨b, 1, none⟩ = some (.int .i64 r1) ∧ ∃ r2 : Int, w.cell? ⟨b, 2, none⟩ = some (.int .i64 r2) ∧ ∃ r3 : ByteArray, w.cell? ⟨b, 3, none⟩ = some (.string r3) ∧ ∃ r4 : Int, w.cell? ⟨b, 4, none⟩ = some (.int .i64 r4) ∧ ∃ r5 : Int, w.cell? ⟨b, 5, none⟩ = some (.int .i64 r5) ∧ ∃ r6 : ByteArray, w.cell? ⟨b, 6, none⟩ = some (.string r6) ∧
      ∃ (r7 : Option Addr) (l c : Nat), w.cell? ⟨b, 7, none⟩ = some (.slice r7 l c) ∧ Q r0 r1 r2 r3 r4 r5 r6 r7 l c w) w) w) w) w) w) w) w) w := by
  have hlt := (List.getElem?_eq_some_iff.1 hn).1
  have g : ∀ {x : It}, (H.set n x)[n]? = some x := List.getElem?_set_self hlt
  exact S.sto8 n hn fun w' S' => ⟨_, S'.cell n g rfl, _, S'.cell n g rfl, _, S'.cell n g rfl, _, S'.cell n g rfl, _, S'.cell n g rfl, _, S'.cell n g rfl, _, S'.cell n g rfl, _, _, _, S'.cell n g rfl, hk w' S'⟩
theorem stIx6 (S : ST w0 w H) (n : Nat) {b : Nat} {x0 x1 x2 x3 x4 x5 x6 x7 v2 v3 v4 v5 v6 v7 : Value} {t : TypeId} (hn : H[n]? = some (It.cells b #[x0, x1, x2, x3, x4, x5, x6, x7] t)) {k : World → Prop}
    (hk : ∀ w', ST w0 w' (H.set n (It.cells b #[x0, x1, v2, v3, v4, v5, v6, v7] t)) → k w') :
    STO ⟨b, 2, none⟩ v2 (fun w => STO ⟨b, 3, none⟩ v3 (fun w => STO ⟨b, 4, none⟩ v4 (fun w => STO ⟨b, 5, none⟩ v5 (fun w => STO ⟨b, 6, none⟩ v6 (fun w => STO ⟨b, 7, none⟩ v7 k w) w) w) w) w) w := by
  have hlt := (List.getElem?_eq_some_iff.1 hn).1
  have g : ∀ {x : It}, (H.set n x)[n]? = some x := List.getElem?_set_self hlt
  refine S.sto n hn (cs' := #[x0, x1, v2, x3, x4, x5, x6, x7]) (by simp) rfl fun w1 S1 => S1.sto n g (cs' := #[x0, x1, v2, v3, x4, x5, x6, x7]) (by simp) rfl fun w2 S2 => ?_
  rw [List.set_set] at S2
  refine S2.sto n g (cs' := #[x0, x1, v2, v3, v4, x5, x6, x7]) (by simp) rfl fun w3 S3 => ?_
  rw [List.set_set] at S3
  refine S3.sto n g (cs' := #[x0, x1, v2, v3, v4, v5, x6, x7]) (by simp) rfl fun w4 S4 => ?_
  rw [List.set_set] at S4
  refine S4.sto n g (cs' := #[x0, x1, v2, v3, v4, v5, v6, x7]) (by simp) rfl fun w5 S5 => ?_
  rw [List.set_set] at S5
  refine S5.sto n g (cs' := #[x0, x1, v2, v3, v4, v5, v6, v7]) (by simp) rfl fun w6 S6 => ?_
  rw [List.set_set] at S6
  exact hk w6 S6
end
def asW : ByteArray := ⟨#[97, 115]⟩
def zItC : Array Value := #[.string E0, .int .i64 0, .int .i64 0, .string E0, .int .i64 0, .int .i64 0, .string E0, .slice none 0 0]
def aggC : Array Value := #[.string ⟨#[99, 111, 117, 110, 116]⟩, .string ⟨#[115, 117, 109]⟩, .string ⟨#[109, 105, 110]⟩, .string ⟨#[109, 97, 120]⟩]
section
variable {w0 w : World} {H : List It} {b : Nat} {a : Option Addr} {c i : Nat} {T : List Tk}
theorem ritem_plain (hT : T.length ≤ 1000000) (h : Lone T i) (h2 : i + 2 < T.length) (has : seesB T[i + 1] asW = true) (hk : T[i + 2].2.1 = 1 ∧ isKeyB T[i + 2].2.2 = false) (S : ST w0 w (rpL b a c i T H)) :
    Calls Tryz.prog f.ref11_parser_item #[.pointer (some ⟨b, 0, none⟩)] w (Ret fun r w' => r = .agg ⟨itHead (T[i + 2].2.2, 0, colX T[i].2.2) none 0⟩ ∧ ST w0 w' (rpL b a c (i + 3) T H)) := by
  have hi : i < T.length := by omega
  apply R.ref11_parser_item_calls
  unfold R.ref11_parser_item
  refine S.newB fun b2 w1 _ _ S1 => S1.newB fun b3 w2 _ _ S2 => S2.newB fun b4 w3 _ _ S3 => ?_
  have S3 : ST w0 w3 (rpL b a c i T (It.cells b4 aggC ty.string :: It.cells b3 zItC ty.api_Item :: It.cells b2 zItC ty.api_Item :: H)) := (S3.pull 4 rfl).pull 4 rfl
  refine ⟨fun _ w => ST w0 w (rpL b a c i T (It.cells b4 aggC ty.string :: It.cells b3 zItC ty.api_Item :: It.cells b2 zItC ty.api_Item :: H)), forUp 4 (fun j w => ST w0 w (rpL b a c i T (It.cells b4 aggC ty.string :: It.cells b3 zItC ty.api_Item :: It.cells b2 zItC ty.api_Item :: H))) (by omega) S3 fun I M j w4 hj S4 next => IFB_dec (fun hlt => ⟨⟨by omega, hlt⟩, ?_⟩) (fun hge => S4), fun w20 S20 => ?_⟩
  · have hj4 : j < 4 := by omega
    obtain ⟨s, hs, hm⟩ : ∃ s : ByteArray, aggC[j]? = some (.string s) ∧ s ∈ headW := by
      have : j = 0 ∨ j = 1 ∨ j = 2 ∨ j = 3 := by omega
      rcases this with rfl | rfl | rfl | rfl
      · exact ⟨_, rfl, by simp [headW]⟩
      · exact ⟨_, rfl, by simp [headW]⟩
      · exact ⟨_, rfl, by simp [headW]⟩
      · exact ⟨_, rfl, by simp [headW]⟩
    refine ⟨s, ?_, rtakesN S4 hi hT (h.hd hi s hm) fun w10 S10 => ⟨_, rfl, IFB_not (IFB_false (next _ hj4 S10))⟩⟩
    rw [Int.toNat_natCast, Nat.mul_one, addr_add_blk, Nat.zero_add]
    exact S4.cell 2 rfl hs
  · refine ⟨_, S20.cell 3 rfl rfl, IFB_eq (fun _ => (ror_ok hT h S20).mono ?_) (fun h => absurd rfl h)⟩
    rintro _ w21 ⟨_, rfl, rfl, S21⟩
    refine ⟨_, _, _, _, _, _, _, _, rfl, stIx6 S21 3 rfl fun w27 S27 => ?_⟩
    have S27 : ST w0 w27 (rpL b a c (i + 1) T (It.cells b4 aggC ty.string :: itI b3 (E0, 0, colX T[i].2.2) none 0 :: It.cells b2 zItC ty.api_Item :: H)) := S27
    refine rneedsY S27 h.lt hT has fun w28 S28 => ⟨rfl, rnameY S28 h2 hT hk.1 hk.2 fun w29 S29 => ⟨_, rfl, S29.sto 3 rfl (i := 0) (cs' := ⟨itHead (T[i + 2].2.2, 0, colX T[i].2.2) none 0⟩) (by show 0 < 8; omega) rfl fun w30 S30 => ?_⟩⟩
    have S30 : ST w0 w30 (rpL b a c (i + 3) T (It.cells b4 aggC ty.string :: itI b3 (T[i + 2].2.2, 0, colX T[i].2.2) none 0 :: It.cells b2 zItC ty.api_Item :: H)) := S30
    exact stI S30 3 rfl (stItm S30 4 rfl fun w38 S38 => ⟨rfl, rpL_out (rpL_out (rpL_out S38))⟩)
theorem ritem_sum (hT : T.length ≤ 1000000) (h5 : i + 5 < T.length) (hc : seesB T[i] ⟨#[99, 111, 117, 110, 116]⟩ = false) (hsm : seesB T[i] ⟨#[115, 117, 109]⟩ = true) (ho : seesB T[i + 1] ⟨#[40]⟩ = true) (h : Lone T (i + 2)) (hcl : seesB T[i + 3] ⟨#[41]⟩ = true) (has : seesB T[i + 4] asW = true) (hk : T[i + 5].2.1 = 1 ∧ isKeyB T[i + 5].2.2 = false) (S : ST w0 w (rpL b a c i T H)) :
    Calls Tryz.prog f.ref11_parser_item #[.pointer (some ⟨b, 0, none⟩)] w (Ret fun r w' => r = .agg ⟨itHead (T[i + 5].2.2, 3, colX T[i + 2].2.2) none 0⟩ ∧ ST w0 w' (rpL b a c (i + 6) T H)) := by
  have hi : i < T.length := by omega
  apply R.ref11_parser_item_calls
  unfold R.ref11_parser_item
  refine S.newB fun b2 w1 _ _ S1 => S1.newB fun b3 w2 _ _ S2 => S2.newB fun b4 w3 _ _ S3 => ?_
  have S3 : ST w0 w3 (rpL b a c i T (It.cells b4 aggC ty.string :: It.cells b3 zItC ty.api_Item :: It.cells b2 zItC ty.api_Item :: H)) := (S3.pull 4 rfl).pull 4 rfl
  refine ⟨fun _ w => ST w0 w (rpL b a c (i + 4) T (It.cells b4 aggC ty.string :: itI b3 (E0, 3, colX T[i + 2].2.2) none 0 :: It.cells b2 zItC ty.api_Item :: H)), forUp 4 (fun j w => j ≤ 1 ∧ ST w0 w (rpL b a c i T (It.cells b4 aggC ty.string :: It.cells b3 zItC ty.api_Item :: It.cells b2 zItC ty.api_Item :: H))) (by omega) ⟨by omega, S3⟩ fun I M j w4 hj hS4 next => ?_, fun w20 S20 => ?_⟩
  · obtain ⟨hj1, S4⟩ := hS4
    refine IFB_dec (fun hlt => ⟨⟨by omega, hlt⟩, ?_⟩) (fun hge => by omega)
    rw [Int.toNat_natCast, Nat.mul_one, addr_add_blk, Nat.zero_add]
    rcases (show j = 0 ∨ j = 1 by omega) with rfl | rfl
    · exact ⟨_, S4.cell 2 rfl rfl, rtakesN S4 hi hT hc fun w10 S10 => ⟨_, rfl, IFB_not (IFB_false (next _ (by omega) ⟨by omega, S10⟩))⟩⟩
    · refine ⟨_, S4.cell 2 rfl rfl, rtakesY S4 hi hT hsm fun w5 S5 => ⟨_, rfl, IFB_not (IFB_true (rneedsY S5 (by omega) hT ho fun w6 S6 => ⟨rfl, fun st w => st = [.bool false] ∧ ST w0 w (rpL b a c (i + 2) T (It.cells b4 aggC ty.string :: It.cells b3 zItC ty.api_Item :: It.cells b2 zItC ty.api_Item :: H)), IFB_eq (fun h => by cases h) (fun _ => ⟨rfl, S6⟩), ?_⟩))⟩⟩
      rintro _ w8 ⟨hst, S8⟩
      cases hst
      refine S8.sto 3 rfl (i := 1) (cs' := #[.string E0, .int .i64 3, .int .i64 0, .string E0, .int .i64 0, .int .i64 0, .string E0, .slice none 0 0]) (by show 1 < 8; omega) (by rfl) fun w9 S9 => IFB_false ((ror_ok hT h S9).mono ?_)
      rintro _ w12 ⟨_, rfl, rfl, S12⟩
      refine ⟨_, _, _, _, _, _, _, _, rfl, stIx6 S12 3 rfl fun w18 S18 => rneedsY S18 (by omega) hT hcl fun w19 S19 => ⟨rfl, S19⟩⟩
  · refine ⟨_, S20.cell 3 rfl rfl, IFB_eq (fun h => by cases h) (fun _ => rneedsY S20 (by omega) hT has fun w28 S28 => ⟨rfl, rnameY S28 h5 hT hk.1 hk.2 fun w29 S29 => ⟨_, rfl, S29.sto 3 rfl (i := 0) (cs' := ⟨itHead (T[i + 5].2.2, 3, colX T[i + 2].2.2) none 0⟩) (by show 0 < 8; omega) rfl fun w30 S30 => ?_⟩⟩)⟩
    have S30 : ST w0 w30 (rpL b a c (i + 6) T (It.cells b4 aggC ty.string :: itI b3 (T[i + 5].2.2, 3, colX T[i + 2].2.2) none 0 :: It.cells b2 zItC ty.api_Item :: H)) := S30
    exact stI S30 3 rfl (stItm S30 4 rfl fun w38 S38 => ⟨rfl, rpL_out (rpL_out (rpL_out S38))⟩)
end
theorem type_err {cs : List Col} {x : Ex} {e : Int} (h : typeE cs x = .error e) : e ≠ 0 := by
  unfold typeE at h
  split at h
  · split at h
    · have := kind_err h; omega
    · cases h; decide
  · cases h; decide
section
variable {w : World} {q : Qu} {ai aw ag ao : Option Addr} {ci cw cg co : Nat}
end
def zCol : Value := .agg #[.string ⟨#[]⟩, .int .i64 0, .bool false]
theorem tCols : slT Tryz.prog ty.L_api_Column = some (ty.api_Column, 3, 32, zCol) := by kernel_rfl
def colsI (a : Option Addr) (c : Nat) (l : List Col) : It := It.row ty.api_Column 3 a l.length c (colsL l)
theorem cols_one (l : List Col) : ∀ u ∈ colsL l, u.oneCell' = true := by
  intro u hu
  obtain ⟨c, _, hc⟩ := List.mem_flatMap.1 hu
  simp only [colC, List.mem_cons, List.not_mem_nil, or_false] at hc
  rcases hc with rfl | rfl | rfl <;> rfl
theorem colsL_append (l m : List Col) : colsL (l ++ m) = colsL l ++ colsL m := List.flatMap_append
structure Pl where
  cs : List Col
  q : Qu
  out : List Col
  g : Bool
def Qu0 : Qu := ⟨[], [], [], [], 0⟩
def Pl0 : Pl := ⟨[], Qu0, [], false⟩
def plL (p : Pl) (a0 : Option Addr) (c0 : Nat) (ai : Option Addr) (ci : Nat) (aw : Option Addr) (cw : Nat) (ag : Option Addr) (cg : Nat) (ao : Option Addr) (co : Nat) (a6 : Option Addr) (c6 : Nat) : List Value :=
  [.slice a0 p.cs.length c0, .slice ai p.q.it.length ci, .slice aw p.q.wh.length cw, .slice ag p.q.gr.length cg, .slice ao p.q.od.length co, .int .i64 p.q.lim, .slice a6 p.out.length c6, .bool p.g]
structure PlAt (w : World) (p : Pl) (a0 ai aw ag ao a6 : Option Addr) : Prop where
  cs : Rd w a0 (colsL p.cs)
  ncs : p.cs.length ≤ 9223372036854775807
  qcs : ∀ c ∈ p.cs, c.1.size ≤ 9223372036854775807
  q : QAt w p.q ai aw ag ao
  out : Rd w a6 (colsL p.out)
  nout : p.out.length ≤ 9223372036854775807
theorem PlAt.grown {w w' : World} {p : Pl} {a0 ai aw ag ao a6 : Option Addr} (h : PlAt w p a0 ai aw ag ao a6) (B : Below w.heap.size w w') : PlAt w' p a0 ai aw ag ao a6 :=
  ⟨h.cs.grown B, h.ncs, h.qcs, h.q.grown B, h.out.grown B, h.nout⟩
theorem qat0 (w : World) : QAt w Qu0 none none none none :=
  ⟨⟨[], Rd.nil _ _, rfl⟩, ⟨[], Rd.nil _ _, rfl⟩, ⟨[], Rd.nil _ _, rfl⟩, ⟨[], Rd.nil _ _, rfl⟩, by decide, by decide, by decide, by decide, by decide⟩
theorem plat0 (w : World) : PlAt w Pl0 none none none none none none := ⟨Rd.nil _ _, by decide, by simp [Pl0], qat0 w, Rd.nil _ _, by decide⟩
def planOf (cs : List Col) (q : Qu) : Pl × Int :=
  match makeP cs q with
  | .ok out => (⟨cs, q, out, gathersQ q⟩, 0)
  | .error e => (Pl0, e)
def MakeV (cs : List Col) (q : Qu) (w w' : World) (v : Value) : Prop := ∃ a0 c0 ai ci aw cw ag cg ao co a6 c6, v = .tuple #[.agg ⟨plL (planOf cs q).1 a0 c0 ai ci aw cw ag cg ao co a6 c6⟩, .int .i64 (planOf cs q).2] ∧ PlAt w' (planOf cs q).1 a0 ai aw ag ao a6 ∧ (planOf cs q).1.q.it.length ≤ ci ∧ Below w.heap.size w w'
def plI (b : Nat) (p : Pl) (a0 : Option Addr) (c0 : Nat) (ai : Option Addr) (ci : Nat) (aw : Option Addr) (cw : Nat) (ag : Option Addr) (cg : Nat) (ao : Option Addr) (co : Nat) (a6 : Option Addr) (c6 : Nat) : It := It.cells b ⟨plL p a0 c0 ai ci aw cw ag cg ao co a6 c6⟩ ty.api_Plan
theorem make_err {cs : List Col} {q : Qu} {e : Int} (h : makeP cs q = .error e) {w w' : World} (B : Below w.heap.size w w') :
    MakeV cs q w w' (.tuple #[.agg #[.slice none 0 0, .slice none 0 0, .slice none 0 0, .slice none 0 0, .slice none 0 0, .int .i64 0, .slice none 0 0, .bool false], .int .i64 e]) := by
  have hp : planOf cs q = (Pl0, e) := by rw [planOf, h]
  unfold MakeV
  rw [hp]
  exact ⟨none, 0, none, 0, none, 0, none, 0, none, 0, none, 0, rfl, plat0 w', Nat.le_refl _, B⟩
theorem at_drop {α : Type} {l : List α} {i : Nat} (hi : i < l.length) : l = l.take i ++ l[i] :: l.drop (i + 1) := by rw [List.getElem_cons_drop, List.take_append_drop]
section
variable {cs : List Col} {q : Qu} (h1 : rightCols cs = true) (h2 : rightQ q = true)
include h1 h2
end
theorem item_err {cs : List Col} {q : Qu} {i : Nat} {x : Itm} {e : Int} (h : itemP cs q i x = .error e) : e ≠ 0 := by
  have hK : ∀ k, itemK q i x k = .error e → e ≠ 0 := by
    intro k h
    unfold itemK at h
    split at h
    · cases h; decide
    · split at h
      · cases h; decide
      · cases h
  unfold itemP at h
  split at h
  · exact hK _ h
  · split at h
    · rename_i hT
      cases h
      exact type_err hT
    · exact hK _ h
section
variable {w : World} {q : Qu} {ai aw ag ao : Option Addr} {ci cw cg co : Nat}
end
section
variable {w : World} {p : Pl} {a0 ai aw ag ao a6 b0 bi bw bg bo b6 : Option Addr} {c0 ci cw cg co c6 d0 di dw dg d_o d6 : Nat}
end
def ux (cs : List Col) (c : Nat) (x : Ex) : Bool := x.formed && x.names.any fun s => decide (findC cs s = some c)
theorem uses_any {x : Ex} {t : List ByteArray} (h : IsRise (usesL x) (t.map bl)) (p : ByteArray → Bool) : t.any p = (x.formed && x.names.any p) := by
  have hm : ∀ s, s ∈ t ↔ x.formed = true ∧ s ∈ x.names := by
    intro s
    have hi : ∀ l : List ByteArray, bl s ∈ l.map bl ↔ s ∈ l := fun l => ⟨fun h => by obtain ⟨y, hy, he⟩ := List.mem_map.1 h; rw [← bl_inj he]; exact hy, fun h => List.mem_map.2 ⟨s, h, rfl⟩⟩
    rw [← hi, h.mem]
    unfold usesL
    split
    · rename_i hf; rw [hi]; exact ⟨fun h => ⟨hf, h⟩, fun h => h.2⟩
    · rename_i hf; exact ⟨fun h => by simp at h, fun h => absurd h.1 hf⟩
  rw [Bool.eq_iff_iff]
  simp only [List.any_eq_true, Bool.and_eq_true]
  constructor
  · rintro ⟨s, hs, hp⟩; exact ⟨((hm s).1 hs).1, s, ((hm s).1 hs).2, hp⟩
  · rintro ⟨hf, s, hs, hp⟩; exact ⟨s, (hm s).2 ⟨hf, hs⟩, hp⟩
def NeedsV (cs : List Col) (q : Qu) (w w' : World) (v : Value) : Prop := ∃ a c, v = .slice a (neededL cs q).length c ∧ Rd w' a (((neededL cs q).map fun n : Nat => (n : Int)).map (Value.int .i64)) ∧ Below w.heap.size w w'
section
variable {w : World} {p : Pl} {a0 ai aw ag ao a6 : Option Addr} {c0 ci cw cg co c6 : Nat}
end
end Go.Proofs.YtbpdfpfgijhokaaGreatDoor
namespace Go.Proofs.YtbpdfpfgijhokaaGreatDoor
set_option maxRecDepth 100000
open Go.Dn Go.Proofs
open Go.RowKit (Below)
open Go.Sort (putRow putCells Holds)
set_option linter.unusedVariables false
section
variable {w0 w : World} {H : List It} {a : Option Addr} {c : Nat}
theorem sortI_ok (S : ST w0 w H) (n : Nat) {xs : List Int} (hn : H[n]? = some (intsI a c xs)) (hl : xs.length ≤ 1000000000) : Calls Tryz.prog f.slices_Sort_int_int #[.slice a xs.length c] w (Ret fun v w' => v = .tuple #[] ∧ ST w0 w' (H.set n (intsI a c (xs.mergeSort fun x y => decide (x ≤ y))))) := by
  have hR : Row w ty.int 1 a xs.length c (xs.map (Value.int .i64)) := S.get n hn
  have hset : H.set n (intsI a c xs) = H := set_self hn
  have hnone : xs = [] → Calls Tryz.prog f.slices_Sort_int_int #[.slice a xs.length c] w (Ret fun v w' => v = .tuple #[] ∧ ST w0 w' (H.set n (intsI a c (xs.mergeSort fun x y => decide (x ≤ y))))) := by
    rintro rfl
    refine (Tryz.slices_Sort_int_none a c w).mono ?_
    rintro _ w' ⟨rfl, rfl⟩
    exact ⟨_, rfl, rfl, by rw [List.mergeSort_nil, hset]; exact S⟩
  rcases a with _ | ⟨g, o, idx⟩
  · refine hnone ?_
    rcases hR.2 with ⟨_, h, _⟩ | ⟨_, _, h, _⟩
    · exact List.eq_nil_of_length_eq_zero h
    · cases h
  · have hgo : o = 0 ∧ idx = none := by
      rcases hR.2 with ⟨h, _⟩ | ⟨_, _, h, _⟩
      · cases h
      · cases h; exact ⟨rfl, rfl⟩
    obtain ⟨rfl, rfl⟩ := hgo
    obtain ⟨hH, hg, hlen, hcap⟩ := holds_row (Value.int .i64) hR
    refine (Tryz.slices_Sort_int g 0 c xs w hH hg (by omega)).mono ?_
    rintro _ w' ⟨rfl, m, os, rfl⟩
    have hml : (xs.mergeSort fun x y => decide (x ≤ y)).length = xs.length := List.length_mergeSort ..
    refine ⟨_, rfl, rfl, ?_⟩
    refine S.chg n hn (put_keeps (Value.int .i64) w g m _ os) _ ?_ (fun k hk => .inl hk)
    show Row _ ty.int 1 _ _ c _
    have := row_put (Value.int .i64) (m := m) (os := os) (xs.mergeSort fun x y => decide (x ≤ y)) (k := xs.length) hR (by omega) (by omega)
    rw [List.take_of_length_le (by omega)] at this
    rw [hml]
    exact this
theorem compactI_ok (S : ST w0 w H) (n : Nat) {xs : List Int} (hn : H[n]? = some (intsI a c xs)) (hl : xs.length ≤ 1000000000) : Calls Tryz.prog f.slices_Compact_int_int #[.slice a xs.length c] w (Ret fun v w' => v = .slice a (Lib.compact xs).length c ∧ ST w0 w' (H.set n (intsI a c (Lib.compact xs)))) := by
  have hR : Row w ty.int 1 a xs.length c (xs.map (Value.int .i64)) := S.get n hn
  have hset : H.set n (intsI a c xs) = H := set_self hn
  have hnone : xs = [] → Calls Tryz.prog f.slices_Compact_int_int #[.slice a xs.length c] w (Ret fun v w' => v = .slice a (Lib.compact xs).length c ∧ ST w0 w' (H.set n (intsI a c (Lib.compact xs)))) := by
    rintro rfl
    refine (Tryz.slices_Compact_int_empty a c w).mono ?_
    rintro _ w' ⟨rfl, rfl⟩
    have : Lib.compact ([] : List Int) = [] := rfl
    exact ⟨_, rfl, by rw [this]; rfl, by rw [this, hset]; exact S⟩
  rcases a with _ | ⟨g, o, idx⟩
  · refine hnone ?_
    rcases hR.2 with ⟨_, h, _⟩ | ⟨_, _, h, _⟩
    · exact List.eq_nil_of_length_eq_zero h
    · cases h
  · have hgo : o = 0 ∧ idx = none := by
      rcases hR.2 with ⟨h, _⟩ | ⟨_, _, h, _⟩
      · cases h
      · cases h; exact ⟨rfl, rfl⟩
    obtain ⟨rfl, rfl⟩ := hgo
    obtain ⟨hH, hg, hlen, hcap⟩ := holds_row (Value.int .i64) hR
    refine (Tryz.slices_Compact_int g 0 c xs w hH (by omega) (by omega)).mono ?_
    rintro _ w' ⟨rfl, m, rfl⟩
    have hcl : (Lib.compact xs).length ≤ xs.length := by
      have := List.length_filter_le (Lib.keeps xs.toArray) (List.range xs.length)
      unfold Lib.compact Lib.compactUpTo
      rw [List.length_map]
      rw [List.length_range] at this
      exact this
    refine ⟨_, rfl, rfl, ?_⟩
    have ew : putRow (Value.int .i64) (Go.Sort.ahead w m) g 0 (Lib.compact xs ++ List.replicate (xs.length - (Lib.compact xs).length) 0).toArray = Go.Sort.grow (putRow (Value.int .i64) (Go.Sort.ahead w m) g 0 (Lib.compact xs ++ List.replicate (xs.length - (Lib.compact xs).length) 0).toArray) #[] := (grow_nil _).symm
    rw [ew]
    refine S.chg n hn (put_keeps (Value.int .i64) w g m _ #[]) _ ?_ (fun k hk => .inl hk)
    show Row _ ty.int 1 _ _ c _
    have := row_put (Value.int .i64) (m := m) (os := #[]) (Lib.compact xs ++ List.replicate (xs.length - (Lib.compact xs).length) 0) (k := (Lib.compact xs).length) hR (by simp; omega) (by simp)
    rw [List.take_left' rfl] at this
    exact this
end
theorem compactI_up (l : List Int) : (Lib.compact (l.mergeSort fun x y => decide (x ≤ y))).Pairwise (· < ·) ∧ ∀ x, x ∈ Lib.compact (l.mergeSort fun x y => decide (x ≤ y)) ↔ x ∈ l := by
  have hs := List.pairwise_mergeSort (le := fun x y : Int => decide (x ≤ y)) (fun a b c h1 h2 => by simp only [decide_eq_true_eq] at *; omega) (fun a b => by simp only [Bool.or_eq_true, decide_eq_true_eq]; omega) l
  have hp := List.mergeSort_perm l (fun x y : Int => decide (x ≤ y))
  obtain ⟨h1, h2⟩ := compact_sorted (fun a b : Int => a ≤ b) (fun a b c h1 h2 => by omega) (fun a b h1 h2 => by omega) (l.mergeSort fun x y => decide (x ≤ y)) (hs.imp fun h => by simpa using h)
  exact ⟨h1.imp fun h => by omega, fun x => (h2 x).trans hp.mem_iff⟩
end Go.Proofs.YtbpdfpfgijhokaaGreatDoor
namespace Go.Proofs.YtbpdfpfgijhokaaGreatDoor
set_option maxRecDepth 100000
open Go.Dn Go.Proofs
open Go.RowKit (Below)
set_option linter.unusedVariables false
/-! ### plain -/
abbrev Prt := Int × Bool × Ex
def itPrts (i : Nat) : List Itm → List Prt
  | [] => []
  | x :: l => ((i : Int), false, x.2.2) :: itPrts (i + 1) l
def prts (q : Qu) : List Prt := q.wh.map (fun x => (-1, true, x)) ++ q.gr.map (fun x => (-1, false, x)) ++ itPrts 0 q.it
theorem itPrts_append : ∀ (l m : List Itm) (i : Nat), itPrts i (l ++ m) = itPrts i l ++ itPrts (i + l.length) m
  | [], m, i => rfl
  | x :: l, m, i => by
    simp only [List.cons_append, itPrts, itPrts_append l m (i + 1), List.length_cons]
    rw [show i + 1 + l.length = i + (l.length + 1) by omega]
theorem itPrts_x : ∀ (l : List Itm) (i : Nat), (itPrts i l).map (·.2.2) = l.map (·.2.2)
  | [], _ => rfl
  | x :: l, i => by simp only [itPrts, List.map_cons, itPrts_x l (i + 1)]
theorem prts_x (q : Qu) : (prts q).map (·.2.2) = partsQ q := by
  unfold prts partsQ
  rw [List.map_append, List.map_append, itPrts_x, List.map_map, List.map_map]
  have h1 : ((fun p : Prt => p.2.2) ∘ fun x => ((-1, true, x) : Prt)) = id := rfl
  have h2 : ((fun p : Prt => p.2.2) ∘ fun x => ((-1, false, x) : Prt)) = id := rfl
  rw [h1, h2, List.map_id, List.map_id]
def stepP (cs : List Col) (q : Qu) (p : Prt) : Except Int (List Col) :=
  if p.1 < 0 then
    match typeE cs p.2.2 with
    | .error e => .error e
    | .ok k => if p.2.1 = true ∧ k ≠ 2 ∧ k ≠ 0 then .error 121 else .ok []
  else match q.it[p.1.toNat]? with
    | none => .ok []
    | some x => match itemP cs q p.1.toNat x with
      | .error e => .error e
      | .ok c => .ok [c]
def runP (cs : List Col) (q : Qu) : List Prt → Except Int (List Col)
  | [] => .ok []
  | p :: l => match stepP cs q p with
    | .error e => .error e
    | .ok c => match runP cs q l with
      | .error e => .error e
      | .ok r => .ok (c ++ r)
theorem step_err {cs : List Col} {q : Qu} {p : Prt} {e : Int} (h : stepP cs q p = .error e) : e ≠ 0 := by
  unfold stepP at h
  split at h
  · split at h
    · rename_i hT; cases h; exact type_err hT
    · split at h
      · cases h; decide
      · cases h
  · split at h
    · cases h
    · split at h
      · rename_i hT; cases h; exact item_err hT
      · cases h
theorem run_bad {cs : List Col} {q : Qu} {p : Prt} {e : Int} (hp : stepP cs q p = .error e) : ∀ {l m : List Prt} {r : List Col}, runP cs q l = .ok r → runP cs q (l ++ p :: m) = .error e
  | [], m, r, h => by simp only [List.nil_append, runP, hp]
  | x :: l, m, r, h => by
    rw [List.cons_append]
    unfold runP at h ⊢
    split at h
    · cases h
    · rename_i c hc
      split at h
      · cases h
      · rename_i r' hr
        simp only [run_bad hp hr]
theorem run_snoc {cs : List Col} {q : Qu} {p : Prt} {c : List Col} (hp : stepP cs q p = .ok c) : ∀ {l : List Prt} {r : List Col}, runP cs q l = .ok r → runP cs q (l ++ [p]) = .ok (r ++ c)
  | [], r, h => by cases h; simp only [List.nil_append, runP, hp, List.append_nil]
  | x :: l, r, h => by
    rw [List.cons_append]
    unfold runP at h ⊢
    split at h
    · cases h
    · rename_i c' hc
      split at h
      · cases h
      · rename_i r' hr
        cases h
        simp only [run_snoc hp hr, List.append_assoc]
theorem run_where {cs : List Col} {q : Qu} : ∀ (l : List Ex) (m : List Prt), runP cs q (l.map (fun x => ((-1, true, x) : Prt)) ++ m) = match whereP cs l with | some e => .error e | none => runP cs q m
  | [], m => rfl
  | x :: l, m => by
    simp only [List.map_cons, List.cons_append, runP, stepP, whereP, run_where l m]
    rw [if_pos (by decide)]
    cases hT : typeE cs x with
    | error e => rfl
    | ok k =>
      simp only [true_and]
      by_cases hk : k ≠ 2 ∧ k ≠ 0
      · rw [if_pos hk, if_pos hk]
      · rw [if_neg hk, if_neg hk]
        cases whereP cs l with
        | some e => rfl
        | none => simp only [List.nil_append] <;> (cases runP cs q m <;> rfl)
theorem run_group {cs : List Col} {q : Qu} : ∀ (l : List Ex) (m : List Prt), runP cs q (l.map (fun x => ((-1, false, x) : Prt)) ++ m) = match groupP cs l with | some e => .error e | none => runP cs q m
  | [], m => rfl
  | x :: l, m => by
    simp only [List.map_cons, List.cons_append, runP, stepP, groupP, run_group l m]
    rw [if_pos (by decide)]
    cases hT : typeE cs x with
    | error e => rfl
    | ok k =>
      simp only [Bool.false_eq_true, false_and, if_false]
      cases groupP cs l with
      | some e => rfl
      | none => simp only [List.nil_append] <;> (cases runP cs q m <;> rfl)
theorem run_items {cs : List Col} {q : Qu} : ∀ (l : List Itm) (i : Nat), (∀ j (h : j < l.length), q.it[i + j]? = some l[j]) → runP cs q (itPrts i l) = itemsP cs q i l
  | [], i, _ => rfl
  | x :: l, i, h => by
    simp only [itPrts, runP, stepP, itemsP]
    rw [if_neg (by omega), Int.toNat_natCast]
    have h0 := h 0 (by simp)
    simp only [Nat.add_zero, List.getElem_cons_zero] at h0
    rw [h0, run_items l (i + 1) fun j hj => by
      have := h (j + 1) (by simpa using hj)
      simp only [List.getElem_cons_succ] at this
      rwa [show i + 1 + j = i + (j + 1) by omega]]
    simp only
    cases itemP cs q i x with
    | error e => rfl
    | ok c => simp only <;> (cases itemsP cs q (i + 1) l <;> rfl)
theorem run_make {cs : List Col} {q : Qu} (h1 : rightCols cs = true) (h2 : rightQ q = true) : runP cs q (prts q) = makeP cs q := by
  unfold prts makeP
  rw [if_neg (by rw [h1]; decide), if_neg (by rw [h2]; decide), List.append_assoc, run_where, run_group, run_items q.it 0 fun j h => by rw [Nat.zero_add]; exact List.getElem?_eq_getElem h]
  cases whereP cs q.wh with
  | some e => rfl
  | none => cases groupP cs q.gr <;> rfl
theorem map_at {α β : Type} (f : α → β) {l : List α} {i : Nat} (hi : i < l.length) : l.map f = (l.take i).map f ++ f l[i] :: (l.drop (i + 1)).map f := by
  conv => lhs; rw [at_drop hi]
  rw [List.map_append, List.map_cons]
theorem run_len {cs : List Col} {q : Qu} : ∀ {l : List Prt} {r : List Col}, runP cs q l = .ok r → r.length ≤ l.length
  | [], r, h => by cases h; simp
  | p :: l, r, h => by
    unfold runP at h
    split at h
    · cases h
    · rename_i c hc
      split at h
      · cases h
      · rename_i r' hr
        cases h
        have := run_len hr
        have hcl : c.length ≤ 1 := by
          unfold stepP at hc
          split at hc
          · split at hc
            · cases hc
            · split at hc <;> cases hc
              simp
          · split at hc
            · cases hc; simp
            · split at hc <;> cases hc
              simp
        simp only [List.length_append, List.length_cons]
        omega
theorem itPrts_len : ∀ (l : List Itm) (i : Nat), (itPrts i l).length = l.length
  | [], _ => rfl
  | x :: l, i => by simp only [itPrts, List.length_cons, itPrts_len l (i + 1)]
theorem prts_len {q : Qu} (h : smallQ q = true) : (prts q).length ≤ 21 := by
  have := (smallQ_iff.1 h).1
  unfold prts
  simp only [List.length_append, List.length_map, itPrts_len]
  omega
/-! ### the walk over them -/
def prtC (w0 : World) (p : Prt) (vs : List Value) : Prop := ∃ cs, vs = [.agg ⟨.int .i64 p.1 :: .bool p.2.1 :: cs⟩] ∧ XC w0 p.2.2 cs
section
variable {w0 : World} {q : Qu} {ai aw ag ao : Option Addr} {ci cw cg co : Nat}
theorem plan_parts_ok {w : World} : Calls Tryz.prog f.plan_parts #[.agg ⟨quL q ai aw ag ao ci cw cg co⟩] w (Ret fun v w' => ∃ b, v = .func (.func f.plan_parts_c1) #[] #[.pointer (some ⟨b, 0, none⟩)] ∧ ST w w' [quI b q ai aw ag ao ci cw cg co]) := by
  apply R.plan_parts_calls
  unfold R.plan_parts
  exact (ST.start w).newB fun b1 w1 _ _ S1 => ⟨b1, rfl, S1⟩
theorem parts_c1_ok {L : Nat} {I : List Prt → List It → Prop} {J : List It → Prop} (hy : Yld w0 L (prts q) (prtC w0) I J) (Q : QAt w0 q ai aw ag ao) {HN B : List It} {w : World} {b : Nat} (hI : I [] B) (S : ST w0 w (quI b q ai aw ag ao ci cw cg co :: (HN ++ B))) :
    Calls Tryz.prog f.plan_parts_c1 #[.func (.yield L) #[] #[], .pointer (some ⟨b, 0, none⟩)] w (Ret fun _ w' => ∃ B', ST w0 w' (HN ++ B') ∧ (I (prts q) B' ∨ J B')) := by
  apply R.plan_parts_c1_calls
  unfold R.plan_parts_c1
  obtain ⟨ri, hri, hCi⟩ := Q.it
  obtain ⟨rw_, hrw, hCw⟩ := Q.wh
  obtain ⟨rg, hrg, hCg⟩ := Q.gr
  refine ⟨_, _, _, S.cell 0 rfl rfl, forUp q.wh.length (fun i w => ∃ B', ST w0 w (quI b q ai aw ag ao ci cw cg co :: (HN ++ B')) ∧ I ((q.wh.take i).map fun x => (-1, true, x)) B') Q.nwh ⟨B, S, hI⟩ fun I1 M1 i w1 hi h next => ?_⟩
  obtain ⟨B1, S1, hI1⟩ := h
  refine IFB_dec (fun hlt => ⟨⟨by omega, hlt⟩, ?_⟩) (fun hge => ?_)
  · have hil : i < q.wh.length := by omega
    obtain ⟨p, a3, cap3, hp, hxk, cell⟩ := exs_at (hrw.grown S1.bel) hCw hil
    subst hp
    rw [Int.toNat_natCast]
    refine ldX cell (S1.lit6 fun b12 w8 _ S8 => stX S8 0 rfl ?_)
    have htot : prts q = (q.wh.take i).map (fun x => ((-1, true, x) : Prt)) ++ (-1, true, q.wh[i]) :: ((q.wh.drop (i + 1)).map (fun x => ((-1, true, x) : Prt)) ++ (q.gr.map (fun x => ((-1, false, x) : Prt)) ++ itPrts 0 q.it)) := by
      unfold prts
      rw [map_at (fun x => ((-1, true, x) : Prt)) hil]
      simp only [List.append_assoc, List.cons_append]
    refine (hy _ (-1, true, q.wh[i]) _ _ (exI b12 (exHead q.wh[i] a3 cap3) :: quI b q ai (some p) ag ao ci cw cg co :: HN) B1 w8 htot hI1 S8 ⟨_, rfl, hxk⟩).mono ?_
    rintro y w9 ⟨B', S9, ⟨rfl, hI9⟩ | ⟨rfl, hJ⟩⟩
    · refine IFB_not (IFB_true (next _ hil ⟨B', S9.drop 1, ?_⟩))
      rw [List.take_succ_eq_append_getElem hil, List.map_append]
      exact hI9
    · exact IFB_not (IFB_false ⟨B', S9.drop 2, .inr hJ⟩)
  have hil : q.wh.length ≤ i := by omega
  rw [List.take_of_length_le hil] at hI1
  clear next hge hi hil
  refine ⟨_, _, _, S1.cell 0 rfl rfl, forUp q.gr.length (fun i w => ∃ B', ST w0 w (quI b q ai aw ag ao ci cw cg co :: (HN ++ B')) ∧ I (q.wh.map (fun x => (-1, true, x)) ++ (q.gr.take i).map fun x => (-1, false, x)) B') Q.ngr ⟨B1, S1, by simpa using hI1⟩ fun I2 M2 i w2 hi h next => ?_⟩
  obtain ⟨B2, S2, hI2⟩ := h
  refine IFB_dec (fun hlt => ⟨⟨by omega, hlt⟩, ?_⟩) (fun hge => ?_)
  · have hil : i < q.gr.length := by omega
    obtain ⟨p, a3, cap3, hp, hxk, cell⟩ := exs_at (hrg.grown S2.bel) hCg hil
    subst hp
    rw [Int.toNat_natCast]
    refine ldX cell (S2.lit6 fun b12 w8 _ S8 => stX S8 0 rfl ?_)
    have htot : prts q = (q.wh.map (fun x => ((-1, true, x) : Prt)) ++ (q.gr.take i).map fun x => (-1, false, x)) ++ (-1, false, q.gr[i]) :: ((q.gr.drop (i + 1)).map (fun x => ((-1, false, x) : Prt)) ++ itPrts 0 q.it) := by
      unfold prts
      rw [map_at (fun x => ((-1, false, x) : Prt)) hil]
      simp only [List.append_assoc, List.cons_append]
    refine (hy _ (-1, false, q.gr[i]) _ _ (exI b12 (exHead q.gr[i] a3 cap3) :: quI b q ai aw (some p) ao ci cw cg co :: HN) B2 w8 htot hI2 S8 ⟨_, rfl, hxk⟩).mono ?_
    rintro y w9 ⟨B', S9, ⟨rfl, hI9⟩ | ⟨rfl, hJ⟩⟩
    · refine IFB_not (IFB_true (next _ hil ⟨B', S9.drop 1, ?_⟩))
      rw [List.take_succ_eq_append_getElem hil, List.map_append, ← List.append_assoc]
      exact hI9
    · exact IFB_not (IFB_false ⟨B', S9.drop 2, .inr hJ⟩)
  have hil : q.gr.length ≤ i := by omega
  rw [List.take_of_length_le hil] at hI2
  clear next hge hi hil
  refine ⟨_, _, _, S2.cell 0 rfl rfl, forUp q.it.length (fun i w => ∃ B', ST w0 w (quI b q ai aw ag ao ci cw cg co :: (HN ++ B')) ∧ I (q.wh.map (fun x => (-1, true, x)) ++ q.gr.map (fun x => (-1, false, x)) ++ itPrts 0 (q.it.take i)) B') Q.nit ⟨B2, S2, by simpa [itPrts] using hI2⟩ fun I3 M3 i w3 hi h next => ?_⟩
  obtain ⟨B3, S3, hI3⟩ := h
  refine IFB_dec (fun hlt => ⟨⟨by omega, hlt⟩, ?_⟩) (fun hge => ?_)
  · have hil : i < q.it.length := by omega
    obtain ⟨p, a3, cap3, hp, hxk, hsz, cell⟩ := item_at (hri.grown S3.bel) hCi hil
    subst hp
    rw [Int.toNat_natCast]
    refine ldI cell (S3.lit8 fun b12 w8 _ S8 => ?_)
    have S8 : ST w0 w8 (itI b12 q.it[i] a3 cap3 :: quI b q (some p) aw ag ao ci cw cg co :: (HN ++ B3)) := S8
    refine stIx S8 0 rfl ?_
    have hlen : (q.it.take i).length = i := by rw [List.length_take]; omega
    have hone : itPrts 0 (q.it.take (i + 1)) = itPrts 0 (q.it.take i) ++ [((i : Int), false, q.it[i].2.2)] := by
      rw [List.take_succ_eq_append_getElem hil, itPrts_append, hlen, Nat.zero_add]
      rfl
    have htot : prts q = (q.wh.map (fun x => ((-1, true, x) : Prt)) ++ q.gr.map (fun x => (-1, false, x)) ++ itPrts 0 (q.it.take i)) ++ ((i : Int), false, q.it[i].2.2) :: itPrts (i + 1) (q.it.drop (i + 1)) := by
      unfold prts
      conv => lhs; rw [at_drop hil]
      rw [itPrts_append, hlen, Nat.zero_add]
      simp [List.append_assoc, itPrts]
    refine (hy _ ((i : Int), false, q.it[i].2.2) _ _ (itI b12 q.it[i] a3 cap3 :: quI b q (some p) aw ag ao ci cw cg co :: HN) B3 w8 htot hI3 S8 ⟨_, rfl, hxk⟩).mono ?_
    rintro y w9 ⟨B', S9, ⟨rfl, hI9⟩ | ⟨rfl, hJ⟩⟩
    · refine IFB_not (IFB_true (next _ hil ⟨B', S9.drop 1, ?_⟩))
      rw [hone, ← List.append_assoc]
      exact hI9
    · exact IFB_not (IFB_false ⟨B', S9.drop 2, .inr hJ⟩)
  have hil : q.it.length ≤ i := by omega
  rw [List.take_of_length_le hil] at hI3
  exact ⟨B3, S3.drop 1, .inl hI3⟩
end
/-! ### an item, an expression -/
def plnI (b : Nat) (p : Pl) (a0 : Option Addr) (c0 : Nat) (ai : Option Addr) (ci : Nat) (aw : Option Addr) (cw : Nat) (ag : Option Addr) (cg : Nat) (ao : Option Addr) (co : Nat) (a6 : Option Addr) (c6 : Nat) : It := It.cells b ⟨plL p a0 c0 ai ci aw cw ag cg ao co a6 c6⟩ ty.plan_planner
theorem plan_orInt_ok (w : World) (k : Int) : Calls Tryz.prog f.plan_orInt #[.int .i64 k] w (Ret fun r w' => r = .int .i64 (orInt k) ∧ w' = w) := by
  apply R.plan_orInt_calls
  unfold R.plan_orInt
  exact IFB_eq (fun h => ⟨by rw [orInt, if_pos h], rfl⟩) (fun h => ⟨by rw [orInt, if_neg h], rfl⟩)
theorem RowsC.take {α : Type} {C : α → List Value → Prop} {n : Nat} (hn : ∀ x c, C x c → c.length = n) {l : List α} {cs : List Value} (h : RowsC C l cs) (i : Nat) : RowsC C (l.take i) (cs.take (i * n)) := by
  have hl := RowsC.len hn h
  have hm : min i l.length * n = min (i * n) (l.length * n) := by
    rcases Nat.le_total i l.length with h | h
    · rw [Nat.min_eq_left h, Nat.min_eq_left (Nat.mul_le_mul_right _ h)]
    · rw [Nat.min_eq_right h, Nat.min_eq_right (Nat.mul_le_mul_right _ h)]
  refine RowsC.of (n := n) (by rw [List.length_take, List.length_take, hl, hm]) fun j hj => ?_
  rw [List.length_take] at hj
  have := h.get hn j (by omega)
  rw [List.getElem_take]
  rw [List.drop_take, List.take_take, Nat.min_eq_left]
  · exact this
  · have : (j + 1) * n ≤ i * n := Nat.mul_le_mul_right _ (by omega)
    rw [Nat.add_mul] at this
    omega
section
variable {w w0 : World} {q : Qu} {ai aw ag ao : Option Addr} {ci cw cg co : Nat} {H : List It} {cs : List Col} {a0 a6 : Option Addr} {c0 c6 b : Nat} {out : List Col} {g : Bool}
theorem item_c1_ok (E : Env w) (n : Nat) {x : Itm} {a3 : Option Addr} {cap3 b15 : Nat} (S : ST w0 w H) (hn : H[n]? = some (itI b15 x a3 cap3)) (hx : XC w x.2.2 (exHead x.2.2 a3 cap3)) {y : Ex} {c : List Value} (hy : XC w y c) :
    Calls Tryz.prog f.plan_planner_item_c1 #[.agg ⟨c⟩, .pointer (some ⟨b15, 0, none⟩)] w (Ret fun r w' => r = .bool (sameF x.2.2 y) ∧ Below w.heap.size w w') := by
  obtain ⟨a4, cap4, _, rfl, _⟩ := ExC.open hy
  apply R.plan_planner_item_c1_calls
  unfold R.plan_planner_item_c1
  refine S.newB fun b8 w1 _ B1 S1 => stIx S1 (n + 1) hn (stX S1 0 rfl (S1.call (expr_Same_ok (E.grown B1) (hx.grown B1) (hy.grown B1)) fun w2 B2 _ => ⟨_, rfl, rfl, below_j B1 B2⟩))
theorem item_c2_ok (n : Nat) {x : Itm} {a3 : Option Addr} {cap3 b15 : Nat} (S : ST w0 w H) (hn : H[n]? = some (itI b15 x a3 cap3)) {wc : World} {y : Itm} {c : List Value} (hy : ItC (fun _ => False) wc y c) :
    Calls Tryz.prog f.plan_planner_item_c2 #[.agg ⟨c⟩, .pointer (some ⟨b15, 0, none⟩)] w (Ret fun r w' => r = .bool (decide (y.1 = x.1)) ∧ Below w.heap.size w w') := by
  obtain ⟨ce, rfl, hx2, _⟩ := hy
  obtain ⟨a4, cap4, _, rfl, _⟩ := ExC.open hx2
  apply R.plan_planner_item_c2_calls
  unfold R.plan_planner_item_c2
  refine S.newB fun b8 w1 _ B1 S1 => ⟨_, S1.cell 0 rfl rfl, _, S1.cell (n + 1) hn rfl, by rw [bytesEq_iff], B1⟩
end
end Go.Proofs.YtbpdfpfgijhokaaGreatDoor
namespace Go.Proofs.YtbpdfpfgijhokaaGreatDoor
set_option maxRecDepth 100000
open Go.Dn Go.Proofs
open Go.RowKit (Below)
set_option linter.unusedVariables false
section
variable {w w0 : World} {q : Qu} {ai aw ag ao : Option Addr} {ci cw cg co : Nat} {H : List It} {cs : List Col} {a0 a6 : Option Addr} {c0 c6 b : Nat} {out : List Col}
def StepV (w0 : World) (q : Qu) (ai aw ag ao : Option Addr) (ci cw cg co : Nat) (H : List It) (cs : List Col) (a0 a6 : Option Addr) (c0 c6 b : Nat) (out : List Col) (r : Except Int (List Col)) (v : Value) (w' : World) : Prop :=
  match r with
  | .error e => v = .int .i64 e ∧ ST w0 w' (plnI b ⟨cs, q, out, gathersQ q⟩ a0 c0 ai ci aw cw ag cg ao co a6 c6 :: colsI a6 c6 out :: H)
  | .ok l => ∃ a' c', v = .int .i64 0 ∧ ST w0 w' (plnI b ⟨cs, q, out ++ l, gathersQ q⟩ a0 c0 ai ci aw cw ag cg ao co a' c' :: colsI a' c' (out ++ l) :: H)
def oneC : Except Int Col → Except Int (List Col)
  | .error e => .error e
  | .ok c => .ok [c]
theorem planner_item_ok (E : Env w0) (Q : QAt w0 q ai aw ag ao) (hci : q.it.length ≤ ci) (S : ST w0 w (plnI b ⟨cs, q, out, gathersQ q⟩ a0 c0 ai ci aw cw ag cg ao co a6 c6 :: colsI a6 c6 out :: H)) {i : Nat} (hi : i < q.it.length) (ho : out.length ≤ 1000) (k : Int) :
    Calls Tryz.prog f.plan_planner_item #[.pointer (some ⟨b, 0, none⟩), .int .i64 (i : Int), .int .i64 k] w (Ret fun v w' => StepV w0 q ai aw ag ao ci cw cg co H cs a0 a6 c0 c6 b out (oneC (itemK q i q.it[i] k)) v w') := by
  apply R.plan_planner_item_calls
  unfold R.plan_planner_item
  obtain ⟨ri, hri, hCi⟩ := Q.it
  obtain ⟨rg, hrg, hCg⟩ := Q.gr
  obtain ⟨x, hxe⟩ : ∃ x, x = q.it[i] := ⟨_, rfl⟩
  refine ⟨_, _, _, S.cell 0 rfl rfl, ⟨by omega, by show (i : Int) < (q.it.length : Int); omega⟩, ?_⟩
  obtain ⟨p, a3, cap3, hpa, hxk, hsz, cell⟩ := item_at (hri.grown S.bel) hCi hi
  rw [← hxe] at hxk cell ⊢
  subst hpa
  rw [Int.toNat_natCast]
  refine ldI cell (S.lit8 fun b15 w9 _ S9 => ?_)
  obtain ⟨K, hK⟩ : ∃ K, K = itI b15 x a3 cap3 :: plnI b ⟨cs, q, out, gathersQ q⟩ a0 c0 (some p) ci aw cw ag cg ao co a6 c6 :: colsI a6 c6 out :: H := ⟨_, rfl⟩
  have S9 : ST w0 w9 K := by rw [hK]; exact S9
  have k0 : K[0]? = some (itI b15 x a3 cap3) := by rw [hK]; rfl
  have k1 : K[1]? = some (plnI b ⟨cs, q, out, gathersQ q⟩ a0 c0 (some p) ci aw cw ag cg ao co a6 c6) := by rw [hK]; rfl
  have hd : K.drop 1 = plnI b ⟨cs, q, out, gathersQ q⟩ a0 c0 (some p) ci aw cw ag cg ao co a6 c6 :: colsI a6 c6 out :: H := by rw [hK]; rfl
  refine ⟨fun st w => st = [.int .i64 (if x.2.1 = 1 ∨ x.2.1 = 2 then 1 else k)] ∧ ¬ (x.2.1 = 3 ∧ orInt k ≠ 1) ∧ ¬ ((gathersQ q = true ∧ x.2.1 = 0 ∧ amongX x.2.2 q.gr = false) ∨ ((q.it.take i).any fun y => decide (y.1 = x.1)) = true) ∧ ST w0 w K,
    ⟨fun st w => st = [.bool (decide (x.2.1 = 3 ∧ orInt k ≠ 1))] ∧ ST w0 w K, ⟨_, S9.cell 0 k0 rfl, IFB_eq (fun h3 => S9.call0 (plan_orInt_ok w9 k) ⟨_, rfl, ?_, S9⟩) (fun h3 => ⟨?_, S9⟩)⟩, ?_⟩, ?_⟩
  · change x.2.1 = 3 at h3
    rw [bne_dec]
    congr 2
    rw [decide_eq_decide]
    exact ⟨fun h => ⟨h3, h⟩, fun h => h.2⟩
  · change x.2.1 ≠ 3 at h3
    rw [decide_eq_false (fun h => h3 h.1)]
  · rintro t w11 ⟨ht, S11⟩
    obtain rfl : t = decide (x.2.1 = 3 ∧ orInt k ≠ 1) := by simpa using ht
    refine IFB_dec (fun h => ?_) (fun hno3 => ?_)
    · rw [itemK, if_pos h]
      exact ⟨rfl, hd ▸ S11.drop 1⟩
    refine ⟨fun st w => st = [.bool (decide ((gathersQ q = true ∧ x.2.1 = 0 ∧ amongX x.2.2 q.gr = false) ∨ ((q.it.take i).any fun y => decide (y.1 = x.1)) = true))] ∧ ST w0 w K,
      ⟨fun st w => st = [.bool (decide (gathersQ q = true ∧ x.2.1 = 0 ∧ amongX x.2.2 q.gr = false))] ∧ ST w0 w K, ⟨_, S11.cell 1 k1 rfl, IFB_of (fun hg => ⟨_, S11.cell 0 k0 rfl, IFB_eq (fun h0 => ⟨_, _, _, S11.cell 1 k1 rfl, ?_⟩) (fun h0 => ⟨?_, S11⟩)⟩) (fun hg => ⟨?_, S11⟩)⟩, ?_⟩, ?_⟩
    · change x.2.1 = 0 at h0
      change gathersQ q = true at hg
      refine S11.call (any_api_Expr_ok (hrg.grown S11.bel) hCg Q.ngr (by kernel_rfl) (sameF x.2.2) fun w' y c B hy hc => item_c1_ok (E.grown (S11.grown B).bel) 0 (S11.grown B) k0 (hxk.grown (S11.grown B).bel) (hc.grown (S11.grown B).bel)) fun w12 _ S12 => ⟨_, rfl, ?_, S12⟩
      show [Value.bool (!amongX x.2.2 q.gr)] = _
      congr 2
      rw [hg, h0]
      cases amongX x.2.2 q.gr <;> simp
    · change x.2.1 ≠ 0 at h0
      rw [decide_eq_false (fun h => h0 h.2.1)]
    · change gathersQ q = false at hg
      rw [decide_eq_false (fun h => by rw [hg] at h; cases h.1)]
    · rintro t w13 ⟨ht, S13⟩
      obtain rfl : t = decide (gathersQ q = true ∧ x.2.1 = 0 ∧ amongX x.2.2 q.gr = false) := by simpa using ht
      refine IFB_dec (fun h => ⟨by rw [decide_eq_true (Or.inl h)], S13⟩) (fun hno => ⟨_, _, _, S13.cell 1 k1 rfl, ⟨by omega, by omega, by omega⟩, ?_⟩)
      have e : i - 0 = (q.it.take i).length := by rw [List.length_take]; omega
      have hsl := (hri.grown S13.bel).sla 0 i ci 8 (by omega)
      rw [Nat.zero_mul, List.drop_zero, Nat.sub_zero] at hsl
      have hq8 := Q.nit
      rw [e]
      refine S13.call (any_api_Item_ok hsl (RowsC.take (fun _ _ h => ItC.len h) hCi i) (by rw [List.length_take]; omega) (by kernel_rfl) (fun y => decide (y.1 = x.1)) fun w' y c B hy hc => item_c2_ok 0 (S13.grown B) k0 hc) fun w14 _ S14 => ⟨_, rfl, ?_, S14⟩
      congr 2
      rw [Bool.eq_iff_iff, decide_eq_true_eq]
      exact ⟨.inr, fun h => h.elim (fun h => absurd h hno) id⟩
    · rintro t w15 ⟨ht, S15⟩
      obtain rfl : t = decide ((gathersQ q = true ∧ x.2.1 = 0 ∧ amongX x.2.2 q.gr = false) ∨ ((q.it.take i).any fun y => decide (y.1 = x.1)) = true) := by simpa using ht
      refine IFB_dec (fun h => ?_) (fun hno => ⟨_, S15.cell 0 k0 rfl, IFB_eq (fun h1 => ⟨?_, hno3, hno, S15⟩) (fun h1 => ⟨_, S15.cell 0 k0 rfl, IFB_eq (fun h2 => ⟨?_, hno3, hno, S15⟩) (fun h2 => ⟨?_, hno3, hno, S15⟩)⟩)⟩)
      · rw [itemK, if_neg hno3, if_pos h]
        exact ⟨rfl, hd ▸ S15.drop 1⟩
      · rw [if_pos (.inl h1)]
      · rw [if_pos (.inr h2)]
      · change x.2.1 ≠ 1 at h1
        change x.2.1 ≠ 2 at h2
        rw [if_neg (by omega)]
  rintro t w16 ⟨ht, hno3, hno, S16⟩
  obtain rfl : t = if x.2.1 = 1 ∨ x.2.1 = 2 then 1 else k := by simpa using ht
  rw [itemK, if_neg hno3, if_neg hno]
  rw [hK] at S16
  refine S16.draw fun w17 _ S17 => ⟨_, _, _, S17.cell 1 rfl rfl, _, S17.cell 0 rfl rfl, S17.call0 (plan_orInt_ok _ _) ⟨_, rfl, S17.cell 0 rfl rfl, S17.cell 1 rfl rfl, S17.newB fun b45 w19 _ _ S19 => ⟨S19.cell 2 rfl rfl, ?_⟩⟩⟩
  refine S19.app 3 rfl tCols rfl (by omega) (by omega) (S19.rdc 0 rfl) (mm := 1) rfl (by intro u hu; simp at hu; rcases hu with rfl | rfl | rfl <;> rfl) (by omega) fun a' c' w20 S20 => ⟨_, _, _, rfl, ?_⟩
  obtain ⟨cc, hcc⟩ : ∃ cc : Col, cc = (x.1, if x.2.1 = 1 ∨ x.2.1 = 2 then 1 else orInt k, true) := ⟨_, rfl⟩
  have ek : orInt (if x.2.1 = 1 ∨ x.2.1 = 2 then 1 else k) = if x.2.1 = 1 ∨ x.2.1 = 2 then 1 else orInt k := by split <;> rfl
  refine PTR_i (S20.sto 2 rfl (i := 6) (cs' := ⟨plL ⟨cs, q, out ++ [cc], gathersQ q⟩ a0 c0 (some p) ci aw cw ag cg ao co a' c'⟩) (by show 6 < 8; omega) (by simp [plL]) fun w21 S21 => ?_)
  rw [← hcc]
  refine ⟨a', c', rfl, ?_⟩
  have e : colsI a' c' (out ++ [cc]) = It.row ty.api_Column 3 a' (out.length + 1) c' (colsL out ++ [.string x.1, .int .i64 (orInt (if x.2.1 = 1 ∨ x.2.1 = 2 then 1 else k)), .bool true]) := by
    unfold colsI
    rw [colsL_append, List.length_append, ek, hcc]
    simp [colsL, colC]
  rw [e]
  exact S21.drop 2
theorem prt_mem {p : Prt} (h : p ∈ prts q) : p.1 = -1 ∨ ∃ (i : Nat) (hi : i < q.it.length), p = ((i : Int), false, q.it[i].2.2) := by
  have hI : ∀ (l : List Itm) (j : Nat), p ∈ itPrts j l → ∃ (i : Nat) (hi : i < l.length), p = (((j + i : Nat) : Int), false, l[i].2.2) := by
    intro l
    induction l with
    | nil => intro j h; cases h
    | cons x l ih =>
      intro j h
      rcases List.mem_cons.1 h with rfl | h
      · exact ⟨0, by simp, rfl⟩
      · obtain ⟨i, hi, rfl⟩ := ih _ h
        exact ⟨i + 1, by simpa using hi, by simp only [List.getElem_cons_succ]; rw [show j + 1 + i = j + (i + 1) by omega]⟩
  unfold prts at h
  rcases List.mem_append.1 h with h | h
  · rcases List.mem_append.1 h with h | h
    · obtain ⟨x, _, rfl⟩ := List.mem_map.1 h; exact .inl rfl
    · obtain ⟨x, _, rfl⟩ := List.mem_map.1 h; exact .inl rfl
  · obtain ⟨i, hi, rfl⟩ := hI q.it 0 h
    exact .inr ⟨i, hi, by rw [Nat.zero_add]⟩
def prtI (b : Nat) (p : Prt) (a : Option Addr) (cap : Nat) : It := It.cells b ⟨.int .i64 p.1 :: .bool p.2.1 :: exHead p.2.2 a cap⟩ ty.plan_part
def typed (q : Qu) (p : Prt) : Bool := decide (p.1 < 0) || (match q.it[p.1.toNat]? with | some x => decide (x.2.1 ≠ 1) | none => true)
theorem planner_check_ok (E : Env w0) (Q : QAt w0 q ai aw ag ao) (hci : q.it.length ≤ ci) (hl : Rd w a0 (colsL cs)) (hn : cs.length ≤ 9223372036854775807) (hq : ∀ c ∈ cs, c.1.size ≤ 9223372036854775807) (S : ST w0 w (plnI b ⟨cs, q, out, gathersQ q⟩ a0 c0 ai ci aw cw ag cg ao co a6 c6 :: colsI a6 c6 out :: H)) (ho : out.length ≤ 1000)
    {p : Prt} (hp : p ∈ prts q) {a3 : Option Addr} {cap3 : Nat} (hx : XC w0 p.2.2 (exHead p.2.2 a3 cap3)) :
    Calls Tryz.prog f.plan_planner_check #[.pointer (some ⟨b, 0, none⟩), .agg ⟨.int .i64 p.1 :: .bool p.2.1 :: exHead p.2.2 a3 cap3⟩] w (Ret fun v w' => StepV w0 q ai aw ag ao ci cw cg co H cs a0 a6 c0 c6 b out (stepP cs q p) v w') := by
  apply R.plan_planner_check_calls
  unfold R.plan_planner_check
  obtain ⟨ri, hri, hCi⟩ := Q.it
  have hpm := prt_mem hp
  refine S.newB fun b10 w1 _ B1 S1 => ?_
  have hl1 := hl.grown B1
  obtain ⟨K, hK⟩ : ∃ K, K = prtI b10 p a3 cap3 :: plnI b ⟨cs, q, out, gathersQ q⟩ a0 c0 ai ci aw cw ag cg ao co a6 c6 :: colsI a6 c6 out :: H := ⟨_, rfl⟩
  have S1 : ST w0 w1 K := by rw [hK]; exact S1
  have k0 : K[0]? = some (prtI b10 p a3 cap3) := by rw [hK]; rfl
  have k1 : K[1]? = some (plnI b ⟨cs, q, out, gathersQ q⟩ a0 c0 ai ci aw cw ag cg ao co a6 c6) := by rw [hK]; rfl
  have hd : K.drop 1 = plnI b ⟨cs, q, out, gathersQ q⟩ a0 c0 ai ci aw cw ag cg ao co a6 c6 :: colsI a6 c6 out :: H := by rw [hK]; rfl
  refine ⟨fun st w => ∃ k, st = [.int .i64 k] ∧ (typed q p = true → typeE cs p.2.2 = .ok k) ∧ (typed q p = false → k = 1) ∧ ST w0 w K, ⟨fun st w => st = [.bool (typed q p)] ∧ Rd w a0 (colsL cs) ∧ ST w0 w K, S1.draw fun w2 B2 S2 => ⟨_, S2.cell 0 k0 rfl, IFB_dec (fun h => ⟨?_, hl1.grown B2, S2⟩) (fun h => ?_)⟩, ?_⟩, ?_⟩
  · change p.1 < 0 at h
    rw [typed, decide_eq_true h]
    rfl
  · change ¬ p.1 < 0 at h
    rcases hpm with h1 | ⟨i, hi, rfl⟩
    · omega
    · obtain ⟨pp, a4, cap4, hpa, hxk, hsz, cell⟩ := item_at (hri.grown S2.bel) hCi hi
      subst hpa
      refine ⟨_, _, _, S2.cell 1 k1 rfl, _, S2.cell 0 k0 rfl, ⟨by show (0 : Int) ≤ (i : Int); omega, by show (i : Int) < (q.it.length : Int); omega⟩, _, by show w2.cell? ((pp.add (((i : Nat) : Int).toNat * 8)).add 1) = _; rw [Int.toNat_natCast]; exact cell 1 _ rfl, ?_, hl1.grown B2, S2⟩
      rw [typed, decide_eq_false h, Bool.false_or]
      show [Value.bool (q.it[i].2.1 != 1)] = _
      rw [bne_dec]
      simp only [Int.toNat_natCast, List.getElem?_eq_getElem hi]
  · rintro t w3 ⟨ht, hl3, S3⟩
    obtain rfl : t = typed q p := by simpa using ht
    refine IFB_of (fun h => S3.draw fun w4 B4 S4 => ⟨_, _, _, S4.cell 1 k1 rfl, _, S4.cell 0 k0 rfl, _, S4.cell 0 k0 rfl, _, S4.cell 0 k0 rfl, _, S4.cell 0 k0 rfl, _, S4.cell 0 k0 rfl, _, _, _, S4.cell 0 k0 rfl, S4.call (expr_Type_ok (E.grown S4.bel) (hl3.grown B4) hn hq (hx.grown S4.bel)) fun w5 _ S5 => ?_⟩) (fun h => ⟨1, rfl, (fun h' => by rw [h] at h'; cases h'), fun _ => rfl, S3⟩)
    cases hT : typeE cs p.2.2 with
    | ok k => exact ⟨_, _, rfl, IFB_ne (fun h => absurd rfl h) (fun _ => ⟨k, rfl, fun _ => rfl, (fun h' => by rw [h] at h'; cases h'), S5⟩)⟩
    | error e =>
      refine ⟨_, _, rfl, IFB_ne (fun _ => ?_) (fun h => absurd h (type_err hT))⟩
      have : stepP cs q p = .error e := by
        unfold stepP
        rw [hT]
        rcases hpm with h1 | ⟨i, hi, rfl⟩
        · rw [if_pos (by omega)]
        · rw [if_neg (by simp only; omega)]
          simp only [Int.toNat_natCast, List.getElem?_eq_getElem hi]
          rw [typed, decide_eq_false (by simp only; omega)] at h
          simp only [Int.toNat_natCast, List.getElem?_eq_getElem hi, Bool.false_or, decide_eq_true_eq] at h
          change typeE cs q.it[i].2.2 = _ at hT
          rw [itemP, if_neg h, hT]
      rw [this]
      exact ⟨rfl, hd ▸ S5.drop 1⟩
  rintro t w6 ⟨k, ht, hk1, hk2, S6⟩
  obtain rfl : t = k := by simpa using ht
  refine ⟨fun st w => st = [.bool (decide (p.2.1 = true ∧ t ≠ 2 ∧ t ≠ 0))] ∧ ST w0 w K, ⟨_, S6.cell 0 k0 rfl, IFB_of (fun hw => IFB_ne (fun h2 => ⟨?_, S6⟩) (fun h2 => ⟨?_, S6⟩)) (fun hw => ⟨?_, S6⟩)⟩, ?_⟩
  · change p.2.1 = true at hw
    rw [bne_dec]
    congr 2
    rw [decide_eq_decide]
    exact ⟨fun h => ⟨hw, h2, h⟩, fun h => h.2.2⟩
  · rw [decide_eq_false (fun h => h.2.1 h2)]
  · change p.2.1 = false at hw
    rw [decide_eq_false (fun h => by rw [hw] at h; cases h.1)]
  rintro t' w7 ⟨ht', S7⟩
  obtain rfl : t' = decide (p.2.1 = true ∧ t ≠ 2 ∧ t ≠ 0) := by simpa using ht'
  rcases hpm with h1 | ⟨i, hi, rfl⟩
  · have hty : typeE cs p.2.2 = .ok t := hk1 (by rw [typed, decide_eq_true (by omega)]; rfl)
    refine IFB_dec (fun h => ?_) (fun h => ⟨_, S7.cell 0 k0 rfl, IFB_dec (fun h' => absurd (show p.1 ≥ 0 from h') (by omega)) (fun _ => ?_)⟩)
    · rw [stepP, if_pos (by omega), hty]
      simp only
      rw [if_pos h]
      exact ⟨rfl, hd ▸ S7.drop 1⟩
    · rw [stepP, if_pos (by omega), hty]
      simp only
      rw [if_neg h]
      refine ⟨a6, c6, rfl, ?_⟩
      rw [List.append_nil]
      exact hd ▸ S7.drop 1
  · refine IFB_dec (fun h => by cases h.1) (fun _ => ⟨_, S7.cell 0 k0 rfl, IFB_dec (fun _ => ⟨_, S7.cell 0 k0 rfl, ?_⟩) (fun h' => absurd (show ((i : Nat) : Int) ≥ 0 by omega) h')⟩)
    have S8 : ST w0 w7 (plnI b ⟨cs, q, out, gathersQ q⟩ a0 c0 ai ci aw cw ag cg ao co a6 c6 :: colsI a6 c6 out :: H) := hd ▸ S7.drop 1
    have hst : stepP cs q ((i : Int), false, q.it[i].2.2) = oneC (itemK q i q.it[i] t) := by
      rw [stepP, if_neg (by simp only; omega)]
      simp only [Int.toNat_natCast, List.getElem?_eq_getElem hi]
      have htp : typed q ((i : Int), false, q.it[i].2.2) = decide (q.it[i].2.1 ≠ 1) := by
        rw [typed, decide_eq_false (by simp only; omega), Bool.false_or]
        simp only [Int.toNat_natCast, List.getElem?_eq_getElem hi]
      rw [htp] at hk1 hk2
      have hP : itemP cs q i q.it[i] = itemK q i q.it[i] t := by
        unfold itemP
        by_cases h1 : q.it[i].2.1 = 1
        · rw [if_pos h1, hk2 (by simp [h1])]
        · rw [if_neg h1, hk1 (by simp [h1])]
      rw [hP]
      all_goals (cases itemK q i q.it[i] t <;> rfl)
    rw [hst]
    refine (planner_item_ok E Q hci S8 hi ho t).mono ?_
    rintro _ w8 ⟨v, rfl, hv⟩
    cases hI : itemK q i q.it[i] t with
    | error e => rw [hI] at hv; obtain ⟨rfl, S9⟩ := hv; exact ⟨_, rfl, rfl, S9⟩
    | ok c => rw [hI] at hv; obtain ⟨a', c', rfl, S9⟩ := hv; exact ⟨_, rfl, a', c', rfl, S9⟩
end
section
variable {w w0 : World} {H : List It}
theorem clone_cols_ok (S : ST w0 w H) {a : Option Addr} {c : Nat} {l : List Col} (h : Rd w a (colsL l)) (hl : l.length ≤ 1000) : Calls Tryz.prog f.slices_Clone_api_Column_api_Column #[.slice a l.length c] w (Ret fun v w' => ∃ a' c', v = .slice a' l.length c' ∧ ST w0 w' (colsI a' c' l :: H)) := by
  apply R.slices_Clone_api_Column_api_Column_calls
  unfold R.slices_Clone_api_Column_api_Column
  cases a with
  | none =>
    have : l = [] := by
      cases l with
      | nil => rfl
      | cons x l =>
        obtain ⟨p, hp, _⟩ := h 0 (.string x.1) (by simp [colC])
        cases hp
    subst this
    exact IFB_true ⟨none, 0, rfl, S.nil _ _⟩
  | some q =>
    refine IFB_false (S.empty (sz := 3) fun b2 w1 B1 S => ?_)
    refine S.app 0 rfl tCols rfl (by omega) (by omega) (h.grown B1) (mm := l.length) (cols_len l) (cols_one l) (by omega) fun a' c' w' S => ⟨_, _, _, rfl, a', c', by rw [Nat.zero_add], ?_⟩
    simp only [Nat.zero_add, List.nil_append] at S
    exact S
theorem make_c1_ok {wc : World} {y : Itm} {c : List Value} (hy : ItC (fun _ => False) wc y c) : Calls Tryz.prog f.plan_Make_c1 #[.agg ⟨c⟩] w (Ret fun r w' => r = .bool (decide (y.2.1 ≠ 0)) ∧ Below w.heap.size w w') := by
  obtain ⟨ce, rfl, hx2, _⟩ := hy
  obtain ⟨a4, cap4, _, rfl, _⟩ := ExC.open hx2
  apply R.plan_Make_c1_calls
  unfold R.plan_Make_c1
  exact (ST.start w).newB fun b8 w1 _ B1 S1 => ⟨_, S1.cell 0 rfl rfl, by rw [bne_dec], B1⟩
def ptrI (b c : Nat) (t : TypeId) : It := It.cells b #[.pointer (some ⟨c, 0, none⟩)] t
def intI1 (b : Nat) (n : Int) (t : TypeId) : It := It.cells b #[.int .i64 n] t
end
section
variable {w : World} {q : Qu} {ai aw ag ao : Option Addr} {ci cw cg co : Nat}
theorem plan_Make_ok (E : Env w) {cs : List Col} {a1 : Option Addr} {c1 : Nat} (hl : Rd w a1 (colsL cs)) (hn : cs.length ≤ 9223372036854775807) (hq : ∀ c ∈ cs, c.1.size ≤ 9223372036854775807) (Q : QAt w q ai aw ag ao) (hci : q.it.length ≤ ci) :
    Calls Tryz.prog f.plan_Make #[.slice a1 cs.length c1, .agg ⟨quL q ai aw ag ao ci cw cg co⟩] w (Ret fun r w' => MakeV cs q w w' r) := by
  apply R.plan_Make_calls
  unfold R.plan_Make
  obtain ⟨ri, hri, hCi⟩ := Q.it
  refine (ST.start w).newB fun b7 w1 _ _ S1 => S1.newB fun b8 w2 _ _ S2 => S2.call (schema_Right_ok (hl.grown S2.bel) hn hq) fun w3 _ S3 => ⟨_, rfl, IFB_not (IFB_of (fun h1 => ?_) (fun h1 => stPlan S3 0 rfl fun w11 S11 => make_err (by rw [makeP, if_pos h1]) S11.bel))⟩
  have S3 : ST w w3 [It.cells b8 #[.slice none 0 0, .slice none 0 0, .slice none 0 0, .slice none 0 0, .slice none 0 0, .int .i64 0, .slice none 0 0, .bool false] ty.api_Plan, quI b7 q ai aw ag ao ci cw cg co] := S3
  refine stQ S3 1 rfl (stQ S3 1 rfl (S3.call (query_Same_self (E.grown S3.bel) (Q.grown S3.bel)) fun w12 _ S12 => ⟨_, rfl, IFB_not (IFB_of (fun h2 => ?_) (fun h2 => stPlan S12 0 rfl fun w11 S11 => make_err (by rw [makeP, if_neg (by rw [h1]; decide), if_pos h2]) S11.bel))⟩))
  have hn16 : cs.length ≤ 16 := by
    unfold rightCols at h1
    simp only [Bool.and_eq_true, decide_eq_true_eq] at h1
    exact h1.1.1.2
  have hi16 := (smallQ_iff.1 (rightQ_small h2).1).1.2.1
  obtain ⟨Z, hZ⟩ : ∃ Z, Z = It.cells b8 #[.slice none 0 0, .slice none 0 0, .slice none 0 0, .slice none 0 0, .slice none 0 0, .int .i64 0, .slice none 0 0, .bool false] ty.api_Plan := ⟨_, rfl⟩
  rw [← hZ] at S12
  refine ⟨_, _, _, S12.cell 1 rfl rfl, S12.call (any_api_Item_ok (hri.grown S12.bel) hCi Q.nit (by kernel_rfl) (fun y => decide (y.2.1 ≠ 0)) fun w' y c B hy hc => make_c1_ok hc) fun w21 _ S21 => ⟨_, rfl, ?_⟩⟩
  have hg1 : (q.it.any fun y => decide (y.2.1 ≠ 0)) = true → true = gathersQ q := fun h => by rw [gathersQ, h]; rfl
  have hg2 : (q.it.any fun y => decide (y.2.1 ≠ 0)) = false → decide ((q.gr.length : Int) > 0) = gathersQ q := fun h => by rw [gathersQ, h, Bool.false_or, decide_eq_decide]; omega
  refine ⟨fun st w' => ∃ bq bp a' c', st = [.pointer (some ⟨bq, 0, none⟩)] ∧ ST w w' [plnI bp ⟨cs, q, [], gathersQ q⟩ a' c' ai ci aw cw ag cg ao co none 0, ptrI bq bp ty.P_plan_planner, colsI a' c' cs, Z, quI b7 q ai aw ag ao ci cw cg co], S21.draw fun w22 _ S => ?_, ?_⟩
  · have five : ∀ {w'} {K : List It} (n : Nat), ST w w' K → K[n]? = some (quI b7 q ai aw ag ao ci cw cg co) → w'.cell? ⟨b7, 0, none⟩ = some (.slice ai q.it.length ci) ∧ w'.cell? ⟨b7, 1, none⟩ = some (.slice aw q.wh.length cw) ∧ w'.cell? ⟨b7, 2, none⟩ = some (.slice ag q.gr.length cg) ∧ w'.cell? ⟨b7, 3, none⟩ = some (.slice ao q.od.length co) ∧ w'.cell? ⟨b7, 4, none⟩ = some (.int .i64 q.lim) := fun n S g1 => ⟨S.cell n g1 rfl, S.cell n g1 rfl, S.cell n g1 rfl, S.cell n g1 rfl, S.cell n g1 rfl⟩
    have fst : ∀ {w'} {a' c'} {g : Bool} {k : Nat → World → Prop}, g = gathersQ q → ST w w' [colsI a' c' cs, Z, quI b7 q ai aw ag ao ci cw cg co] → (∀ bq bp w', ST w w' [plnI bp ⟨cs, q, [], gathersQ q⟩ a' c' ai ci aw cw ag cg ao co none 0, ptrI bq bp ty.P_plan_planner, colsI a' c' cs, Z, quI b7 q ai aw ag ao ci cw cg co] → k bq w') →
        NEWB #[.slice a' cs.length c', .slice ai q.it.length ci, .slice aw q.wh.length cw, .slice ag q.gr.length cg, .slice ao q.od.length co, .int .i64 q.lim, .slice none 0 0, .bool g] ty.plan_planner (fun bp w => NEWB #[.pointer none] ty.P_plan_planner (fun bq w => STO ⟨bq, 0, none⟩ (.pointer (some ⟨bp, 0, none⟩)) (fun w => k bq w) w) w) w' := fun hg S hk => by
      subst hg
      exact S.newB fun bp w1 _ _ S1 => S1.newB fun bq w2 _ _ S2 => S2.sto 0 rfl (cs' := #[.pointer (some ⟨bp, 0, none⟩)]) (by simp) rfl fun w3 S3 => hk bq bp w3 (S3.pull 1 rfl)
    have snd : ∀ {w'} {a' c'} {g : Bool} {bq : Nat} {k : World → Prop}, g = gathersQ q → ST w w' [colsI a' c' cs, It.cells bq #[.pointer none] ty.P_plan_planner, Z, quI b7 q ai aw ag ao ci cw cg co] → (∀ bp w', ST w w' [plnI bp ⟨cs, q, [], gathersQ q⟩ a' c' ai ci aw cw ag cg ao co none 0, ptrI bq bp ty.P_plan_planner, colsI a' c' cs, Z, quI b7 q ai aw ag ao ci cw cg co] → k w') →
        NEWB #[.slice a' cs.length c', .slice ai q.it.length ci, .slice aw q.wh.length cw, .slice ag q.gr.length cg, .slice ao q.od.length co, .int .i64 q.lim, .slice none 0 0, .bool g] ty.plan_planner (fun bp w => STO ⟨bq, 0, none⟩ (.pointer (some ⟨bp, 0, none⟩)) (fun w => k w) w) w' := fun hg S hk => by
      subst hg
      exact S.newB fun bp w1 _ _ S1 => S1.sto 2 rfl (cs' := #[.pointer (some ⟨bp, 0, none⟩)]) (by simp) rfl fun w3 S3 => hk bp w3 ((S3.pull 2 rfl).pull 1 rfl)
    refine stQ S 1 rfl ⟨(clone_cols_ok S (hl.grown S.bel) (by omega)).mono ?_, S.newB fun b58 w36 _ _ S36 => ⟨five 2 S36 rfl, (clone_cols_ok S36 (hl.grown S36.bel) (by omega)).mono ?_⟩⟩
    · rintro _ w23 ⟨_, rfl, a', c', rfl, S23⟩
      refine ⟨_, _, _, rfl, five 2 S23 rfl, IFB_of (fun h => ⟨fst (hg1 h) S23 fun bq bp w' S' => ⟨bq, bp, a', c', rfl, S'⟩, S23.newB fun b51 w27 _ _ S27 => ⟨five 3 S27 rfl, snd (hg1 h) (S27.pull 1 rfl) fun bp w' S' => ⟨_, bp, a', c', rfl, S'⟩⟩⟩) (fun h => ⟨_, _, _, S23.cell 2 rfl rfl, fst (hg2 h) S23 fun bq bp w' S' => ⟨bq, bp, a', c', rfl, S'⟩, S23.newB fun b51 w27 _ _ S27 => ⟨S27.cell 3 rfl rfl, five 3 S27 rfl, snd (hg2 h) (S27.pull 1 rfl) fun bp w' S' => ⟨_, bp, a', c', rfl, S'⟩⟩⟩)⟩
    · rintro _ w37 ⟨_, rfl, a', c', rfl, S37⟩
      refine ⟨_, _, _, rfl, five 3 S37 rfl, IFB_of (fun h => snd (hg1 h) S37 fun bp w' S' => ⟨_, bp, a', c', rfl, S'⟩) (fun h => ⟨_, _, _, S37.cell 3 rfl rfl, snd (hg2 h) S37 fun bp w' S' => ⟨_, bp, a', c', rfl, S'⟩⟩)⟩
  rintro pp w42 ⟨bq, bp, a', c', hst, S42⟩
  obtain rfl : pp = some ⟨bq, 0, none⟩ := by simpa using hst
  refine S42.newB fun b66 w43 _ _ S43 => S43.sto 0 rfl (cs' := #[.int .i64 0]) (by simp) rfl fun w44 S44 => ?_
  refine ⟨fun _ ms w' => ∃ m e out a6 c6, ms = [m] ∧ ((e = 0 ∧ runP cs q (prts q) = .ok out) ∨ (e ≠ 0 ∧ runP cs q (prts q) = .error e)) ∧ ST w w' [plnI bp ⟨cs, q, out, gathersQ q⟩ a' c' ai ci aw cw ag cg ao co a6 c6, colsI a6 c6 out, intI1 b66 e ty.api_Errno, ptrI bq bp ty.P_plan_planner, colsI a' c' cs, It.obj m (.deferred (some [])), Z, quI b7 q ai aw ag ao ci cw cg co], ?_, ?_⟩
  · refine stQ S44 5 rfl (plan_parts_ok.mono ?_)
    rintro _ w45 ⟨_, rfl, bx, rfl, P45⟩
    have S45 := ((S44.nil ty.api_Column 3).join P45)
    refine ⟨_, _, _, rfl, by kernel_rfl, fun rr hst hpe hy => ?_⟩
    have S46 := S45.range rr
    obtain ⟨L, hL⟩ : ∃ L, L = w45.heap.size + 1 := ⟨_, rfl⟩
    obtain ⟨m, hm⟩ : ∃ m, m = w45.heap.size := ⟨_, rfl⟩
    rw [← hL] at S46 hy ⊢
    rw [← hm] at S46 ⊢
    have S47 : ST w ((w45.alloc (.deferred (some []))).alloc (.loop rr)) (quI bx q ai aw ag ao ci cw cg co :: ([It.obj m (.deferred (some [])), Z, quI b7 q ai aw ag ao ci cw cg co] ++ [plnI bp ⟨cs, q, [], gathersQ q⟩ a' c' ai ci aw cw ag cg ao co none 0, colsI none 0 [], It.obj L (.loop rr), intI1 b66 0 ty.api_Errno, ptrI bq bp ty.P_plan_planner, colsI a' c' cs])) := by
      exact (((((((((S46.pull 7 rfl).pull 7 rfl).pull 6 rfl).pull 3 rfl).pull 6 rfl).pull 7 rfl).pull 9 rfl).pull 9 rfl).pull 8 rfl).pull 9 rfl
    refine (parts_c1_ok (I := fun done B => ∃ out a6 c6, runP cs q done = .ok out ∧ B = [plnI bp ⟨cs, q, out, gathersQ q⟩ a' c' ai ci aw cw ag cg ao co a6 c6, colsI a6 c6 out, It.obj L (.loop rr), intI1 b66 0 ty.api_Errno, ptrI bq bp ty.P_plan_planner, colsI a' c' cs])
      (J := fun B => ∃ e out a6 c6, e ≠ 0 ∧ runP cs q (prts q) = .error e ∧ B = [plnI bp ⟨cs, q, out, gathersQ q⟩ a' c' ai ci aw cw ag cg ao co a6 c6, colsI a6 c6 out, It.obj L (.loop { rr with state := .done, pending := some (.exit 1) }), intI1 b66 e ty.api_Errno, ptrI bq bp ty.P_plan_planner, colsI a' c' cs]) ?_ Q ⟨[], none, 0, rfl, rfl⟩ S47).mono ?_
    · rintro done x rest vs HN _ w6 htot ⟨out, a6, c6, hrun, rfl⟩ S ⟨cs2, rfl, hx⟩
      obtain ⟨a4, cap4, _, rfl, _⟩ := ExC.open hx
      have S := ST.mid (B := []) [plnI bp ⟨cs, q, out, gathersQ q⟩ a' c' ai ci aw cw ag cg ao co a6 c6, colsI a6 c6 out, It.obj L (.loop rr), intI1 b66 0 ty.api_Errno, ptrI bq bp ty.P_plan_planner, colsI a' c' cs] S
      have hxm : x ∈ prts q := by rw [htot]; simp
      have hol : out.length ≤ 1000 := by
        have h1 := run_len hrun
        have h2 := prts_len (rightQ_small h2).1
        have := congrArg List.length htot
        simp only [List.length_append, List.length_cons] at this
        omega
      refine hy _ _ _ _ _ _ _ _ _ _ _ w6 (S.get 2 rfl) ?_
      refine S.lit8 fun b83 w55 _ S => S.begr 3 rfl fun w56 S => ⟨_, S.cell 5 rfl rfl, _, S.cell 0 rfl rfl, _, S.cell 0 rfl rfl, _, S.cell 0 rfl rfl, _, S.cell 0 rfl rfl, _, S.cell 0 rfl rfl, _, S.cell 0 rfl rfl, _, S.cell 0 rfl rfl, _, _, _, S.cell 0 rfl rfl, ?_⟩
      have S56 := (S.pull 2 rfl).pull 2 rfl
      refine (planner_check_ok E Q hci (S.rd 6 rfl) hn hq S56 hol hxm hx).mono ?_
      rintro _ w57 ⟨v, rfl, hv⟩
      have hbad : ∀ e, stepP cs q x = .error e → runP cs q (prts q) = .error e := fun e he => by rw [htot]; exact run_bad he hrun
      cases hst2 : stepP cs q x with
      | error e =>
        rw [hst2] at hv
        obtain ⟨rfl, S57⟩ := hv
        refine ⟨_, rfl, S57.sto 4 rfl (cs' := #[.int .i64 e]) (by simp) rfl fun w58 S58 => ⟨_, S58.cell 4 rfl rfl, IFB_ne (fun _ => S58.endr1 3 rfl fun w' S' => ⟨_, ST.unmid (B := []) [plnI bp ⟨cs, q, out, gathersQ q⟩ a' c' ai ci aw cw ag cg ao co a6 c6, colsI a6 c6 out, It.obj L (.loop { rr with state := .done, pending := some (.exit 1) }), intI1 b66 e ty.api_Errno, ptrI bq bp ty.P_plan_planner, colsI a' c' cs] ((S'.pull 2 rfl).drop 1), .inr ⟨rfl, e, out, a6, c6, step_err hst2, hbad e hst2, rfl⟩⟩) (fun h => absurd h (step_err hst2))⟩⟩
      | ok l =>
        rw [hst2] at hv
        obtain ⟨a5, c5, rfl, S57⟩ := hv
        refine ⟨_, rfl, S57.sto 4 rfl (cs' := #[.int .i64 0]) (by simp) rfl fun w58 S58 => ⟨_, S58.cell 4 rfl rfl, IFB_ne (fun h => absurd rfl h) (fun _ => S58.endr0 3 hst hpe rfl fun w' S' => ⟨_, ST.unmid (B := []) [plnI bp ⟨cs, q, out ++ l, gathersQ q⟩ a' c' ai ci aw cw ag cg ao co a5 c5, colsI a5 c5 (out ++ l), It.obj L (.loop rr), intI1 b66 0 ty.api_Errno, ptrI bq bp ty.P_plan_planner, colsI a' c' cs] ((S'.pull 2 rfl).drop 1), .inl ⟨rfl, out ++ l, a5, c5, run_snoc hst2 hrun, rfl⟩⟩)⟩⟩
    · rintro _ w59 ⟨_, rfl, B', S59, ⟨out, a6, c6, hrun, rfl⟩ | ⟨e, out, a6, c6, he, hrun, rfl⟩⟩
      · have S59 := ST.mid (B := []) [plnI bp ⟨cs, q, out, gathersQ q⟩ a' c' ai ci aw cw ag cg ao co a6 c6, colsI a6 c6 out, It.obj L (.loop rr), intI1 b66 0 ty.api_Errno, ptrI bq bp ty.P_plan_planner, colsI a' c' cs] S59
        exact ⟨⟨_, rfl⟩, S59.endl0 2 hst hpe rfl fun w60 S60 => .inl ⟨rfl, m, 0, out, a6, c6, rfl, .inl ⟨rfl, hrun⟩, (S60.pull 2 rfl).drop 1⟩⟩
      · have S59 := ST.mid (B := []) [plnI bp ⟨cs, q, out, gathersQ q⟩ a' c' ai ci aw cw ag cg ao co a6 c6, colsI a6 c6 out, It.obj L (.loop { rr with state := .done, pending := some (.exit 1) }), intI1 b66 e ty.api_Errno, ptrI bq bp ty.P_plan_planner, colsI a' c' cs] S59
        exact ⟨⟨_, rfl⟩, S59.endl1 2 rfl fun w60 S60 => .inr ⟨rfl, m, e, out, a6, c6, rfl, .inr ⟨he, hrun⟩, (S60.pull 2 rfl).drop 1⟩⟩
  rintro _ w61 ⟨m, e, out, a6, c6, rfl, hrun, S61⟩
  rw [run_make h1 h2] at hrun
  rw [hZ] at S61
  refine ⟨_, S61.cell 2 rfl rfl, IFB_ne (fun he => S61.draw fun w62 _ S62 => ⟨_, S62.cell 2 rfl rfl, S62.sto8 6 rfl fun w70 S70 => ⟨S70.cell 2 rfl rfl, ?_⟩⟩) (fun he => ⟨_, S61.cell 3 rfl rfl, _, _, _, S61.cell 0 rfl rfl, _, _, _, S61.cell 0 rfl rfl, _, _, _, S61.cell 0 rfl rfl, _, _, _, S61.cell 0 rfl rfl, _, _, _, S61.cell 0 rfl rfl, _, S61.cell 0 rfl rfl, _, _, _, S61.cell 0 rfl rfl, _, S61.cell 0 rfl rfl, S61.sto8 6 rfl fun w79 S79 => ?_⟩)⟩
  · refine ST.shut (ms := [m]) (S70.pull 5 rfl) fun w71 S71 => ⟨_, _, _, S71.cell 5 rfl rfl, _, _, _, S71.cell 5 rfl rfl, _, _, _, S71.cell 5 rfl rfl, _, _, _, S71.cell 5 rfl rfl, _, _, _, S71.cell 5 rfl rfl, _, S71.cell 5 rfl rfl, _, _, _, S71.cell 5 rfl rfl, _, S71.cell 5 rfl rfl, ?_⟩
    rcases hrun with ⟨h, _⟩ | ⟨_, h⟩
    · exact absurd h he
    · exact make_err h S71.bel
  · refine ST.shut (ms := [m]) (S79.pull 5 rfl) fun w71 S71 => ⟨_, _, _, S71.cell 5 rfl rfl, _, _, _, S71.cell 5 rfl rfl, _, _, _, S71.cell 5 rfl rfl, _, _, _, S71.cell 5 rfl rfl, _, _, _, S71.cell 5 rfl rfl, _, S71.cell 5 rfl rfl, _, _, _, S71.cell 5 rfl rfl, _, S71.cell 5 rfl rfl, ?_⟩
    rcases hrun with ⟨_, h⟩ | ⟨h, _⟩
    · have hp : planOf cs q = (⟨cs, q, out, gathersQ q⟩, 0) := by rw [planOf, h]
      unfold MakeV
      rw [hp]
      have hol := makeP_len h
      exact ⟨a', c', ai, ci, aw, cw, ag, cg, ao, co, a6, c6, rfl, ⟨S71.rd 4 rfl, hn, hq, Q.grown S71.bel, S71.rd 1 rfl, by show out.length ≤ _; omega⟩, hci, S71.bel⟩
    · exact absurd he h
end
theorem up_oneI {l m : List Int} (h1 : l.Pairwise (· < ·)) (h2 : m.Pairwise (· < ·)) (hm : ∀ x, x ∈ l ↔ x ∈ m) : l = m := by
  have n1 : l.Nodup := h1.imp fun h e => by omega
  have n2 : m.Nodup := h2.imp fun h e => by omega
  have hp : l.Perm m := (List.perm_ext_iff_of_nodup n1 n2).2 hm
  exact List.Perm.eq_of_pairwise (le := fun a b => a < b) (fun a b _ _ h1 h2 => absurd h2 (by omega)) h1 h2 hp
def Places (cs : List Col) (xs : List Ex) (l : List Int) : Prop := ∀ n : Int, n ∈ l ↔ ∃ c : Nat, n = c ∧ xs.any (ux cs c) = true
theorem places_needed {cs : List Col} {q : Qu} {l : List Int} (h : Places cs (partsQ q) l) : Lib.compact (l.mergeSort fun x y => decide (x ≤ y)) = (neededL cs q).map fun n : Nat => (n : Int) := by
  obtain ⟨h1, h2⟩ := compactI_up l
  refine up_oneI h1 ?_ fun x => ?_
  · rw [List.pairwise_map]
    exact (needed_up cs q).imp fun h => by omega
  · rw [h2, h x, List.mem_map]
    constructor
    · rintro ⟨c, rfl, hc⟩; exact ⟨c, needed_mem.2 hc, rfl⟩
    · rintro ⟨c, hc, rfl⟩; exact ⟨c, rfl, needed_mem.1 hc⟩
section
variable {w : World} {p : Pl} {a0 ai aw ag ao a6 : Option Addr} {c0 ci cw cg co c6 : Nat}
theorem plan_Needs_ok (E : Env w) (A : PlAt w p a0 ai aw ag ao a6) (hs : smallQ p.q = true) : Calls Tryz.prog f.plan_Needs #[.agg ⟨plL p a0 c0 ai ci aw cw ag cg ao co a6 c6⟩] w (Ret fun r w' => NeedsV p.cs p.q w w' r) := by
  apply R.plan_Needs_calls
  unfold R.plan_Needs
  refine (ST.start w).newB fun b9 w1 _ _ S1 => S1.newB fun b10 w2 _ _ S2 => ⟨_, _, _, S2.cell 1 rfl rfl, _, _, _, S2.cell 1 rfl rfl, _, _, _, S2.cell 1 rfl rfl, _, _, _, S2.cell 1 rfl rfl, _, S2.cell 1 rfl rfl, plan_parts_ok.mono ?_⟩
  rintro _ w3 ⟨_, rfl, bx, rfl, P3⟩
  have S3 : ST w w3 [quI bx p.q ai aw ag ao ci cw cg co, intsI none 0 [], It.cells b10 #[.slice none 0 0] ty.L_int, plI b9 p a0 c0 ai ci aw cw ag cg ao co a6 c6] := (S2.nil ty.int 1).join P3
  refine ⟨_, _, _, rfl, by kernel_rfl, fun rr hst hpe hy => ?_⟩
  have S4 := S3.range rr
  obtain ⟨L, hL⟩ : ∃ L, L = w3.heap.size + 1 := ⟨_, rfl⟩
  obtain ⟨m, hm⟩ : ∃ m, m = w3.heap.size := ⟨_, rfl⟩
  rw [← hL] at S4 hy ⊢
  rw [← hm] at S4 ⊢
  have S5 : ST w ((w3.alloc (.deferred (some []))).alloc (.loop rr)) (quI bx p.q ai aw ag ao ci cw cg co :: ([It.obj m (.deferred (some []))] ++ [intsI none 0 [], It.cells b10 #[.slice none 0 0] ty.L_int, It.obj L (.loop rr), plI b9 p a0 c0 ai ci aw cw ag cg ao co a6 c6])) :=
    (((((S4.pull 5 rfl).pull 1 rfl).pull 5 rfl).pull 5 rfl).pull 4 rfl).pull 5 rfl
  have hpl := prts_len hs
  obtain ⟨M, hM⟩ : ∃ M, M = 1000000 := ⟨_, rfl⟩
  refine (parts_c1_ok (I := fun done B => ∃ (l : List Int) (sa : Option Addr) (sc : Nat), Places p.cs (done.map (·.2.2)) l ∧ l.length ≤ done.length * M ∧ B = [intsI sa sc l, It.cells b10 #[.slice sa l.length sc] ty.L_int, It.obj L (.loop rr), plI b9 p a0 c0 ai ci aw cw ag cg ao co a6 c6]) (J := fun _ => False) ?_ A.q ⟨[], none, 0, ?_, by simp, rfl⟩ S5).mono ?_
  · rintro done x rest vs HN _ w4 htot ⟨l, sa, sc, hP, hll, rfl⟩ S ⟨cs2, rfl, hx⟩
    obtain ⟨a4, cap4, _, rfl, _⟩ := ExC.open hx
    have S := ST.mid (B := []) [intsI sa sc l, It.cells b10 #[.slice sa l.length sc] ty.L_int, It.obj L (.loop rr), plI b9 p a0 c0 ai ci aw cw ag cg ao co a6 c6] S
    have hdl : done.length ≤ 21 := by
      have := congrArg List.length htot
      simp only [List.length_append, List.length_cons] at this
      omega
    have hll2 : done.length * M ≤ 21000000 := by subst hM; omega
    refine hy _ _ _ _ _ _ _ _ _ _ _ w4 (S.get 2 rfl) ?_
    refine S.lit8 fun b27 w13 _ S => S.begr 3 rfl fun w14 S => ⟨_, S.cell 0 rfl rfl, _, S.cell 0 rfl rfl, _, S.cell 0 rfl rfl, _, S.cell 0 rfl rfl, _, S.cell 0 rfl rfl, _, _, _, S.cell 0 rfl rfl, (expr_Uses_st (E.grown S.bel) (hx.grown S.bel)).mono ?_⟩
    rintro _ w15 ⟨_, rfl, at_, ct, t, rfl, hrise, htn, P15⟩
    have S15 := S.join P15
    refine ⟨_, _, _, rfl, ?_⟩
    refine forUp t.length (fun k w16 => ∃ (l2 : List Int) (sa : Option Addr) (sc : Nat), (∀ n : Int, n ∈ l2 ↔ ∃ c : Nat, n = c ∧ ((done.map (·.2.2)).any (ux p.cs c) || (t.take k).any fun s => decide (findC p.cs s = some c)) = true) ∧ l2.length ≤ done.length * M + k ∧
      ST w w16 (strsI at_ ct t :: It.cells b27 ⟨.int .i64 x.1 :: .bool x.2.1 :: exHead x.2.2 a4 cap4⟩ ty.plan_part :: intsI sa sc l2 :: It.cells b10 #[.slice sa l2.length sc] ty.L_int :: It.obj L (.loop { rr with state := .busy }) :: plI b9 p a0 c0 ai ci aw cw ag cg ao co a6 c6 :: (HN ++ []))) (by omega) ⟨l, sa, sc, fun n => by rw [hP n]; simp, hll, S15⟩ fun I2 M2 k w16 hk h next => ?_
    obtain ⟨l2, sa2, sc2, hm2, hl2, S16⟩ := h
    refine IFB_dec (fun hlt => ⟨⟨by omega, hlt⟩, ?_⟩) (fun hge => ?_)
    · have hkl : k < t.length := by omega
      obtain ⟨ps, hps, hc⟩ := strs_at (S16.rd 0 rfl) hkl
      subst hps
      refine ⟨_, by rw [Int.toNat_natCast, Nat.mul_one]; exact hc, _, _, _, S16.cell 5 rfl rfl, (schema_Find_ok (A.cs.grown S16.bel) A.ncs _).mono ?_⟩
      rintro _ w17 ⟨_, rfl, rfl, B17⟩
      have S17 := S16.grown B17
      have hsnoc : ∀ j, ((t.take (k + 1)).any fun s => decide (findC p.cs s = some j)) = (((t.take k).any fun s => decide (findC p.cs s = some j)) || decide (findC p.cs t[k] = some j)) := fun j => by
        rw [List.take_succ_eq_append_getElem hkl, List.any_append]; simp
      refine ⟨_, rfl, ?_⟩
      cases hf : findC p.cs t[k] with
      | none =>
        refine IFB_dec (fun h => absurd h (by show ¬ ((-1 : Int) ≥ 0); omega)) (fun _ => next _ hkl ⟨l2, sa2, sc2, fun n => ?_, by omega, S17⟩)
        rw [hm2]
        simp only [hsnoc, hf]
        simp
      | some j0 =>
        refine IFB_dec (fun _ => ⟨_, _, _, S17.cell 3 rfl rfl, S17.newB fun b44 w18 _ B18 S18 => ?_⟩) (fun h => absurd (show ((j0 : Nat) : Int) ≥ 0 by omega) h)
        refine S18.app 3 rfl tInts rfl (by omega) (by omega) (S18.rdc 0 rfl) (mm := 1) rfl (by intro u hu; simp at hu; rw [hu]; rfl) (by omega) fun a' c' w19 S19 => ⟨_, _, _, rfl, S19.sto 4 rfl (cs' := #[.slice a' (l2.length + 1) c']) (by simp) rfl fun w20 S20 => next _ hkl ⟨l2 ++ [(j0 : Int)], a', c', fun n => ?_, by simp; omega, ?_⟩⟩
        · rw [List.mem_append, hm2, List.mem_singleton]
          simp only [hsnoc, hf, Bool.or_eq_true, decide_eq_true_eq, Option.some.injEq]
          constructor
          · rintro (⟨c, rfl, h | h⟩ | rfl)
            · exact ⟨c, rfl, .inl h⟩
            · exact ⟨c, rfl, .inr (.inl h)⟩
            · exact ⟨j0, rfl, .inr (.inr rfl)⟩
          · rintro ⟨c, rfl, h | h | h⟩
            · exact .inl ⟨c, rfl, .inl h⟩
            · exact .inl ⟨c, rfl, .inr h⟩
            · exact .inr (by rw [h])
        · have S21 := S20.drop 1
          have e : (l2 ++ [(j0 : Int)]).length = l2.length + 1 := by simp
          rw [e]
          unfold intsI
          rw [List.map_append, e]
          exact S21
    · refine S16.endr0 4 hst hpe rfl fun w' S' => ⟨_, ST.unmid (B := []) [intsI sa2 sc2 l2, It.cells b10 #[.slice sa2 l2.length sc2] ty.L_int, It.obj L (.loop rr), plI b9 p a0 c0 ai ci aw cw ag cg ao co a6 c6] (S'.drop 2), .inl ⟨rfl, l2, sa2, sc2, fun n => ?_, by rw [List.length_append, List.length_singleton, Nat.add_mul, Nat.one_mul]; omega, rfl⟩⟩
      rw [List.take_of_length_le (by omega)] at hm2
      rw [hm2]
      simp only [uses_any hrise, List.map_append, List.any_append, List.map_cons, List.map_nil, List.any_cons, List.any_nil, Bool.or_false]
      rfl
  · intro n
    simp
  · rintro _ w21 ⟨_, rfl, B', S21, ⟨l, sa, sc, hP, hll, rfl⟩ | h⟩
    rotate_left
    · cases h
    have hll2 : (prts p.q).length * M ≤ 21000000 := by subst hM; omega
    have S21 := ST.mid (B := []) [intsI sa sc l, It.cells b10 #[.slice sa l.length sc] ty.L_int, It.obj L (.loop rr), plI b9 p a0 c0 ai ci aw cw ag cg ao co a6 c6] S21
    refine ⟨⟨_, rfl⟩, S21.endl0 2 hst hpe rfl fun w22 S22 => ⟨rfl, _, _, _, S22.cell 1 rfl rfl, (sortI_ok S22 0 rfl (by omega)).mono ?_⟩⟩
    rintro _ w23 ⟨_, rfl, rfl, S23⟩
    have hsl : (l.mergeSort fun x y => decide (x ≤ y)).length = l.length := List.length_mergeSort ..
    refine ⟨rfl, _, _, _, S23.cell 1 rfl rfl, ?_⟩
    rw [← hsl]
    refine (compactI_ok S23 0 rfl (by omega)).mono ?_
    rintro _ w24 ⟨_, rfl, rfl, S24⟩
    have S25 := S24.put 4 rfl (.deferred none)
    rw [prts_x] at hP
    refine ⟨_, _, _, rfl, S24.get 4 rfl, sa, sc, ?_, ?_, S25.bel⟩
    · rw [places_needed hP, List.length_map]
    · rw [← places_needed hP]; exact S25.rd 0 rfl
end
def txt0 : ByteArray := ⟨#[115, 101, 108, 101, 99, 116, 32, 98, 32, 97, 115, 32, 107, 44, 32, 115, 117, 109, 40, 97, 41, 32, 97, 115, 32, 115, 32, 103, 114, 111, 117, 112, 32, 98, 121, 32, 98]⟩
def T0 : List Tk := [(0, 1, ⟨#[115, 101, 108, 101, 99, 116]⟩), (7, 1, ⟨#[98]⟩), (9, 1, ⟨#[97, 115]⟩), (12, 1, ⟨#[107]⟩), (13, 4, ⟨#[44]⟩), (15, 1, ⟨#[115, 117, 109]⟩), (18, 4, ⟨#[40]⟩), (19, 1, ⟨#[97]⟩), (20, 4, ⟨#[41]⟩), (22, 1, ⟨#[97, 115]⟩), (25, 1, ⟨#[115]⟩), (27, 1, ⟨#[103, 114, 111, 117, 112]⟩), (33, 1, ⟨#[98, 121]⟩), (36, 1, ⟨#[98]⟩), (37, 0, ⟨#[]⟩)]
theorem toks0 : toksF (txt0.size + 1) (bl txt0) 0 = .ok T0 := by kernel_rfl
def i1 : Itm := (⟨#[107]⟩, 0, colX ⟨#[98]⟩)
def i2 : Itm := (⟨#[115]⟩, 3, colX ⟨#[97]⟩)
def Q0 : Qu := ⟨[i1, i2], [], [colX ⟨#[98]⟩], [], -1⟩
theorem lone1 : Lone T0 1 := ⟨by decide, fun _ => ⟨rfl, show isKeyB ⟨#[98]⟩ = false by decide⟩, fun _ => show ∀ s ∈ headW, seesB (7, 1, ⟨#[98]⟩) s = false by decide, by decide⟩
theorem lone7 : Lone T0 7 := ⟨by decide, fun _ => ⟨rfl, show isKeyB ⟨#[97]⟩ = false by decide⟩, fun _ => show ∀ s ∈ headW, seesB (19, 1, ⟨#[97]⟩) s = false by decide, by decide⟩
theorem lone13 : Lone T0 13 := ⟨by decide, fun _ => ⟨rfl, show isKeyB ⟨#[98]⟩ = false by decide⟩, fun _ => show ∀ s ∈ headW, seesB (36, 1, ⟨#[98]⟩) s = false by decide, by decide⟩
def zIt : Value := .agg #[.string ⟨#[]⟩, .int .i64 0, .int .i64 0, .string ⟨#[]⟩, .int .i64 0, .int .i64 0, .string ⟨#[]⟩, .slice none 0 0]
theorem tItems : slT Tryz.prog ty.L_api_Item = some (ty.api_Item, 8, 104, zIt) := by kernel_rfl
theorem it_one (i : Itm) (a : Option Addr) (cap : Nat) : ∀ u ∈ itHead i a cap, u.oneCell' = true := by
  intro u hu
  simp only [itHead, exHead, List.mem_cons, List.not_mem_nil, or_false] at hu
  rcases hu with rfl | rfl | rfl | rfl | rfl | rfl | rfl | rfl <;> rfl
theorem ex_one (x : Ex) (a : Option Addr) (cap : Nat) : ∀ u ∈ exHead x a cap, u.oneCell' = true := by
  intro u hu
  simp only [exHead, List.mem_cons, List.not_mem_nil, or_false] at hu
  rcases hu with rfl | rfl | rfl | rfl | rfl | rfl <;> rfl
abbrev qb (b : Nat) (ai : Option Addr) (ni ci : Nat) (ag : Option Addr) (ng cg : Nat) : It := It.cells b #[.slice ai ni ci, .slice none 0 0, .slice ag ng cg, .slice none 0 0, .int .i64 (-1)] ty.api_Query
abbrev zqb (b : Nat) : It := It.cells b #[.slice none 0 0, .slice none 0 0, .slice none 0 0, .slice none 0 0, .int .i64 0] ty.api_Query
abbrev itemsI (a : Option Addr) (n c : Nat) (rs : List Value) : It := It.row ty.api_Item 8 a n c rs
abbrev qK (b2 b3 : Nat) (ai : Option Addr) (ni ci : Nat) (rs : List Value) (ag : Option Addr) (ng cg : Nat) (gs : List Value) (H : List It) : List It := exsI ag ng cg gs :: itemsI ai ni ci rs :: qb b3 ai ni ci ag ng cg :: zqb b2 :: H
section
variable {w0 w : World} {H : List It} {b : Nat} {a : Option Addr} {c : Nat}
theorem rquery0 (S : ST w0 w (rpL b a c 0 T0 H)) : Calls Tryz.prog f.ref11_parser_query #[.pointer (some ⟨b, 0, none⟩)] w (Ret fun r w' => ∃ ai ci ag cg, r = .agg ⟨quL Q0 ai none ag none ci 0 cg 0⟩ ∧
    ST w0 w' (rpL b a c 14 T0 (exsI ag 1 cg (exHead (colX ⟨#[98]⟩) none 0) :: itemsI ai 2 ci (itHead i1 none 0 ++ itHead i2 none 0) :: H))) := by
  apply R.ref11_parser_query_calls
  unfold R.ref11_parser_query
  have hT : T0.length ≤ 1000000 := by decide
  refine S.newB fun b2 w1 _ _ S1 => S1.newB fun b3 w2 _ _ S2 => ?_
  refine S2.sto 0 rfl (cs' := #[.slice none 0 0, .slice none 0 0, .slice none 0 0, .slice none 0 0, .int .i64 0]) (by simp) rfl fun w3 S3 => S3.sto 0 rfl (cs' := #[.slice none 0 0, .slice none 0 0, .slice none 0 0, .slice none 0 0, .int .i64 0]) (by simp) rfl fun w4 S4 => S4.sto 0 rfl (cs' := #[.slice none 0 0, .slice none 0 0, .slice none 0 0, .slice none 0 0, .int .i64 0]) (by simp) rfl fun w5 S5 =>
    S5.sto 0 rfl (cs' := #[.slice none 0 0, .slice none 0 0, .slice none 0 0, .slice none 0 0, .int .i64 0]) (by simp) rfl fun w6 S6 => S6.sto 0 rfl (cs' := #[.slice none 0 0, .slice none 0 0, .slice none 0 0, .slice none 0 0, .int .i64 (-1)]) (by simp) rfl fun w7 S7 => ?_
  have S7 : ST w0 w7 (rpL b a c 0 T0 (qK b2 b3 none 0 0 [] none 0 0 [] H)) := (((S7.nil ty.api_Item 8).nil ty.api_Expr 6).pull 5 rfl).pull 5 rfl
  refine rneedsY S7 (by decide) hT (by decide) fun w8 S8 => ⟨rfl, S8.draw fun w9 _ S9 => ⟨_, _, _, S9.cell 4 rfl rfl, (ritem_plain hT lone1 (by decide) (by decide) (by decide) S9).mono ?_⟩⟩
  rintro _ w10 ⟨_, rfl, rfl, S10⟩
  refine ⟨_, _, _, _, _, _, _, _, _, _, rfl, S10.cell 4 rfl rfl, S10.newB fun b15 w11 _ _ S11 => ⟨S11.cell 5 rfl rfl, ?_⟩⟩
  refine S11.app 4 rfl tItems rfl (by omega) (by omega) (S11.rdc 0 rfl) (mm := 1) rfl (it_one i1 none 0) (by omega) fun a1 c1 w12 S12 => ⟨_, _, _, rfl, S12.sto 5 rfl (cs' := #[.slice a1 1 c1, .slice none 0 0, .slice none 0 0, .slice none 0 0, .int .i64 (-1)]) (by simp) rfl fun w13 S13 => ?_⟩
  have S13 : ST w0 w13 (rpL b a c 4 T0 (qK b2 b3 a1 1 c1 (itHead i1 none 0) none 0 0 [] H)) := S13.drop 1
  refine rtakesY S13 (by decide) hT (by decide) fun w14 S14 => ⟨_, rfl, fun st w => (st = [.bool true] ∧ ∃ ai ci, ST w0 w (rpL b a c 5 T0 (qK b2 b3 ai 1 ci (itHead i1 none 0) none 0 0 [] H))) ∨ (st = [.bool false] ∧ ∃ ai ci, ST w0 w (rpL b a c 11 T0 (qK b2 b3 ai 2 ci (itHead i1 none 0 ++ itHead i2 none 0) none 0 0 [] H))),
    fun st _ => match st with | [.bool true] => 1 | _ => 0, .inl ⟨rfl, a1, c1, S14⟩, ?_⟩
  rintro more w15 (⟨hst, ai, ci, S15⟩ | ⟨hst, ai, ci, S15⟩)
  · cases hst
    refine IFB_true (S15.draw fun w16 _ S16 => ⟨_, _, _, S16.cell 4 rfl rfl, (ritem_sum (i := 5) hT (by decide) (by decide) (by decide) (by decide) lone7 (by decide) (by decide) (by decide) S16).mono ?_⟩)
    rintro _ w17 ⟨_, rfl, rfl, S17⟩
    refine ⟨_, _, _, _, _, _, _, _, _, _, rfl, S17.cell 4 rfl rfl, S17.newB fun b32 w18 _ _ S18 => ⟨S18.cell 5 rfl rfl, ?_⟩⟩
    refine S18.app 4 rfl tItems rfl (by omega) (by omega) (S18.rdc 0 rfl) (mm := 1) rfl (it_one i2 none 0) (by omega) fun a2 c2 w19 S19 => ⟨_, _, _, rfl, S19.sto 5 rfl (cs' := #[.slice a2 2 c2, .slice none 0 0, .slice none 0 0, .slice none 0 0, .int .i64 (-1)]) (by simp) rfl fun w20 S20 => ?_⟩
    have S20 : ST w0 w20 (rpL b a c 11 T0 (qK b2 b3 a2 2 c2 (itHead i1 none 0 ++ itHead i2 none 0) none 0 0 [] H)) := S20.drop 1
    exact rtakesN S20 (by decide) hT (by decide) fun w21 S21 => ⟨_, rfl, .inr ⟨rfl, a2, c2, S21⟩, show 0 < 1 by decide⟩
  cases hst
  refine IFB_false (rtakesN S15 (by decide) hT (by decide) fun w22 S22 => ⟨_, rfl, fun _ w => ST w0 w (rpL b a c 11 T0 (qK b2 b3 ai 2 ci (itHead i1 none 0 ++ itHead i2 none 0) none 0 0 [] H)), IFB_false S22, fun w28 S28 => rtakesY S28 (by decide) hT (by decide) fun w29 S29 => ⟨_, rfl, fun _ w => ST w0 w (rpL b a c 13 T0 (qK b2 b3 ai 2 ci (itHead i1 none 0 ++ itHead i2 none 0) none 0 0 [] H)), IFB_true (rneedsY S29 (by decide) hT (by decide) fun w30 S30 => ⟨rfl, S30⟩), fun w31 S31 => ?_⟩⟩)
  refine ⟨fun st w => (st = [.bool true] ∧ ST w0 w (rpL b a c 13 T0 (qK b2 b3 ai 2 ci (itHead i1 none 0 ++ itHead i2 none 0) none 0 0 [] H))) ∨ (st = [.bool false] ∧ ∃ ag cg, ST w0 w (rpL b a c 14 T0 (qK b2 b3 ai 2 ci (itHead i1 none 0 ++ itHead i2 none 0) ag 1 cg (exHead (colX ⟨#[98]⟩) none 0) H))),
    fun st _ => match st with | [.bool true] => 1 | _ => 0, .inl ⟨rfl, S31⟩, ?_⟩
  rintro more w32 (⟨hst, S32⟩ | ⟨hst, ag, cg, S32⟩)
  · cases hst
    refine IFB_true (S32.draw fun w33 _ S33 => ⟨_, _, _, S33.cell 4 rfl rfl, (ror_ok hT lone13 S33).mono ?_⟩)
    rintro _ w34 ⟨_, rfl, rfl, S34⟩
    refine ⟨_, _, _, _, _, _, _, _, rfl, S34.cell 4 rfl rfl, S34.newB fun b65 w35 _ _ S35 => ⟨S35.cell 5 rfl rfl, ?_⟩⟩
    refine S35.app 3 rfl tExs rfl (by omega) (by omega) (S35.rdc 0 rfl) (mm := 1) rfl (ex_one (colX ⟨#[98]⟩) none 0) (by omega) fun a2 c2 w36 S36 => ⟨_, _, _, rfl, S36.sto 5 rfl (cs' := #[.slice ai 2 ci, .slice none 0 0, .slice a2 1 c2, .slice none 0 0, .int .i64 (-1)]) (by simp) rfl fun w37 S37 => ?_⟩
    have S37 : ST w0 w37 (rpL b a c 14 T0 (qK b2 b3 ai 2 ci (itHead i1 none 0 ++ itHead i2 none 0) a2 1 c2 (exHead (colX ⟨#[98]⟩) none 0) H)) := S37.drop 1
    exact rtakesN S37 (by decide) hT (by decide) fun w38 S38 => ⟨_, rfl, .inr ⟨rfl, a2, c2, S38⟩, show 0 < 1 by decide⟩
  cases hst
  obtain ⟨K, hK⟩ : ∃ K, K = rpL b a c 14 T0 (qK b2 b3 ai 2 ci (itHead i1 none 0 ++ itHead i2 none 0) ag 1 cg (exHead (colX ⟨#[98]⟩) none 0) H) := ⟨_, rfl⟩
  refine IFB_false (rtakesN S32 (by decide) hT (by decide) fun w39 S39 => ⟨_, rfl, fun _ w => ST w0 w K, IFB_false (by rw [hK]; exact S39), fun w41 S41 => ⟨fun st w => st = [.bool false] ∧ ST w0 w K, fun _ _ => 0, ⟨rfl, S41⟩, ?_⟩⟩)
  rintro _ w42 ⟨hst, S42⟩
  cases hst
  rw [hK] at S42
  refine IFB_false (rtakesN S42 (by decide) hT (by decide) fun w65 S65 => ⟨_, rfl, fun _ w => ST w0 w K, ⟨fun st w => st = [.bool false] ∧ ST w0 w K, S65.draw fun w66 _ S66 => IFB_false ⟨rfl, by rw [hK]; exact S66⟩, ?_⟩, ?_⟩)
  · rintro _ w67 ⟨hst, S67⟩
    cases hst
    exact IFB_false (IFB_false S67)
  · intro w92 S92
    rw [hK] at S92
    refine S92.draw fun w93 _ S93 => ⟨_, S93.cell 0 rfl rfl, IFB_true ?_⟩
    obtain ⟨p, hp, c0, c1, c2⟩ := tk_at (show Rd w93 a (tksL T0) from S93.get 1 rfl) (show 14 < T0.length by decide)
    subst hp
    refine ⟨_, _, _, S93.cell 0 rfl rfl, _, S93.cell 0 rfl rfl, ⟨by omega, by decide⟩, _, c1, PTR_i (S93.sto 0 rfl (i := 2) (cs' := #[.slice (some p) T0.length c, .int .i64 ((14 : Nat) : Int), .bool true]) (by simp) rfl fun w94 S94 => ⟨_, _, _, S94.cell 4 rfl rfl, _, _, _, S94.cell 4 rfl rfl, _, _, _, S94.cell 4 rfl rfl, _, _, _, S94.cell 4 rfl rfl, _, S94.cell 4 rfl rfl, ?_⟩)⟩
    refine S94.sto 5 rfl (cs' := #[.slice ai 2 ci, .slice none 0 0, .slice none 0 0, .slice none 0 0, .int .i64 0]) (by simp) rfl fun w95 S95 => S95.sto 5 rfl (cs' := #[.slice ai 2 ci, .slice none 0 0, .slice none 0 0, .slice none 0 0, .int .i64 0]) (by simp) rfl fun w96 S96 => S96.sto 5 rfl (cs' := #[.slice ai 2 ci, .slice none 0 0, .slice ag 1 cg, .slice none 0 0, .int .i64 0]) (by simp) rfl fun w97 S97 =>
      S97.sto 5 rfl (cs' := #[.slice ai 2 ci, .slice none 0 0, .slice ag 1 cg, .slice none 0 0, .int .i64 0]) (by simp) rfl fun w98 S98 => S98.sto 5 rfl (cs' := #[.slice ai 2 ci, .slice none 0 0, .slice ag 1 cg, .slice none 0 0, .int .i64 (-1)]) (by simp) rfl fun w99 S99 => ⟨_, _, _, S99.cell 5 rfl rfl, _, _, _, S99.cell 5 rfl rfl, _, _, _, S99.cell 5 rfl rfl, _, _, _, S99.cell 5 rfl rfl, _, S99.cell 5 rfl rfl, ai, ci, ag, cg, rfl, ?_⟩
    exact (((S99.pull 4 rfl).drop 1).pull 4 rfl).drop 1
end
theorem colX_c (w : World) {s : ByteArray} (h : s.size ≤ maxLen) : XC w (colX s) (exHead (colX s) none 0) :=
  ExC.close (rs := []) (Rd.nil _ _) (by simp) (Nat.le_refl _) (by decide) (fun _ => rfl) ⟨⟨by show -9223372036854775808 ≤ (1 : Int); decide, by show (1 : Int) ≤ 9223372036854775807; decide⟩, h, ⟨by show -9223372036854775808 ≤ (0 : Int); decide, by show (0 : Int) ≤ 9223372036854775807; decide⟩, ⟨by show -9223372036854775808 ≤ (0 : Int); decide, by show (0 : Int) ≤ 9223372036854775807; decide⟩, by show (0 : Nat) ≤ maxLen; omega⟩ ExL.nil
section
variable {w : World}
theorem qat_Q0 {ai ag : Option Addr} (h1 : Rd w ai (itHead i1 none 0 ++ itHead i2 none 0)) (h2 : Rd w ag (exHead (colX ⟨#[98]⟩) none 0)) : QAt w Q0 ai none ag none where
  it := ⟨_, h1, RowsC.append (RowsC.one ⟨_, rfl, colX_c w (by show 1 ≤ maxLen; decide), by show 1 ≤ maxLen; decide, by show i64 0; decide⟩) (RowsC.one ⟨_, rfl, colX_c w (by show 1 ≤ maxLen; decide), by show 1 ≤ maxLen; decide, by show i64 3; decide⟩)⟩
  wh := ⟨[], Rd.nil _ _, rfl⟩
  gr := ⟨_, h2, RowsC.one (colX_c w (by show 1 ≤ maxLen; decide))⟩
  od := ⟨[], Rd.nil _ _, rfl⟩
  nit := by decide
  nwh := by decide
  ngr := by decide
  nod := by decide
  lim := by decide
theorem right_Q0 : rightQ Q0 = true := by kernel_rfl
theorem rparse0 : Calls Tryz.prog f.ref11_Parse #[.string txt0] w (Ret fun v w' => ∃ ai ci ag cg, v = .tuple #[.agg ⟨quL Q0 ai none ag none ci 0 cg 0⟩, .int .i64 0, .int .i64 0] ∧ QAt w' Q0 ai none ag none ∧ 2 ≤ ci ∧ Below w.heap.size w w') := by
  apply R.ref11_Parse_calls
  unfold R.ref11_Parse
  refine (ST.start w).newB fun b2 w1 _ _ S1 => IFB_dec (fun h => absurd h (by decide)) (fun _ => (ref11_Tokens_ok (by decide)).mono ?_)
  rintro _ w7 ⟨v, rfl, hv⟩
  unfold ToksV at hv
  rw [toks0] at hv
  obtain ⟨a, c, rfl, P7⟩ := hv
  have S7 := S1.join P7
  refine ⟨_, _, _, _, _, rfl, IFB_not (IFB_true (S7.newB fun b17 w13 _ _ S13 => ?_))⟩
  have S14 : ST w w13 (rpL b17 a c 0 T0 [zqb b2]) := S13.toRd 1 rfl
  refine (rquery0 S14).mono ?_
  rintro _ w14 ⟨_, rfl, ai, ci, ag, cg, rfl, S15⟩
  refine ⟨_, _, _, _, _, _, _, _, _, _, _, _, _, rfl, S15.newB fun b24 w15 _ _ S16 => S16.sto5 0 rfl fun w20 S20 => ⟨_, S20.cell 1 rfl rfl, IFB_not (IFB_true ?_)⟩⟩
  have S20 : ST w w20 (quI b24 Q0 ai none ag none ci 0 cg 0 :: rpL b17 a c 14 T0 [exsI ag 1 cg (exHead (colX ⟨#[98]⟩) none 0), itemsI ai 2 ci (itHead i1 none 0 ++ itHead i2 none 0), zqb b2]) := S20
  have hQ : QAt w20 Q0 ai none ag none := qat_Q0 (S20.rd 4 rfl) (S20.rd 3 rfl)
  refine stQ S20 0 rfl (S20.call (ref11_Right_ok hQ) fun w27 _ S27 => ⟨_, rfl, IFB_not (IFB_yes right_Q0 (stQ S27 0 rfl (S27.sto5 5 rfl fun w37 S37 => ⟨_, _, _, S37.cell 5 rfl rfl, _, _, _, S37.cell 5 rfl rfl, _, _, _, S37.cell 5 rfl rfl, _, _, _, S37.cell 5 rfl rfl, _, S37.cell 5 rfl rfl, ai, ci, ag, cg, rfl, qat_Q0 (S37.rd 4 rfl) (S37.rd 3 rfl), (S37.rw 4 rfl).le, S37.bel⟩)))⟩)
/-! ### a query that sums gathers -/
def cs0 : List Col := [(⟨#[97]⟩, 1, false), (⟨#[98]⟩, 3, true)]
def out0 : List Col := [(⟨#[107]⟩, 3, true), (⟨#[115]⟩, 1, true)]
theorem plan0 : planOf cs0 Q0 = (⟨cs0, Q0, out0, true⟩, 0) := by kernel_rfl
theorem need0 : (neededL cs0 Q0).length = 2 := by kernel_rfl
theorem law12_shown_ok (E : Env w) : Calls Tryz.prog f.law12_shown #[] w (Ret fun r w' => r = .bool true ∧ Below w.heap.size w w') := by
  apply R.law12_shown_calls
  unfold R.law12_shown
  refine rparse0.mono ?_
  rintro _ w1 ⟨_, rfl, ai, ci, ag, cg, rfl, hQ, hci, B1⟩
  have E1 := E.grown B1
  refine ⟨_, _, _, _, _, _, _, _, _, _, _, _, _, _, _, rfl, (ST.start w1).newB fun b9 w2 _ B2 S2 => S2.sto5 0 rfl fun w7 S7 => S7.newB fun b10 w8 _ _ S8 => ?_⟩
  have S8 : ST w1 w8 [It.cells b10 ⟨colsL cs0⟩ ty.api_Column, quI b9 Q0 ai none ag none ci 0 cg 0] := S8
  refine stQ S8 1 rfl ((plan_Make_ok (E1.grown S8.bel) (cs := cs0) (S8.rdc 0 rfl) (by decide) (by decide) (hQ.grown S8.bel) hci).mono ?_)
  rintro _ w9 ⟨_, rfl, a0, c0, bi, di, bw, dw, bg, dg, bo, d_o, a6, c6, rfl, A, _, B9⟩
  rw [plan0] at A ⊢
  have hB : Below w.heap.size w w9 := below_j B1 (S8.grown B9).bel
  refine ⟨_, _, _, _, _, _, _, _, _, _, _, _, _, _, _, _, _, _, _, _, _, rfl, (ST.start w9).newB fun b26 w10 _ B10 S10 => S10.sto8 0 rfl fun w18 S18 => ?_⟩
  have S18 : ST w9 w18 [plI b26 ⟨cs0, Q0, out0, true⟩ a0 c0 bi di bw dw bg dg bo d_o a6 c6] := S18
  have A' := A.grown S18.bel
  obtain ⟨p, hp, x0, x1, x2⟩ := col_at A'.out (show 1 < out0.length by decide)
  subst hp
  refine IFB_eq (fun _ => ⟨_, S18.cell 0 rfl rfl, IFB_true ⟨_, _, _, S18.cell 0 rfl rfl, IFB_eq (fun _ => ⟨_, _, _, S18.cell 0 rfl rfl, ⟨by omega, by decide⟩, _, x0, _, x1, _, x2, IFB_yes (by decide) ?_⟩) (fun h => absurd rfl h)⟩⟩) (fun h => absurd rfl h)
  refine ⟨_, _, _, S18.cell 0 rfl rfl, _, _, _, S18.cell 0 rfl rfl, _, _, _, S18.cell 0 rfl rfl, _, _, _, S18.cell 0 rfl rfl, _, _, _, S18.cell 0 rfl rfl, _, S18.cell 0 rfl rfl, _, _, _, S18.cell 0 rfl rfl, _, S18.cell 0 rfl rfl, (plan_Needs_ok ((E.grown hB).grown S18.bel) A' (rightQ_small right_Q0).1).mono ?_⟩
  rintro _ w19 ⟨_, rfl, an, cn, rfl, hrd, B19⟩
  refine ⟨_, _, _, rfl, ?_, below_j hB (S18.grown B19).bel⟩
  rw [need0]
  rfl
end
section
variable {P : Program} {w : World}
theorem good_fields1 {n : Nat} {t : TypeId} {cs : List Value} {l : List (TypeId × Nat)} (h : Go.Dn.Good P w (n + 1) t cs) (ht : fieldsT P t = some l) :
    cs.length = P.cellsOf t ∧ ∀ x ∈ l, Go.Dn.Good P w n x.1 ((cs.drop x.2).take (P.cellsOf x.1)) := by
  unfold fieldsT at ht
  split at ht
  · rename_i fs hu
    unfold Go.Dn.Good at h
    rw [hu] at h
    cases ht
    refine ⟨h.1, fun x hx => ?_⟩
    obtain ⟨f, hf, rfl⟩ := List.mem_map.1 hx
    exact h.2 f hf
  · cases ht
theorem good_slice1 {n : Nat} {t e : TypeId} {cs : List Value} (h : Go.Dn.Good P w (n + 1) t cs) (ht : P.underlying t = some (.slice e)) : ∃ a len cap, cs = [.slice a len cap] ∧ len ≤ cap ∧ cap ≤ maxLen ∧ (a = none → cap = 0) ∧
    ∃ rows : List (List Value), rows.length = len ∧ Rd w a rows.flatten ∧ ∀ r ∈ rows, r.length = P.cellsOf e ∧ Go.Dn.Good P w n e r := by
  unfold Go.Dn.Good at h
  rw [ht] at h
  exact h
end
theorem wf64 {x : Int} (h : (Lit.int .i64 x).wf = true) : i64 x := by simpa [Lit.wf, IntKind.min, IntKind.max, IntKind.signed, IntKind.bits] using h
theorem cells_intP : Tryz.prog.cellsOf ty.int = 1 := by kernel_rfl
theorem cells_int64P : Tryz.prog.cellsOf ty.int64 = 1 := by kernel_rfl
theorem cells_strP : Tryz.prog.cellsOf ty.string = 1 := by kernel_rfl
theorem cells_boolP : Tryz.prog.cellsOf ty.bool = 1 := by kernel_rfl
theorem cells_valP : Tryz.prog.cellsOf ty.api_Value = 3 := by kernel_rfl
theorem cells_exP : Tryz.prog.cellsOf ty.api_Expr = 6 := by kernel_rfl
theorem cells_LexP : Tryz.prog.cellsOf ty.L_api_Expr = 1 := by kernel_rfl
theorem cells_itP : Tryz.prog.cellsOf ty.api_Item = 8 := by kernel_rfl
theorem cells_LitP : Tryz.prog.cellsOf ty.L_api_Item = 1 := by kernel_rfl
theorem cells_keyP : Tryz.prog.cellsOf ty.api_Key = 2 := by kernel_rfl
theorem cells_LkeyP : Tryz.prog.cellsOf ty.L_api_Key = 1 := by kernel_rfl
theorem cells_quP : Tryz.prog.cellsOf ty.api_Query = 5 := by kernel_rfl
theorem und_intP : Tryz.prog.underlying ty.int = some (.int .i64) := by kernel_rfl
theorem und_int64P : Tryz.prog.underlying ty.int64 = some (.int .i64) := by kernel_rfl
theorem und_strP : Tryz.prog.underlying ty.string = some .string := by kernel_rfl
theorem und_boolP : Tryz.prog.underlying ty.bool = some .bool := by kernel_rfl
theorem und_LexP : Tryz.prog.underlying ty.L_api_Expr = some (.slice ty.api_Expr) := by kernel_rfl
theorem und_LitP : Tryz.prog.underlying ty.L_api_Item = some (.slice ty.api_Item) := by kernel_rfl
theorem und_LkeyP : Tryz.prog.underlying ty.L_api_Key = some (.slice ty.api_Key) := by kernel_rfl
theorem fld_val : fieldsT Tryz.prog ty.api_Value = some [(ty.int, 0), (ty.int64, 1), (ty.string, 2)] := by kernel_rfl
theorem fld_ex : fieldsT Tryz.prog ty.api_Expr = some [(ty.int, 0), (ty.string, 1), (ty.api_Value, 2), (ty.L_api_Expr, 5)] := by kernel_rfl
theorem fld_it : fieldsT Tryz.prog ty.api_Item = some [(ty.string, 0), (ty.int, 1), (ty.api_Expr, 2)] := by kernel_rfl
theorem fld_key : fieldsT Tryz.prog ty.api_Key = some [(ty.int, 0), (ty.bool, 1)] := by kernel_rfl
theorem fld_qu : fieldsT Tryz.prog ty.api_Query = some [(ty.L_api_Item, 0), (ty.L_api_Expr, 1), (ty.L_api_Expr, 2), (ty.L_api_Key, 3), (ty.int, 4)] := by kernel_rfl
section
variable {w : World}
theorem good_val {n : Nat} {cs : List Value} (h : Go.Dn.Good Tryz.prog w n ty.api_Value cs) : ∃ v : Val, cs = [.int .i64 v.1, .int .i64 v.2.1, .string v.2.2] ∧ i64 v.1 ∧ i64 v.2.1 ∧ v.2.2.size ≤ maxLen := by
  obtain ⟨hl, m, hf⟩ := h.fields fld_val
  rw [cells_valP] at hl
  match cs, hl with
  | [v0, v1, v2], _ =>
    simp only [List.mem_cons, List.not_mem_nil, or_false, forall_eq_or_imp, forall_eq, cells_intP, cells_int64P, cells_strP] at hf
    obtain ⟨h0, h1, h2⟩ := hf
    obtain ⟨x0, e0, q0⟩ := h0.int und_intP
    obtain ⟨x1, e1, q1⟩ := h1.int und_int64P
    obtain ⟨x2, e2, q2⟩ := h2.str und_strP
    simp only [List.drop_zero, List.take_succ_cons, List.take_zero, List.drop_succ_cons, List.cons.injEq, and_true] at e0 e1 e2
    exact ⟨(x0, x1, x2), by rw [e0, e1, e2], wf64 q0, wf64 q1, q2⟩
theorem rows_all {α : Type} {C : α → List Value → Prop} : ∀ {rows : List (List Value)}, (∀ r ∈ rows, ∃ x, C x r) → ∃ xs : List α, xs.length = rows.length ∧ RowsC C xs rows.flatten
  | [], _ => ⟨[], rfl, rfl⟩
  | r :: rows, h => by
    obtain ⟨x, hx⟩ := h r (by simp)
    obtain ⟨xs, h1, h2⟩ := rows_all (rows := rows) fun r hr => h r (by simp [hr])
    exact ⟨x :: xs, by simp [h1], by rw [List.flatten_cons]; exact ⟨r, _, rfl, hx, h2⟩⟩
theorem good_ex : ∀ (n : Nat) (cs : List Value), Go.Dn.Good Tryz.prog w n ty.api_Expr cs → ∃ x, ExC (fun _ => False) w x cs := by
  intro n
  induction n using Nat.strongRecOn with
  | ind n ih =>
    intro cs h
    cases n with
    | zero => exact h.elim
    | succ n =>
      obtain ⟨hl, hf⟩ := good_fields1 h fld_ex
      rw [cells_exP] at hl
      match cs, hl with
      | [v0, v1, v2, v3, v4, v5], _ =>
        simp only [List.mem_cons, List.not_mem_nil, or_false, forall_eq_or_imp, forall_eq, cells_intP, cells_strP, cells_valP, cells_LexP] at hf
        obtain ⟨h0, h1, h2, h5⟩ := hf
        obtain ⟨x0, e0, q0⟩ := h0.int und_intP
        obtain ⟨x1, e1, q1⟩ := h1.str und_strP
        obtain ⟨v, e2, q2, q3, q4⟩ := good_val h2
        cases n with
        | zero => exact h5.elim
        | succ n =>
          obtain ⟨a, len, cap, e5, g1, g2, g3, rows, rfl, g4, g5⟩ := good_slice1 h5 und_LexP
          obtain ⟨ks, k1, k2⟩ := rows_all (C := ExC (fun _ => False) w) (rows := rows) fun r hr => ih n (by omega) r (g5 r hr).2
          simp only [List.drop_zero, List.take_succ_cons, List.take_zero, List.drop_succ_cons, List.cons.injEq, and_true] at e0 e1 e2 e5
          obtain ⟨e2, e3, e4⟩ := e2
          refine ⟨.mk x0 x1 v ks, ?_⟩
          have := ExC.close (F := fun _ => False) (w := w) (x := .mk x0 x1 v ks) (a := a) (cap := cap) g4 (fun _ _ _ h => h) (by show ks.length ≤ cap; omega) g2 g3 ⟨wf64 q0, q1, q2, q3, q4⟩ (rowsC_exL.1 k2)
          rw [e0, e1, e2, e3, e4, e5]
          rw [← k1]
          exact this
theorem good_it {n : Nat} {cs : List Value} (h : Go.Dn.Good Tryz.prog w n ty.api_Item cs) : ∃ x, ItC (fun _ => False) w x cs := by
  obtain ⟨hl, m, hf⟩ := h.fields fld_it
  rw [cells_itP] at hl
  match cs, hl with
  | v0 :: v1 :: c, hl =>
    simp only [List.mem_cons, List.not_mem_nil, or_false, forall_eq_or_imp, forall_eq, cells_intP, cells_strP, cells_exP] at hf
    obtain ⟨h0, h1, h2⟩ := hf
    obtain ⟨x0, e0, q0⟩ := h0.str und_strP
    obtain ⟨x1, e1, q1⟩ := h1.int und_intP
    simp only [List.drop_zero, List.take_succ_cons, List.take_zero, List.drop_succ_cons, List.cons.injEq, and_true] at e0 e1 h2
    rw [List.take_of_length_le (by simp at hl; omega)] at h2
    obtain ⟨x, hx⟩ := good_ex _ _ h2
    exact ⟨(x0, x1, x), c, by rw [e0, e1], hx, q0, wf64 q1⟩
theorem good_key {n : Nat} {cs : List Value} (h : Go.Dn.Good Tryz.prog w n ty.api_Key cs) : ∃ x, keyC x cs := by
  obtain ⟨hl, m, hf⟩ := h.fields fld_key
  rw [cells_keyP] at hl
  match cs, hl with
  | [v0, v1], _ =>
    simp only [List.mem_cons, List.not_mem_nil, or_false, forall_eq_or_imp, forall_eq, cells_intP, cells_boolP] at hf
    obtain ⟨h0, h1⟩ := hf
    obtain ⟨x0, e0, q0⟩ := h0.int und_intP
    obtain ⟨x1, e1⟩ := h1.bool und_boolP
    simp only [List.drop_zero, List.take_succ_cons, List.take_zero, List.drop_succ_cons, List.cons.injEq, and_true] at e0 e1
    exact ⟨(x0, x1), by rw [e0, e1], wf64 q0⟩
theorem good_sl {α : Type} {C : α → List Value → Prop} {n : Nat} {t e : TypeId} {cs : List Value} (h : Go.Dn.Good Tryz.prog w n t cs) (ht : Tryz.prog.underlying t = some (.slice e)) (hC : ∀ m r, Go.Dn.Good Tryz.prog w m e r → ∃ x, C x r) : ∃ l v, cs = [v] ∧ SlC (fun _ => False) w C l v := by
  obtain ⟨a, len, cap, rfl, h1, h2, h3, m, rows, rfl, hr, hrs⟩ := h.slice ht
  obtain ⟨l, k1, k2⟩ := rows_all (C := C) (rows := rows) fun r hr => hC m r (hrs r hr).2
  exact ⟨l, _, rfl, ⟨a, cap, _, by rw [k1], hr, fun _ _ _ h => h, by omega, h2, h3, k2⟩⟩
theorem good_qu {n : Nat} {cs : List Value} (h : Go.Dn.Good Tryz.prog w n ty.api_Query cs) : ∃ q, QuC (fun _ => False) w q cs := by
  obtain ⟨hl, m, hf⟩ := h.fields fld_qu
  rw [cells_quP] at hl
  match cs, hl with
  | [v0, v1, v2, v3, v4], _ =>
    simp only [List.mem_cons, List.not_mem_nil, or_false, forall_eq_or_imp, forall_eq, cells_intP, cells_LitP, cells_LexP, cells_LkeyP] at hf
    obtain ⟨h0, h1, h2, h3, h4⟩ := hf
    obtain ⟨l0, u0, e0, s0⟩ := good_sl h0 und_LitP fun _ _ h => good_it h
    obtain ⟨l1, u1, e1, s1⟩ := good_sl h1 und_LexP fun _ _ h => good_ex _ _ h
    obtain ⟨l2, u2, e2, s2⟩ := good_sl h2 und_LexP fun _ _ h => good_ex _ _ h
    obtain ⟨l3, u3, e3, s3⟩ := good_sl h3 und_LkeyP fun _ _ h => good_key h
    obtain ⟨x4, e4, q4⟩ := h4.int und_intP
    simp only [List.drop_zero, List.take_succ_cons, List.take_zero, List.drop_succ_cons, List.cons.injEq, and_true] at e0 e1 e2 e3 e4
    refine ⟨⟨l0, l1, l2, l3, x4⟩, ⟨u0, u1, u2, u3, by rw [e0, e1, e2, e3, e4], s0, s1, s2, s3, wf64 q4⟩⟩
end
structure ArgsP (w : World) (cs : List Col) (a1 : Option Addr) (q : Qu) (ai aw ag ao : Option Addr) (ci c1 : Nat) : Prop where
  E : Env w
  r : Rd w a1 (colsL cs)
  n : cs.length ≤ 9223372036854775807
  s : ∀ c ∈ cs, c.1.size ≤ 9223372036854775807
  Q : QAt w q ai aw ag ao
  c : q.it.length ≤ ci
  cc : cs.length ≤ c1
theorem ArgsP.grown {w w' : World} {cs : List Col} {a1 : Option Addr} {q : Qu} {ai aw ag ao : Option Addr} {ci c1 : Nat} (h : ArgsP w cs a1 q ai aw ag ao ci c1) (B : Below w.heap.size w w') : ArgsP w' cs a1 q ai aw ag ao ci c1 :=
  ⟨h.E.grown B, h.r.grown B, h.n, h.s, h.Q.grown B, h.c, h.cc⟩
theorem make_err0 {cs : List Col} {q : Qu} {e : Int} (h : makeP cs q = .error e) : e ≠ 0 := by
  by_cases h1 : rightCols cs = true
  · by_cases h2 : rightQ q = true
    · rw [← run_make h1 h2] at h
      have : ∀ {l : List Prt}, runP cs q l = .error e → e ≠ 0 := by
        intro l
        induction l with
        | nil => intro h; cases h
        | cons p l ih =>
          intro h
          unfold runP at h
          split at h
          · rename_i hp; cases h; exact step_err hp
          · split at h
            · rename_i hr; cases h; exact ih hr
            · cases h
      exact this h
    · unfold makeP at h
      rw [if_neg (by simp [h1]), if_pos (by simpa using h2)] at h
      cases h; decide
  · unfold makeP at h
    rw [if_pos (by simpa using h1)] at h
    cases h; decide
theorem plan_is {cs : List Col} {q : Qu} (h : (planOf cs q).2 = 0) : ∃ out, makeP cs q = .ok out ∧ (planOf cs q) = (⟨cs, q, out, gathersQ q⟩, 0) := by
  cases hm : makeP cs q with
  | ok out => exact ⟨out, rfl, by rw [planOf, hm]⟩
  | error e =>
    rw [planOf, hm] at h
    exact absurd h (make_err0 hm)
section
variable {w : World} {cs : List Col} {a1 : Option Addr} {c1 : Nat} {q : Qu} {ai aw ag ao : Option Addr} {ci cw cg co : Nat}
end
theorem plan_not {cs : List Col} {q : Qu} (h : (planOf cs q).2 ≠ 0) : (planOf cs q).1 = Pl0 := by
  cases hm : makeP cs q with
  | ok out => rw [planOf, hm] at h; exact absurd rfl h
  | error e => rw [planOf, hm]
section
variable {w : World} {cs : List Col} {a1 : Option Addr} {c1 : Nat} {q : Qu} {ai aw ag ao : Option Addr} {ci cw cg co : Nat}
end
theorem items_one {w : World} : ∀ {l : List Itm} {rs : List Value}, RowsC (ItC (fun _ => False) w) l rs → ∀ u ∈ rs, u.oneCell' = true
  | [], rs, h, u, hu => by unfold RowsC at h; subst h; cases hu
  | x :: l, rs, ⟨c, r, e, h1, h2⟩, u, hu => by
    subst e
    rcases List.mem_append.1 hu with hu | hu
    · obtain ⟨ce, rfl, hx, _⟩ := h1
      obtain ⟨a, cap, _, rfl, _⟩ := ExC.open hx
      exact it_one x a cap u hu
    · exact items_one h2 u hu
theorem twice_len {q : Qu} (h : 1 ≤ q.it.length) : (twiceQ q).it.length = q.it.length + 1 := by
  show (q.it ++ q.it.take 1).length = _
  rw [List.length_append, List.length_take]
  omega
theorem twice_code {cs : List Col} {q : Qu} {out : List Col} (h : makeP cs q = .ok out) : (planOf cs (twiceQ q)).2 = 122 ∨ (planOf cs (twiceQ q)).2 = 110 := by
  rcases twice_bad h with h | h
  · exact .inl (by rw [planOf, h])
  · exact .inr (by rw [planOf, h])
section
variable {w : World} {cs : List Col} {a1 : Option Addr} {c1 : Nat} {q : Qu} {ai aw ag ao : Option Addr} {ci cw cg co : Nat}
theorem PlanNames_core (A : ArgsP w cs a1 q ai aw ag ao ci c1) : Calls Tryz.prog f.law12_PlanNames #[.slice a1 cs.length c1, .agg ⟨quL q ai aw ag ao ci cw cg co⟩] w (Ret fun v w' => v = .bool true ∧ Below w.heap.size w w') := by
  apply R.law12_PlanNames_calls
  unfold R.law12_PlanNames
  refine (ST.start w).newB fun b7 w1 _ _ S1 => S1.call (law12_shown_ok (A.E.grown S1.bel)) fun w2 _ S2 => ⟨_, rfl, ?_⟩
  have S2 : ST w w2 [quI b7 q ai aw ag ao ci cw cg co] := S2
  have A2 := A.grown S2.bel
  refine stQ S2 0 rfl ((plan_Make_ok A2.E A2.r A2.n A2.s A2.Q A2.c).mono ?_)
  rintro _ w3 ⟨_, rfl, a0, c0, bi, di, bw, dw, bg, dg, bo, d_o, a6, c6, rfl, P3, hc3, B3⟩
  have S3 := S2.grown B3
  refine ⟨_, _, _, _, _, _, _, _, _, _, _, _, _, _, _, _, _, _, _, _, _, rfl, (ST.start w3).newB fun b25 w4 _ B4 T4 => T4.sto8 0 rfl fun w12 T12 => ?_⟩
  have T12 : ST w3 w12 [plI b25 (planOf cs q).1 a0 c0 bi di bw dw bg dg bo d_o a6 c6] := T12
  refine IFB_ne (fun hne => ?_) (fun h0 => ?_)
  · rw [plan_not hne] at T12
    exact IFB_true ⟨_, _, _, T12.cell 0 rfl rfl, rfl, (S3.join T12).bel⟩
  obtain ⟨out, hm, hp⟩ := plan_is h0
  rw [hp] at T12 P3
  obtain ⟨h1, h2, _⟩ := makeP_ok hm
  have hlen : out.length = q.it.length := makeP_len hm
  have hsm := smallQ_iff.1 (rightQ_small h2).1
  have h16 : q.it.length ≤ 16 := hsm.1.2.1
  have hpos : 1 ≤ q.it.length := hsm.1.1
  refine forUp out.length (fun i w' => ST w3 w' [plI b25 ⟨cs, q, out, gathersQ q⟩ a0 c0 bi di bw dw bg dg bo d_o a6 c6]) (by omega) T12 fun I M i w13 hi T13 next => ?_
  have S13 : ST w w13 [plI b25 ⟨cs, q, out, gathersQ q⟩ a0 c0 bi di bw dw bg dg bo d_o a6 c6, quI b7 q ai aw ag ao ci cw cg co] := S3.join T13
  refine ⟨_, _, _, T13.cell 0 rfl rfl, IFB_dec (fun hlt => T13.draw fun w14 _ T14 => ?_) (fun hge => ?_)⟩
  · have hil : i < out.length := by change (i : Int) < (out.length : Int) at hlt; omega
    have S14 := S3.join T14
    obtain ⟨p, hp6, x0, x1, x2⟩ := col_at (P3.grown T14.bel).out hil
    obtain ⟨ri, hri, hCi⟩ := (A.grown S14.bel).Q.it
    obtain ⟨pi, hpi, y0⟩ := it_name hri hCi (i := i) (by omega)
    obtain ⟨hnm, hnull, _⟩ := makeP_col hm i hil (by omega)
    subst hp6 hpi
    refine ⟨_, _, _, S14.cell 1 rfl rfl, IFB_dec (fun hge => absurd (show (i : Int) ≥ (q.it.length : Int) from hge) (by omega)) (fun _ => ⟨_, _, _, S14.cell 0 rfl rfl, ⟨by omega, hlt⟩, _, x0, _, _, _, S14.cell 1 rfl rfl, ⟨by omega, by omega⟩, _, y0, IFB_not (IFB_yes ?_ ⟨_, _, _, S14.cell 0 rfl rfl, ⟨by omega, hlt⟩, _, x2, IFB_not (IFB_yes hnull (next _ hil T14))⟩)⟩)⟩
    rw [bytesEq_iff]
    exact decide_eq_true hnm
  refine ⟨_, _, _, S13.cell 1 rfl rfl, IFB_dec (fun _ => ⟨rfl, S13.bel⟩) (fun hlt16 => ?_)⟩
  have hn16 : q.it.length < 16 := by omega
  refine stQ S13 1 rfl (S13.newB fun b46 w15 _ _ S15 => S15.sto5 0 rfl fun w20 S20 => ?_)
  have S20 : ST w w20 [It.cells b46 #[.slice ai q.it.length ci, .slice aw q.wh.length cw, .slice ag q.gr.length cg, .slice ao q.od.length co, .int .i64 q.lim] ty.api_Query, plI b25 ⟨cs, q, out, gathersQ q⟩ a0 c0 bi di bw dw bg dg bo d_o a6 c6, quI b7 q ai aw ag ao ci cw cg co] := S20
  obtain ⟨ri, hri, hCi⟩ := A.Q.it
  have hlr : ri.length = q.it.length * 8 := hCi.len fun x c h => ItC.len h
  obtain ⟨p, a4, cap4, hp, hx, hnm, hcell⟩ := item_at hri hCi (i := 0) hpos
  subst hp
  have hax : rightI q.it[0] = true := hsm.2.1 _ (List.getElem_mem _)
  have ht1 : q.it.take 1 = [q.it[0]] := by rw [List.take_succ_eq_append_getElem (by omega)]; rfl
  obtain ⟨x, hx0⟩ : ∃ x, x = q.it[0] := ⟨_, rfl⟩
  rw [← hx0] at hx hnm hcell hax ht1
  have hx1 : 0 ≤ x.2.1 ∧ x.2.1 ≤ 5 := by
    simp only [rightI, Bool.and_eq_true, decide_eq_true_eq] at hax
    exact hax.1.2
  have hc : ∀ {w'}, Below w.heap.size w w' → ∀ j v, (itHead x a4 cap4)[j]? = some v → w'.cell? (p.add j) = some v := fun B j v hj => (Keeps.of_below (F := fun _ => False) B).cell (hcell j v hj) (by simp)
  have h8 : ∀ {w'}, Below w.heap.size w w' → (w'.cell? p = some (.string x.1) ∧ w'.cell? (p.add 1) = some (.int .i64 x.2.1) ∧ w'.cell? (p.add 2) = some (.int .i64 x.2.2.op) ∧ w'.cell? (p.add 3) = some (.string x.2.2.nm) ∧ w'.cell? (p.add 4) = some (.int .i64 x.2.2.v.1) ∧ w'.cell? (p.add 5) = some (.int .i64 x.2.2.v.2.1) ∧ w'.cell? (p.add 6) = some (.string x.2.2.v.2.2) ∧ w'.cell? (p.add 7) = some (.slice a4 x.2.2.ks.length cap4)) := fun B => ⟨hc B 0 _ rfl, hc B 1 _ rfl, hc B 2 _ rfl, hc B 3 _ rfl, hc B 4 _ rfl, hc B 5 _ rfl, hc B 6 _ rfl, hc B 7 _ rfl⟩
  have ew : IntKind.i64.wrap ((q.it.length : Int) + 1) = ((q.it.length + 1 : Nat) : Int) := wrap_succ (by omega)
  refine ⟨fun _ w' => ∃ a' c', ST w w' [itemsI a' (q.it.length + 1) c' (ri ++ itHead x a4 cap4), It.cells b46 #[.slice a' (q.it.length + 1) c', .slice aw q.wh.length cw, .slice ag q.gr.length cg, .slice ao q.od.length co, .int .i64 q.lim] ty.api_Query, plI b25 ⟨cs, q, out, gathersQ q⟩ a0 c0 bi di bw dw bg dg bo d_o a6 c6, quI b7 q (some p) aw ag ao ci cw cg co], S20.draw fun w21 _ S => ?_, ?_⟩
  · refine ⟨_, _, _, S.cell 2 rfl rfl, _, _, _, S.cell 2 rfl rfl, _, _, _, S.cell 2 rfl rfl, ⟨by omega, by omega⟩, ?_⟩
    refine ldI (hc S.bel) ⟨?_, S.newB fun b71 w31 _ _ S => ⟨S.cell 3 rfl rfl, S.cell 3 rfl rfl, ?_⟩⟩
    · rw [ew]
      refine S.mk0 tItems (by omega) (by omega) fun bm w22 S => ⟨_, _, _, rfl, h8 S.bel, S.cell 3 rfl rfl, S.cell 3 rfl rfl, ?_, S.newB fun b66 w27 _ _ S => ⟨S.cell 4 rfl rfl, ?_⟩⟩
      · refine S.app 0 rfl tItems rfl (by omega) (by omega) (hri.grown S.bel) (mm := q.it.length) hlr (items_one hCi) (by omega) fun a2 c2 w23 S => ⟨_, _, _, rfl, h8 S.bel, S.cell 3 rfl rfl, S.newB fun b63 w24 _ _ S => ?_⟩
        refine S.app 1 rfl tItems rfl (by omega) (by omega) (S.rdc 0 rfl) (mm := 1) rfl (it_one x a4 cap4) (by omega) fun a3 c3 w25 S => ⟨_, _, _, rfl, S.sto 2 rfl (cs' := #[.slice a3 (0 + q.it.length + 1) c3, .slice aw q.wh.length cw, .slice ag q.gr.length cg, .slice ao q.od.length co, .int .i64 q.lim]) (by simp) rfl fun w26 S => ⟨a3, c3, ?_⟩⟩
        have S := S.drop 1
        simp only [Nat.zero_add, List.nil_append] at S
        exact S
      · refine S.app 1 rfl tItems rfl (by omega) (by omega) (hri.grown S.bel) (mm := q.it.length) hlr (items_one hCi) (by omega) fun a2 c2 w28 S => ⟨_, _, _, rfl, ?_⟩
        refine S.app 1 rfl tItems rfl (by omega) (by omega) (S.rdc 0 rfl) (mm := 1) rfl (it_one x a4 cap4) (by omega) fun a3 c3 w29 S => ⟨_, _, _, rfl, S.sto 2 rfl (cs' := #[.slice a3 (0 + q.it.length + 1) c3, .slice aw q.wh.length cw, .slice ag q.gr.length cg, .slice ao q.od.length co, .int .i64 q.lim]) (by simp) rfl fun w30 S => ⟨a3, c3, ?_⟩⟩
        have S := S.drop 1
        simp only [Nat.zero_add, List.nil_append] at S
        exact S
    · rw [ew]
      refine S.mk0 tItems (by omega) (by omega) fun bm w32 S => ⟨_, _, _, rfl, S.cell 4 rfl rfl, ?_⟩
      refine S.app 0 rfl tItems rfl (by omega) (by omega) (hri.grown S.bel) (mm := q.it.length) hlr (items_one hCi) (by omega) fun a2 c2 w33 S => ⟨_, _, _, rfl, ?_⟩
      refine S.app 0 rfl tItems rfl (by omega) (by omega) (S.rdc 1 rfl) (mm := 1) rfl (it_one x a4 cap4) (by omega) fun a3 c3 w34 S => ⟨_, _, _, rfl, S.sto 2 rfl (cs' := #[.slice a3 (0 + q.it.length + 1) c3, .slice aw q.wh.length cw, .slice ag q.gr.length cg, .slice ao q.od.length co, .int .i64 q.lim]) (by simp) rfl fun w35 S => ⟨a3, c3, ?_⟩⟩
      have S := (S.pull 1 rfl).drop 1
      simp only [Nat.zero_add, List.nil_append] at S
      exact S
  · rintro w36 ⟨a', c', S⟩
    have hl2 : (twiceQ q).it.length = q.it.length + 1 := twice_len hpos
    have hle : q.it.length + 1 ≤ c' := (S.rw 0 rfl).le
    have e46 : quI b46 (twiceQ q) a' aw ag ao c' cw cg co = It.cells b46 #[.slice a' (q.it.length + 1) c', .slice aw q.wh.length cw, .slice ag q.gr.length cg, .slice ao q.od.length co, .int .i64 q.lim] ty.api_Query := by
      unfold quI quL
      rw [hl2]
      rfl
    rw [← e46] at S
    have A36 := A.grown S.bel
    have Q36 : QAt w36 (twiceQ q) a' aw ag ao := {
      it := ⟨ri ++ itHead x a4 cap4, S.rd 0 rfl, by
        show RowsC _ (q.it ++ q.it.take 1) _
        rw [ht1]
        exact RowsC.append (hCi.mono fun _ _ h => h.grown S.bel) (RowsC.one ⟨_, rfl, hx.grown S.bel, hnm, ⟨by omega, by omega⟩⟩)⟩
      wh := A36.Q.wh
      gr := A36.Q.gr
      od := A36.Q.od
      nit := by rw [hl2]; omega
      nwh := A36.Q.nwh
      ngr := A36.Q.ngr
      nod := A36.Q.nod
      lim := A36.Q.lim }
    refine stQ S 1 rfl ((plan_Make_ok A36.E A36.r A36.n A36.s Q36 (by rw [hl2]; exact hle)).mono ?_)
    rintro _ w37 ⟨_, rfl, _, _, _, _, _, _, _, _, _, _, _, _, rfl, _, _, B37⟩
    refine ⟨_, _, _, _, _, _, _, _, _, _, _, _, _, _, _, _, _, _, _, _, _, rfl, (S.grown B37).newB fun b94 w38 _ _ S38 => S38.sto8 0 rfl fun w46 S46 => IFB_true (IFB_eq (fun _ => ⟨rfl, S46.bel⟩) (fun hne => ⟨?_, S46.bel⟩))⟩
    rcases twice_code hm with h | h
    · exact absurd h hne
    · rw [h]; rfl
end
def colQ (c : Col) : Prop := c.1.size ≤ maxLen
theorem fld_col : fieldsT Tryz.prog ty.api_Column = some [(ty.string, 0), (ty.int, 1), (ty.bool, 2)] := by kernel_rfl
theorem cells_colP : Tryz.prog.cellsOf ty.api_Column = 3 := by kernel_rfl
theorem good_api_Column {w : World} : ∀ m r, r.length = Tryz.prog.cellsOf ty.api_Column → Go.Dn.Good Tryz.prog w m ty.api_Column r → ∃ x, r = colC x ∧ colQ x := by
  intro m r hl h
  obtain ⟨_, n, hf⟩ := h.fields fld_col
  rw [cells_colP] at hl
  match r, hl with
  | [v0, v1, v2], _ =>
    simp only [List.mem_cons, List.not_mem_nil, or_false, forall_eq_or_imp, forall_eq, cells_intP, cells_boolP, cells_strP] at hf
    obtain ⟨h0, h1, h2⟩ := hf
    obtain ⟨x0, e0, q0⟩ := h0.str und_strP
    obtain ⟨x1, e1, q1⟩ := h1.int und_intP
    obtain ⟨x2, e2⟩ := h2.bool und_boolP
    refine ⟨(x0, x1, x2), ?_, q0⟩
    simp only [List.drop_zero, List.take_succ_cons, List.take_zero, List.drop_succ_cons, List.cons.injEq, and_true] at e0 e1 e2
    rw [e0, e1, e2]
    rfl
theorem open_qu {H : Type} {enc : TypeId × Value → H} {W : World} {base b : Nat} {sp : Nat → Bool} {held : Bool} {v : Value} {d : DataW H} {p : List MemPlace} (hv : Value.okWide Tryz.prog W .any base ty.api_Query v) (h : DataW.Trod enc Tryz.prog W b sp held ty.api_Query v d p) :
    ∃ x : List Value, v = .agg ⟨x⟩ ∧ ∃ q, QuC (fun _ => False) W q x := by
  obtain ⟨cs, rfl⟩ := okWide_agg fld_qu hv
  obtain ⟨n, hn⟩ := h
  obtain ⟨q, hq⟩ := good_qu (good_of_trod n _ _ _ hn)
  exact ⟨cs.toList, rfl, q, hq⟩
theorem args_of {w : World} (E : Env w) {a : Option Addr} {cs : List Col} {c : Nat} (g : GL w colC colQ a cs c) {x : List Value} (hx : ∃ q, QuC (fun _ => False) w q x) :
    ∃ q ai aw ag ao ci cw cg co, x = quL q ai aw ag ao ci cw cg co ∧ ArgsP w cs a q ai aw ag ao ci c := by
  obtain ⟨q, hq⟩ := hx
  obtain ⟨ai, aw, ag, ao, ci, cw, cg, co, rfl, Q, hci, _⟩ := hq.at
  exact ⟨q, ai, aw, ag, ao, ci, cw, cg, co, rfl, E, g.2.2.2.1, Nat.le_trans (Nat.le_trans g.1 g.2.1) (by decide), fun v hv => Nat.le_trans (g.2.2.2.2 v hv) (by decide), Q, hci, g.1⟩
theorem PlanNames_ok {w : World} (E : Env w) (a : Option Addr) (cs : List Col) (c : Nat) (g : GL w colC colQ a cs c) (_y : c * Tryz.prog.bytesOf ty.api_Column ≤ reachBytes) (x : List Value) (hx : ∃ q, QuC (fun _ => False) w q x) :
    Calls Tryz.prog f.law12_PlanNames #[.slice a cs.length c, .agg ⟨x⟩] w (Ret fun r w' => r = .bool true ∧ Below w.heap.size w w') := by
  obtain ⟨q, ai, aw, ag, ao, ci, cw, cg, co, rfl, A⟩ := args_of E g hx
  exact PlanNames_core A
end Go.Proofs.YtbpdfpfgijhokaaGreatDoor
