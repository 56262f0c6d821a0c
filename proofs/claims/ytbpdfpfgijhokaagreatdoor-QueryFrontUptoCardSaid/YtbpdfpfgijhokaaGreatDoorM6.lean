/-
  Texts of this claim, laid one behind the other by a program of mine (install.py): P.Qp2, P.Qp3, P.Qp4, P.ReadQ, P.Qp5, P.Qp6, P.Vp0, P.Vp1, P.PlEnv2, P.Inj1, P.Inj2, P.Inj3, P.Pm1, P.Pm2, P.Pm6, Dn.Sh4, P.Vp2.
-/
import Derived.Test.YtbpdfpfgijhokaaGreatDoorM5
import Derived.Test.YtbpdfpfgijhokaaGreatDoorRead
import Derived.Test.YtbpdfpfgijhokaaGreatDoorM3
import Derived.Test.YtbpdfpfgijhokaaGreatDoorM4
import Derived.Lib.AtoiAll
namespace Go.Proofs.YtbpdfpfgijhokaaGreatDoor
set_option maxRecDepth 100000
open Go.Dn Go.Proofs
open Go.RowKit (Below)
set_option linter.unusedVariables false
abbrev zex (b : Nat) : It := It.cells b #[.int .i64 0, .string E0, .int .i64 0, .int .i64 0, .string E0, .slice none 0 0] ty.api_Expr
abbrev tkI (b : Nat) (t : Tk) : It := It.cells b #[.int .i64 t.1, .int .i64 t.2.1, .string t.2.2] ty.query_token
def XR (f : FuncId) (more : List Value) (L L' : List Tk) (x : Ex) (Z : Option Addr → Nat → List It → Prop) : Prop :=
  ∀ {w0 w : World} {H : List It} {b : Nat}, Env w0 → PS w0 w b L H → Calls Tryz.prog f ⟨.pointer (some ⟨b, 0, none⟩) :: more⟩ w (Ret fun r w' => ∃ a cap K, Z a cap K ∧ r = .agg ⟨exHead x a cap⟩ ∧ PS w0 w' b L' (K ++ H))
def FR (lv : Int) (L L' : List Tk) (x : Ex) (own : Int) (Z : Option Addr → Nat → List It → Prop) : Prop :=
  ∀ {w0 w : World} {H : List It} {b : Nat}, Env w0 → PS w0 w b L H → Calls Tryz.prog f.query_parser_front #[.pointer (some ⟨b, 0, none⟩), .int .i64 lv] w (Ret fun r w' => ∃ a cap K, Z a cap K ∧ r = .tuple #[.agg ⟨exHead x a cap⟩, .int .i64 own] ∧ PS w0 w' b L' (K ++ H))
def leafR (a : Option Addr) (cap : Nat) (K : List It) : Prop := a = none ∧ cap = 0 ∧ K = []
structure PName (t : Tk) : Prop where
  w : t.2.1 = 1
  k : isKeyB t.2.2 = false
  hd : ∀ s ∈ headW, isB t s = false
section
variable {t u o : Tk} {L L1 L2 L' : List Tk} {x y : Ex} {Z Rx Ry : Option Addr → Nat → List It → Prop}
theorem patom_name (h : PName t) : XR f.query_parser_atom [] (t :: L) L (colX t.2.2) leafR := by
  intro w0 w H b E S
  apply R.query_parser_atom_calls
  unfold R.query_parser_atom
  refine S.newB fun b2 w1 S1 => (pnext_ok S1).mono ?_
  rintro _ w2 ⟨_, rfl, rfl, S2⟩
  refine ⟨_, _, _, rfl, S2.lit3 fun b7 w6 S6 => ⟨_, S6.cell 0 rfl rfl, IFB_eq (fun h2 => absurd (h.w.symm.trans h2) (by decide)) (fun _ => ⟨_, S6.cell 0 rfl rfl, IFB_eq (fun h3 => absurd (h.w.symm.trans h3) (by decide)) (fun _ => ?_)⟩)⟩⟩
  refine ⟨fun st w => st = [.bool false] ∧ PS w0 w b (t :: L) (tkI b7 t :: zex b2 :: H), pisN S6 (h.hd _ (by simp [headW])) fun w24 S24 => ⟨_, rfl, IFB_false (pisN S24 (h.hd _ (by simp [headW])) fun w25 S25 => ⟨_, rfl, IFB_false (pisN S25 (h.hd _ (by simp [headW])) fun w26 S26 => ⟨_, rfl, rfl, S26⟩)⟩)⟩, ?_⟩
  rintro _ w27 ⟨hst, S27⟩
  cases hst
  exact IFB_false (ptakeN S27 (h.hd _ (by simp [headW])) fun w36 S36 => ⟨_, rfl, IFB_false (ptakeN S36 (h.hd _ (by simp [headW])) fun w56 S56 => ⟨_, rfl, IFB_false (pnameY E S56 h.w h.k fun w73 S73 => ⟨_, rfl, S73.stEx 1 rfl fun w79 S79 => ⟨none, 0, [], ⟨rfl, rfl, rfl⟩, rfl, S79.drop 2⟩⟩)⟩)⟩)
def numX (n : Int) : Ex := .mk 2 E0 (1, n, E0) []
theorem patom_num (h : t.2.1 = 2) {n : Int} (hp : ∀ {w : World}, Calls Tryz.prog f.query_plain #[.string t.2.2] w (Ret fun r w' => r = .string t.2.2 ∧ Below w.heap.size w w'))
    (hc : ∀ {w : World}, Env w → Calls Tryz.prog f.query_constant #[.string t.2.2] w (Ret fun r w' => r = .agg ⟨exHead (numX n) none 0⟩ ∧ Below w.heap.size w w')) : XR f.query_parser_atom [] (t :: L) L (numX n) leafR := by
  intro w0 w H b E S
  apply R.query_parser_atom_calls
  unfold R.query_parser_atom
  refine S.newB fun b2 w1 S1 => (pnext_ok S1).mono ?_
  rintro _ w2 ⟨_, rfl, rfl, S2⟩
  refine ⟨_, _, _, rfl, S2.lit3 fun b7 w6 S6 => ⟨_, S6.cell 0 rfl rfl, IFB_eq (fun _ => (pskip_ok S6).mono ?_) (fun h2 => absurd h h2)⟩⟩
  rintro _ w7 ⟨_, rfl, rfl, S7⟩
  exact ⟨_, _, _, rfl, S7.call hp fun w8 S8 => ⟨_, rfl, S8.call (hc (E.grown S8.bel)) fun w9 S9 => ⟨_, _, _, _, _, _, _, _, rfl, S9.stEx 1 rfl fun w15 S15 => ⟨none, 0, [], ⟨rfl, rfl, rfl⟩, rfl, S15.drop 2⟩⟩⟩⟩
theorem ps_mid {w0 w : World} {b : Nat} {K H : List It} {z : It} (S : PS w0 w b L (K ++ z :: H)) : PS w0 w b L (z :: (K ++ H)) := S.perm List.perm_middle
theorem patom_par (h4 : t.2.1 = 4) (hh : ∀ s ∈ [(⟨#[110, 117, 108, 108]⟩ : ByteArray), ⟨#[116, 114, 117, 101]⟩, ⟨#[102, 97, 108, 115, 101]⟩, ⟨#[108, 101, 110]⟩], isB t s = false) (ho : isB t ⟨#[40]⟩ = true) (hx : XR f.query_parser_expr [.int .i64 1] L1 (u :: L2) x Z) (hu : isB u ⟨#[41]⟩ = true) :
    XR f.query_parser_atom [] (t :: L1) L2 x Z := by
  intro w0 w H b E S
  apply R.query_parser_atom_calls
  unfold R.query_parser_atom
  refine S.newB fun b2 w1 S1 => (pnext_ok S1).mono ?_
  rintro _ w2 ⟨_, rfl, rfl, S2⟩
  refine ⟨_, _, _, rfl, S2.lit3 fun b7 w6 S6 => ⟨_, S6.cell 0 rfl rfl, IFB_eq (fun h2 => absurd (h4.symm.trans h2) (by decide)) (fun _ => ⟨_, S6.cell 0 rfl rfl, IFB_eq (fun h3 => absurd (h4.symm.trans h3) (by decide)) (fun _ => ?_)⟩)⟩⟩
  refine ⟨fun st w => st = [.bool false] ∧ PS w0 w b (t :: L1) (tkI b7 t :: zex b2 :: H), pisN S6 (hh _ (by simp)) fun w24 S24 => ⟨_, rfl, IFB_false (pisN S24 (hh _ (by simp)) fun w25 S25 => ⟨_, rfl, IFB_false (pisN S25 (hh _ (by simp)) fun w26 S26 => ⟨_, rfl, rfl, S26⟩)⟩)⟩, ?_⟩
  rintro _ w27 ⟨hst, S27⟩
  cases hst
  refine IFB_false (ptakeN S27 (hh _ (by simp)) fun w36 S36 => ⟨_, rfl, IFB_false (ptakeY S36 ho fun w56 S56 => ⟨_, rfl, IFB_true ((hx E S56).mono ?_)⟩)⟩)
  rintro _ w57 ⟨_, rfl, a, cap, K, hR, rfl, S57⟩
  have S57 : PS w0 w57 b (u :: L2) (zex b2 :: (tkI b7 t :: (K ++ H))) := ((ps_mid S57).perm (List.Perm.cons _ List.perm_middle)).perm (List.Perm.swap _ _ _)
  refine ⟨_, _, _, _, _, _, _, _, rfl, S57.lit6 fun b107 w64 S64 => S64.newB fun b108 w65 S65 => pneedY S65 hu fun w66 S66 => ⟨rfl, S66.stX 0 rfl (S66.stEx 1 rfl fun w72 S72 => ⟨a, cap, K, hR, rfl, S72.drop 3⟩)⟩⟩
theorem pminus_ok (hx : XR f.query_parser_atom [] (t :: L) L' x Z) (hm : isB t ⟨#[45]⟩ = false) : XR f.query_parser_minus [] (t :: L) L' x Z := by
  intro w0 w H b E S
  apply R.query_parser_minus_calls
  unfold R.query_parser_minus
  refine S.newB fun b2 w1 S1 => ptakeN S1 hm fun w2 S2 => ⟨_, rfl, IFB_not (IFB_false ((hx E S2).mono ?_))⟩
  rintro _ w3 ⟨_, rfl, a, cap, K, hR, rfl, S3⟩
  exact ⟨_, _, _, _, _, _, _, _, rfl, (ps_mid S3).stEx 0 rfl fun w9 S9 => ⟨a, cap, K, hR, rfl, S9.drop 1⟩⟩
theorem pfront_ok {lv : Int} (hx : XR f.query_parser_minus [] (t :: L) L' x Z) (hn : isB t ⟨#[110, 111, 116]⟩ = false) : FR lv (t :: L) L' x 9 Z := by
  intro w0 w H b E S
  apply R.query_parser_front_calls
  unfold R.query_parser_front
  refine S.newB fun b3 w1 S1 => IFB_dec (fun _ => ptakeN S1 hn fun w2 S2 => ⟨_, rfl, IFB_false ((hx E S2).mono ?_)⟩) (fun _ => (hx E S1).mono ?_)
  · rintro _ w11 ⟨_, rfl, a, cap, K, hR, rfl, S3⟩
    exact ⟨_, _, _, _, _, _, _, _, rfl, (ps_mid S3).stEx 0 rfl fun w9 S9 => ⟨a, cap, K, hR, rfl, S9.drop 1⟩⟩
  · rintro _ w18 ⟨_, rfl, a, cap, K, hR, rfl, S3⟩
    exact ⟨_, _, _, _, _, _, _, _, rfl, (ps_mid S3).stEx 0 rfl fun w9 S9 => ⟨a, cap, K, hR, rfl, S9.drop 1⟩⟩
def isW : ByteArray := ⟨#[105, 115]⟩
theorem pexpr_end {lv own : Int} (hf : FR lv L (u :: L') x own Z) (hi : isB u isW = false) (hp : (powF u).1 < lv ∨ (powF u).1 = 0) : XR f.query_parser_expr [.int .i64 lv] L (u :: L') x Z := by
  intro w0 w H b E S
  apply R.query_parser_expr_calls
  unfold R.query_parser_expr
  refine S.newB fun b3 w1 S1 => (hf E S1).mono ?_
  rintro _ w2 ⟨_, rfl, a, cap, K, hR, rfl, S2⟩
  refine ⟨_, _, _, _, _, _, _, _, _, rfl, (ps_mid S2).lit6 fun b12 w9 S9 => ?_⟩
  have S9 : PS w0 w9 b (u :: L') (exI b12 (exHead x a cap) :: zex b3 :: (K ++ H)) := S9
  refine ⟨fun st w => st = [.int .i64 own] ∧ PS w0 w b (u :: L') (exI b12 (exHead x a cap) :: zex b3 :: (K ++ H)), fun _ _ => 0, ⟨rfl, S9⟩, ?_⟩
  rintro t w10 ⟨hst, S10⟩
  cases hst
  refine pisN S10 hi fun w11 S11 => ⟨_, rfl, IFB_false ((pnext_ok S11).mono ?_)⟩
  rintro _ w33 ⟨_, rfl, rfl, S33⟩
  refine ⟨_, _, _, rfl, S33.call (ppower_ok u) fun w34 S34 => ⟨_, _, rfl, fun _ _ => False, IFB_dec (fun _ => ?_) (fun hge => IFB_eq (fun _ => ?_) (fun hne => ?_)), fun _ h => h.elim⟩⟩
  · exact S34.stX 0 rfl (S34.stEx 1 rfl fun w40 S40 => ⟨a, cap, K, hR, rfl, S40.drop 2⟩)
  · exact S34.stX 0 rfl (S34.stEx 1 rfl fun w40 S40 => ⟨a, cap, K, hR, rfl, S40.drop 2⟩)
  · rcases hp with hp | hp
    · exact absurd hp hge
    · exact absurd hp hne
def opR (x y : Ex) (Rx Ry : Option Addr → Nat → List It → Prop) (a : Option Addr) (cap : Nat) (K : List It) : Prop :=
  ∃ k a0 c0 K0 a1 c1 K1, Rx a0 c0 K0 ∧ Ry a1 c1 K1 ∧ a = some ⟨k, 0, none⟩ ∧ cap = 2 ∧ K = It.cells k ⟨exHead x a0 c0 ++ exHead y a1 c1⟩ ty.api_Expr :: (K1 ++ K0)
theorem PS.sto6 {w0 w : World} {b : Nat} {H : List It} (S : PS w0 w b L H) (n : Nat) {b' : Nat} {x0 x1 x2 x3 x4 x5 v0 v1 v2 v3 v4 v5 : Value} {ty : TypeId} (hn : H[n]? = some (It.cells b' #[x0, x1, x2, x3, x4, x5] ty)) {k : World → Prop} (hk : ∀ w', PS w0 w' b L (H.set n (It.cells b' #[v0, v1, v2, v3, v4, v5] ty)) → k w') :
    STO ⟨b', 0, none⟩ v0 (fun w => STO ⟨b', 1, none⟩ v1 (fun w => STO ⟨b', 2, none⟩ v2 (fun w => STO ⟨b', 3, none⟩ v3 (fun w => STO ⟨b', 4, none⟩ v4 (fun w => STO ⟨b', 5, none⟩ v5 k w) w) w) w) w) w := by
  have hlt := (List.getElem?_eq_some_iff.1 hn).1
  have g : ∀ {x : It}, (H.set n x)[n]? = some x := List.getElem?_set_self hlt
  refine S.sto n hn (cs' := #[v0, x1, x2, x3, x4, x5]) (by simp) rfl fun w1 S1 => S1.sto n g (cs' := #[v0, v1, x2, x3, x4, x5]) (by simp) rfl fun w2 S2 => ?_
  rw [List.set_set] at S2
  refine S2.sto n g (cs' := #[v0, v1, v2, x3, x4, x5]) (by simp) rfl fun w3 S3 => ?_
  rw [List.set_set] at S3
  refine S3.sto n g (cs' := #[v0, v1, v2, v3, x4, x5]) (by simp) rfl fun w4 S4 => ?_
  rw [List.set_set] at S4
  refine S4.sto n g (cs' := #[v0, v1, v2, v3, v4, x5]) (by simp) rfl fun w5 S5 => ?_
  rw [List.set_set] at S5
  refine S5.sto n g (cs' := #[v0, v1, v2, v3, v4, v5]) (by simp) rfl fun w6 S6 => ?_
  rw [List.set_set] at S6
  exact hk w6 S6
theorem pexpr_op {lv m : Int} (hf : FR lv L (o :: L1) x 9 Rx) (hm : IntKind.i64.wrap ((powF o).1 + 1) = m) (hy : XR f.query_parser_expr [.int .i64 m] L1 (u :: L2) y Ry) (hio : isB o isW = false) (hlv : lv ≤ (powF o).1) (h1 : 6 ≤ (powF o).1) (h8 : (powF o).1 ≤ 8) (hi : isB u isW = false) (hp : (powF u).1 = 0) :
    XR f.query_parser_expr [.int .i64 lv] L (u :: L2) (.mk (powF o).2 E0 V0 [x, y]) (opR x y Rx Ry) := by
  intro w0 w H b E S
  apply R.query_parser_expr_calls
  unfold R.query_parser_expr
  refine S.newB fun b3 w1 S1 => (hf E S1).mono ?_
  rintro _ w2 ⟨_, rfl, a0, c0, K0, hRx, rfl, S2⟩
  refine ⟨_, _, _, _, _, _, _, _, _, rfl, (ps_mid S2).lit6 fun b12 w9 S9 => ?_⟩
  have S9 : PS w0 w9 b (o :: L1) (exI b12 (exHead x a0 c0) :: zex b3 :: (K0 ++ H)) := S9
  obtain ⟨X, hX⟩ : ∃ X, X = Ex.mk (powF o).2 E0 V0 [x, y] := ⟨_, rfl⟩
  rw [← hX]
  refine ⟨fun st w => (st = [.int .i64 9] ∧ PS w0 w b (o :: L1) (exI b12 (exHead x a0 c0) :: zex b3 :: (K0 ++ H))) ∨ (st = [.int .i64 (powF o).1] ∧ ∃ a cap K, opR x y Rx Ry a cap K ∧ PS w0 w b (u :: L2) (exI b12 (exHead X a cap) :: zex b3 :: (K ++ H))),
    fun st _ => match st with | [.int _ t] => if t = 9 then 1 else 0 | _ => 0, .inl ⟨rfl, S9⟩, ?_⟩
  rintro t w10 (⟨hst, S10⟩ | ⟨hst, a, cap, K, hR, S10⟩)
  · cases hst
    refine pisN S10 hio fun w11 S11 => ⟨_, rfl, IFB_false ((pnext_ok S11).mono ?_)⟩
    rintro _ w33 ⟨_, rfl, rfl, S33⟩
    refine ⟨_, _, _, rfl, S33.call (ppower_ok o) fun w34 S34 => ⟨_, _, rfl, fun _ w => PS w0 w b (o :: L1) (exI b12 (exHead x a0 c0) :: zex b3 :: (K0 ++ H)), IFB_dec (fun h => absurd h (by omega)) (fun _ => IFB_eq (fun h => absurd h (by omega)) (fun _ => IFB_dec (fun h => absurd h (by omega)) (fun _ => IFB_eq (fun h => absurd h (by omega)) (fun _ => S34)))), fun w59 S59 => (pskip_ok S59).mono ?_⟩⟩
    rintro _ w60 ⟨_, rfl, rfl, S60⟩
    refine ⟨_, _, _, rfl, S60.draw fun w61 S61 => S61.stX 0 rfl ?_⟩
    rw [hm]
    refine (hy E S61).mono ?_
    rintro _ w62 ⟨_, rfl, a1, c1, K1, hRy, rfl, S62⟩
    have S62 : PS w0 w62 b (u :: L2) (exI b12 (exHead x a0 c0) :: zex b3 :: (K1 ++ (K0 ++ H))) := (ps_mid S62).perm (List.Perm.cons _ List.perm_middle)
    refine ⟨_, _, _, _, _, _, _, _, rfl, ⟨S62.cell 0 rfl rfl, S62.cell 0 rfl rfl, S62.cell 0 rfl rfl, S62.cell 0 rfl rfl, S62.cell 0 rfl rfl, S62.cell 0 rfl rfl⟩, S62.newB fun k w63 S63 => S63.sto6 1 rfl fun w69 S69 => ⟨.inr ⟨rfl, some ⟨k, 0, none⟩, 2, It.cells k ⟨exHead x a0 c0 ++ exHead y a1 c1⟩ ty.api_Expr :: (K1 ++ K0), ⟨k, a0, c0, K0, a1, c1, K1, hRx, hRy, rfl, rfl, rfl⟩, ?_⟩, ?_⟩⟩
    · have S70 : PS w0 w69 b (u :: L2) (It.cells k ⟨exHead x a0 c0 ++ exHead y a1 c1⟩ ty.api_Expr :: exI b12 (exHead X (some ⟨k, 0, none⟩) 2) :: zex b3 :: (K1 ++ (K0 ++ H))) := by rw [hX]; exact S69
      rw [← List.append_assoc] at S70
      exact (S70.perm (List.Perm.swap _ _ _)).perm (List.Perm.cons _ (List.Perm.swap _ _ _))
    · show (if (powF o).1 = 9 then 1 else 0) < (if (9 : Int) = 9 then 1 else 0)
      rw [if_neg (by omega), if_pos rfl]
      decide
  · cases hst
    refine pisN S10 hi fun w11 S11 => ⟨_, rfl, IFB_false ((pnext_ok S11).mono ?_)⟩
    rintro _ w33 ⟨_, rfl, rfl, S33⟩
    refine ⟨_, _, _, rfl, S33.call (ppower_ok u) fun w34 S34 => ⟨_, _, rfl, fun _ _ => False, IFB_dec (fun _ => ?_) (fun hge => IFB_eq (fun _ => ?_) (fun hne => absurd hp hne)), fun _ h => h.elim⟩⟩
    · exact S34.stX 0 rfl (S34.stEx 1 rfl fun w40 S40 => ⟨a, cap, K, hR, rfl, S40.drop 2⟩)
    · exact S34.stX 0 rfl (S34.stEx 1 rfl fun w40 S40 => ⟨a, cap, K, hR, rfl, S40.drop 2⟩)
end
section
variable {w0 w : World} {b : Nat} {L L' : List Tk} {H : List It}
theorem PS.front (A : List It) {K : List It} (S : PS w0 w b L (K ++ (A ++ H))) : PS w0 w b L (A ++ (K ++ H)) := S.perm (List.perm_append_comm_assoc K A H)
theorem PS.ok (S : PS w0 w b L H) : ∀ it ∈ H, it.ok w := by
  obtain ⟨x, c, h1, h2, S⟩ := S
  exact fun it hi => S.ok it (List.mem_cons_of_mem _ (List.mem_cons_of_mem _ hi))
theorem PS.nil (S : PS w0 w b L H) (e : TypeId) (sz : Nat) : PS w0 w b L (It.row e sz none 0 0 [] :: H) := by
  obtain ⟨x, c, h1, h2, S⟩ := S
  exact ⟨x, c, h1, h2, ppL_in (S.nil e sz)⟩
theorem PS.rdc (S : PS w0 w b L H) (n : Nat) {b' : Nat} {cs : Array Value} {t : TypeId} (hn : H[n]? = some (It.cells b' cs t)) : Rd w (some ⟨b', 0, none⟩) cs.toList := by
  obtain ⟨x, c, h1, h2, S⟩ := S
  exact S.rdc (n + 2) hn
theorem PS.rw (S : PS w0 w b L H) (n : Nat) {e : TypeId} {sz : Nat} {a : Option Addr} {m c : Nat} {xs : List Value} (hn : H[n]? = some (It.row e sz a m c xs)) : Row w e sz a m c xs := by
  obtain ⟨x, c, h1, h2, S⟩ := S
  exact S.rw (n + 2) hn
theorem PS.app (S : PS w0 w b L H) (n : Nat) {P : Program} {t ty e : TypeId} {sz bytes : Nat} {z : Value} {a : Option Addr} {m c : Nat} {xs : List Value} (hn : H[n]? = some (It.row e sz a m c xs)) (hT : slT P t = some (e, sz, bytes, z)) (hz : z.cells.size = sz) (hsz : 0 < sz) (hb0 : 0 < bytes)
    {b2 : Option Addr} {mm mc : Nat} {news : List Value} (hs : Rd w b2 news) (hl : news.length = mm * sz) (h1 : ∀ u ∈ news, u.oneCell' = true) (hby : (m + mm) * bytes ≤ 140737488355328) {f : Value → World → Prop}
    (hf : ∀ a' c' w', PS w0 w' b L (H.set n (It.row e sz a' (m + mm) c' (xs ++ news))) → f (.slice a' (m + mm) c') w') : OPR P (Builtin.append_ #[t, t] ty #[.slice a m c, .slice b2 mm mc]) f w := by
  obtain ⟨x, cc, g1, g2, S⟩ := S
  exact S.app (n + 2) hn hT hz hsz hb0 hs hl h1 hby fun a' c' w' S' => hf a' c' w' ⟨x, cc, g1, g2, S'⟩
theorem PS.stoR (S : PS w0 w b L H) (n : Nat) {e : TypeId} {sz g m c : Nat} {xs : List Value} (hn : H[n]? = some (It.row e sz (some ⟨g, 0, none⟩) m c xs)) {j : Nat} (hj : j < m * sz) {v : Value} {k : World → Prop}
    (hk : ∀ w', PS w0 w' b L (H.set n (It.row e sz (some ⟨g, 0, none⟩) m c (xs.set j v))) → k w') : STO ⟨g, j, none⟩ v k w := by
  obtain ⟨x, cc, g1, g2, S⟩ := S
  exact S.stoR (n + 2) hn hj fun w' S' => hk w' ⟨x, cc, g1, g2, S'⟩
theorem PS.stoR6 (S : PS w0 w b L H) (n : Nat) {e : TypeId} {g c : Nat} {x0 x1 x2 x3 x4 x5 v0 v1 v2 v3 v4 v5 : Value} (hn : H[n]? = some (It.row e 6 (some ⟨g, 0, none⟩) 1 c [x0, x1, x2, x3, x4, x5])) {k : World → Prop}
    (hk : ∀ w', PS w0 w' b L (H.set n (It.row e 6 (some ⟨g, 0, none⟩) 1 c [v0, v1, v2, v3, v4, v5])) → k w') :
    STO ⟨g, 0, none⟩ v0 (fun w => STO ⟨g, 1, none⟩ v1 (fun w => STO ⟨g, 2, none⟩ v2 (fun w => STO ⟨g, 3, none⟩ v3 (fun w => STO ⟨g, 4, none⟩ v4 (fun w => STO ⟨g, 5, none⟩ v5 k w) w) w) w) w) w := by
  have hlt := (List.getElem?_eq_some_iff.1 hn).1
  have gg : ∀ {x : It}, (H.set n x)[n]? = some x := List.getElem?_set_self hlt
  refine S.stoR n hn (by omega) fun w1 S1 => S1.stoR n gg (by omega) fun w2 S2 => ?_
  rw [List.set_set] at S2
  refine S2.stoR n gg (by omega) fun w3 S3 => ?_
  rw [List.set_set] at S3
  refine S3.stoR n gg (by omega) fun w4 S4 => ?_
  rw [List.set_set] at S4
  refine S4.stoR n gg (by omega) fun w5 S5 => ?_
  rw [List.set_set] at S5
  refine S5.stoR n gg (by omega) fun w6 S6 => ?_
  rw [List.set_set] at S6
  exact hk w6 S6
theorem PS.sto8 (S : PS w0 w b L H) (n : Nat) {b' : Nat} {x0 x1 x2 x3 x4 x5 x6 x7 v0 v1 v2 v3 v4 v5 v6 v7 : Value} {t : TypeId} (hn : H[n]? = some (It.cells b' #[x0, x1, x2, x3, x4, x5, x6, x7] t)) {k : World → Prop} (hk : ∀ w', PS w0 w' b L (H.set n (It.cells b' #[v0, v1, v2, v3, v4, v5, v6, v7] t)) → k w') :
    STO ⟨b', 0, none⟩ v0 (fun w => STO ⟨b', 1, none⟩ v1 (fun w => STO ⟨b', 2, none⟩ v2 (fun w => STO ⟨b', 3, none⟩ v3 (fun w => STO ⟨b', 4, none⟩ v4 (fun w => STO ⟨b', 5, none⟩ v5 (fun w => STO ⟨b', 6, none⟩ v6 (fun w => STO ⟨b', 7, none⟩ v7 k w) w) w) w) w) w) w) w := by
  obtain ⟨x, cc, g1, g2, S⟩ := S
  exact S.sto8 (n + 2) hn fun w' S' => hk w' ⟨x, cc, g1, g2, S'⟩
theorem PS.stIx6 (S : PS w0 w b L H) (n : Nat) {b' : Nat} {x0 x1 x2 x3 x4 x5 x6 x7 v2 v3 v4 v5 v6 v7 : Value} {t : TypeId} (hn : H[n]? = some (It.cells b' #[x0, x1, x2, x3, x4, x5, x6, x7] t)) {k : World → Prop}
    (hk : ∀ w', PS w0 w' b L (H.set n (It.cells b' #[x0, x1, v2, v3, v4, v5, v6, v7] t)) → k w') :
    STO ⟨b', 2, none⟩ v2 (fun w => STO ⟨b', 3, none⟩ v3 (fun w => STO ⟨b', 4, none⟩ v4 (fun w => STO ⟨b', 5, none⟩ v5 (fun w => STO ⟨b', 6, none⟩ v6 (fun w => STO ⟨b', 7, none⟩ v7 k w) w) w) w) w) w := by
  obtain ⟨x, cc, g1, g2, S⟩ := S
  exact Go.Proofs.YtbpdfpfgijhokaaGreatDoor.stIx6 S (n + 2) hn fun w' S' => hk w' ⟨x, cc, g1, g2, S'⟩
theorem PS.stI (S : PS w0 w b L H) (n : Nat) {b' : Nat} {i : Itm} {a : Option Addr} {cap : Nat} (hn : H[n]? = some (itI b' i a cap)) {Q : ByteArray → Int → Int → ByteArray → Int → Int → ByteArray → Option Addr → Nat → Nat → Prop} (hq : Q i.1 i.2.1 i.2.2.op i.2.2.nm i.2.2.v.1 i.2.2.v.2.1 i.2.2.v.2.2 a i.2.2.ks.length cap) :
    ∃ t0 : ByteArray, w.cell? ⟨b', 0, none⟩ = some (.string t0) ∧ ∃ t1 : Int, w.cell? ⟨b', 1, none⟩ = some (.int .i64 t1) ∧ ∃ t2 : Int, w.cell? ⟨b', 2, none⟩ = some (.int .i64 t2) ∧ ∃ t3 : ByteArray, w.cell? ⟨b', 3, none⟩ = some (.string t3) ∧ ∃ t4 : Int, w.cell? ⟨b', 4, none⟩ = some (.int .i64 t4) ∧ ∃ t5 : Int, w.cell? ⟨b', 5, none⟩ = some (.int .i64 t5) ∧ ∃ t6 : ByteArray, w.cell? ⟨b', 6, none⟩ = some (.string t6) ∧
      ∃ (t7 : Option Addr) (l c : Nat), w.cell? ⟨b', 7, none⟩ = some (.slice t7 l c) ∧ Q t0 t1 t2 t3 t4 t5 t6 t7 l c := by
  obtain ⟨x, cc, g1, g2, S⟩ := S
  exact Go.Proofs.YtbpdfpfgijhokaaGreatDoor.stI S (n + 2) hn hq
theorem PS.stItm (S : PS w0 w b L H) (n : Nat) {b' : Nat} {x0 x1 x2 x3 x4 x5 x6 x7 : Value} {t1 t2 t4 t5 : Int} {t0 t3 t6 : ByteArray} {a7 : Option Addr} {l7 c7 : Nat} {t : TypeId} (hn : H[n]? = some (It.cells b' #[x0, x1, x2, x3, x4, x5, x6, x7] t)) {Q : ByteArray → Int → Int → ByteArray → Int → Int → ByteArray → Option Addr → Nat → Nat → World → Prop}
    (hk : ∀ w', PS w0 w' b L (H.set n (It.cells b' #[.string t0, .int .i64 t1, .int .i64 t2, .string t3, .int .i64 t4, .int .i64 t5, .string t6, .slice a7 l7 c7] t)) → Q t0 t1 t2 t3 t4 t5 t6 a7 l7 c7 w') :
    STO ⟨b', 0, none⟩ (.string t0) (fun w => STO ⟨b', 1, none⟩ (.int .i64 t1) (fun w => STO ⟨b', 2, none⟩ (.int .i64 t2) (fun w => STO ⟨b', 3, none⟩ (.string t3) (fun w => STO ⟨b', 4, none⟩ (.int .i64 t4) (fun w => STO ⟨b', 5, none⟩ (.int .i64 t5) (fun w => STO ⟨b', 6, none⟩ (.string t6) (fun w => STO ⟨b', 7, none⟩ (.slice a7 l7 c7) (fun w =>
      ∃ r0 : ByteArray, w.cell? ⟨b', 0, none⟩ = some (.string r0) ∧ ∃ r1 : Int, w.cell? ⟨b', 1, none⟩ = some (.int .i64 r1) ∧ ∃ r2 : Int, w.cell? ⟨b', 2, none⟩ = some (.int .i64 r2) ∧ ∃ r3 : ByteArray, w.cell? ⟨b', 3, none⟩ = some (.string r3) ∧ ∃ r4 : Int, w.cell? ⟨b', 4, none⟩ = some (.int .i64 r4) ∧ ∃ r5 : Int, w.cell? ⟨b', 5, none⟩ = some (.int .i64 r5) ∧ ∃ r6 : ByteArray, w.cell? ⟨b', 6, none⟩ = some (.string r6) ∧
      ∃ (r7 : Option Addr) (l c : Nat), w.cell? ⟨b', 7, none⟩ = some (.slice r7 l c) ∧ Q r0 r1 r2 r3 r4 r5 r6 r7 l c w) w) w) w) w) w) w) w) w := by
  obtain ⟨x, cc, g1, g2, S⟩ := S
  exact Go.Proofs.YtbpdfpfgijhokaaGreatDoor.stItm S (n + 2) hn fun w' S' => hk w' ⟨x, cc, g1, g2, S'⟩
/-! ### what is led to is an expression -/
def RX (x : Ex) (Z : Option Addr → Nat → List It → Prop) : Prop := ∀ {w : World} {a : Option Addr} {cap : Nat} {K : List It}, Z a cap K → (∀ it ∈ K, it.ok w) → XC w x (exHead x a cap)
theorem rx_leaf {op : Int} {s : ByteArray} {v : Val} (h1 : i64 op) (h2 : s.size ≤ maxLen) (h3 : i64 v.1) (h4 : i64 v.2.1) (h5 : v.2.2.size ≤ maxLen) : RX (.mk op s v []) leafR := by
  rintro w a cap K ⟨rfl, rfl, rfl⟩ _
  exact ExC.close (rs := []) (Rd.nil _ _) (by simp) (Nat.le_refl _) (by decide) (fun _ => rfl) ⟨h1, h2, h3, h4, h5⟩ ExL.nil
theorem rx_op {op : Int} {x y : Ex} {Rx Ry : Option Addr → Nat → List It → Prop} (hop : i64 op) (hx : RX x Rx) (hy : RX y Ry) : RX (.mk op E0 V0 [x, y]) (opR x y Rx Ry) := by
  rintro w a cap K ⟨k, a0, c0, K0, a1, c1, K1, h0, h1, rfl, rfl, rfl⟩ hok
  have hk : w.heap[k]? = some (.cells ⟨exHead x a0 c0 ++ exHead y a1 c1⟩ ty.api_Expr (0, 0)) := hok (It.cells k ⟨exHead x a0 c0 ++ exHead y a1 c1⟩ ty.api_Expr) (by simp)
  have g0 := hx h0 fun it hi => hok it (by simp [hi])
  have g1 := hy h1 fun it hi => hok it (by simp [hi])
  exact ExC.close (rs := exHead x a0 c0 ++ exHead y a1 c1) (Rd.of_block0 hk) (by simp) (Nat.le_refl _) (by decide) (fun h => by cases h) ⟨hop, by show E0.size ≤ maxLen; decide, ⟨by show -9223372036854775808 ≤ (0 : Int); decide, by show (0 : Int) ≤ 9223372036854775807; decide⟩, ⟨by show -9223372036854775808 ≤ (0 : Int); decide, by show (0 : Int) ≤ 9223372036854775807; decide⟩, by show E0.size ≤ maxLen; decide⟩ (rowsC_exL.1 (RowsC.append (RowsC.one g0) (RowsC.one g1)))
/-! ### an item that sums -/
theorem gat_at (E : Env w) {j : Nat} {v : Value} (h : gatherCells[j]? = some v) : w.cell? ⟨0, j, none⟩ = some v := by
  obtain ⟨p, hp, hc⟩ := E.gat j v h
  cases hp
  rw [addr_add_blk, Nat.zero_add] at hc
  exact hc
def sumW : ByteArray := ⟨#[115, 117, 109]⟩
theorem pgather_ok (E : Env w) : Calls Tryz.prog f.query_gathering #[.string sumW] w (Ret fun r w' => r = .int .i64 3 ∧ w' = w) := by
  apply R.query_gathering_calls
  unfold R.query_gathering
  refine ⟨_, gat_at E (j := 0) rfl, _, gat_at E (j := 1) rfl, _, gat_at E (j := 2) rfl, _, gat_at E (j := 3) rfl, _, gat_at E (j := 4) rfl, _, gat_at E (j := 5) rfl, forUp 6 (fun j w' => j ≤ 3 ∧ w' = w) (by omega) ⟨by omega, rfl⟩ fun I M j w1 hj h next => ?_⟩
  obtain ⟨hj3, rfl⟩ := h
  refine IFB_dec (fun hlt => ⟨⟨by omega, hlt⟩, ?_⟩) (fun hge => by omega)
  rcases (show j = 0 ∨ j = 1 ∨ j = 2 ∨ j = 3 by omega) with rfl | rfl | rfl | rfl
  · exact ⟨_, rfl, IFB_dec (fun h => absurd h (by decide)) (fun _ => next _ (by omega) ⟨by omega, rfl⟩)⟩
  · exact ⟨_, rfl, IFB_dec (fun h => absurd h (by decide)) (fun _ => next _ (by omega) ⟨by omega, rfl⟩)⟩
  · exact ⟨_, rfl, IFB_dec (fun _ => IFB_no (by rw [bytesEq_iff]; decide) (next _ (by omega) ⟨by omega, rfl⟩)) (fun h => absurd h (by decide))⟩
  · exact ⟨_, rfl, IFB_dec (fun _ => IFB_yes (by rw [bytesEq_iff]; decide) ⟨rfl, rfl⟩) (fun h => absurd h (by decide))⟩
def IR (L L' : List Tk) (i : Itm) (Z : Option Addr → Nat → List It → Prop) : Prop :=
  ∀ {w0 w : World} {H : List It} {b : Nat}, Env w0 → PS w0 w b L H → Calls Tryz.prog f.query_parser_item #[.pointer (some ⟨b, 0, none⟩)] w (Ret fun r w' => ∃ a cap K, Z a cap K ∧ r = .agg ⟨itHead i a cap⟩ ∧ PS w0 w' b L' (K ++ H))
end
theorem pitem_ok {g o cl s nm : Tk} {L1 L2 : List Tk} {x : Ex} {Z : Option Addr → Nat → List It → Prop} (hg : g.2.1 = 1) (hg2 : g.2.2 = sumW) (ho : isB o ⟨#[40]⟩ = true) (hx : XR f.query_parser_expr [.int .i64 1] L1 (cl :: s :: nm :: L2) x Z) (hc : isB cl ⟨#[41]⟩ = true) (hs : isB s asW = true) (h1 : nm.2.1 = 1) (h2 : isKeyB nm.2.2 = false) :
    IR (g :: o :: L1) L2 (nm.2.2, 3, x) Z := by
  intro w0 w H b E S
  apply R.query_parser_item_calls
  unfold R.query_parser_item
  refine S.newB fun b2 w1 S1 => S1.newB fun b3 w2 S2 => S2.sto8 0 rfl fun w10 S10 => ?_
  have S10 : PS w0 w10 b (g :: o :: L1) (It.cells b3 #[.string E0, .int .i64 0, .int .i64 0, .string E0, .int .i64 0, .int .i64 0, .string E0, .slice none 0 0] ty.api_Item :: It.cells b2 #[.string E0, .int .i64 0, .int .i64 0, .string E0, .int .i64 0, .int .i64 0, .string E0, .slice none 0 0] ty.api_Item :: H) := S10
  refine ⟨fun st w => st = [.int .i64 3] ∧ PS w0 w b (g :: o :: L1) (It.cells b3 #[.string E0, .int .i64 0, .int .i64 0, .string E0, .int .i64 0, .int .i64 0, .string E0, .slice none 0 0] ty.api_Item :: It.cells b2 #[.string E0, .int .i64 0, .int .i64 0, .string E0, .int .i64 0, .int .i64 0, .string E0, .slice none 0 0] ty.api_Item :: H), (pnext_ok S10).mono ?_, ?_⟩
  · rintro _ w11 ⟨_, rfl, rfl, S11⟩
    refine ⟨_, _, _, rfl, S11.lit3 fun b8 w15 S15 => ⟨_, S15.cell 0 rfl rfl, IFB_eq (fun _ => ⟨_, S15.cell 0 rfl rfl, ?_⟩) (fun h => absurd hg h)⟩⟩
    rw [hg2]
    exact call0 (pgather_ok (E.grown S15.bel)) ⟨_, rfl, rfl, S15.drop 1⟩
  rintro _ w17 ⟨hst, S17⟩
  cases hst
  refine ⟨fun _ w => ∃ a cap K, Z a cap K ∧ PS w0 w b (s :: nm :: L2) (itI b3 (E0, 3, x) a cap :: It.cells b2 #[.string E0, .int .i64 0, .int .i64 0, .string E0, .int .i64 0, .int .i64 0, .string E0, .slice none 0 0] ty.api_Item :: (K ++ H)), IFB_eq (fun h => by cases h) (fun _ => (pskip_ok S17).mono ?_), ?_⟩
  · rintro _ w25 ⟨_, rfl, rfl, S25⟩
    refine ⟨_, _, _, rfl, S25.newB fun b26 w26 S26 => pneedY S26 ho fun w27 S27 => ⟨rfl, S27.sto 0 rfl (cs' := #[.string E0, .int .i64 3, .int .i64 0, .string E0, .int .i64 0, .int .i64 0, .string E0, .slice none 0 0]) (by show 1 < 8; omega) rfl fun w28 S28 => IFB_eq (fun h => by cases h) (fun _ => (hx E S28).mono ?_)⟩⟩
    rintro _ w42 ⟨_, rfl, a, cap, K, hR, rfl, S42⟩
    have S42 := PS.front [It.cells b3 #[.string E0, .int .i64 3, .int .i64 0, .string E0, .int .i64 0, .int .i64 0, .string E0, .slice none 0 0] ty.api_Item, It.cells b2 #[.string E0, .int .i64 0, .int .i64 0, .string E0, .int .i64 0, .int .i64 0, .string E0, .slice none 0 0] ty.api_Item] S42
    exact ⟨_, _, _, _, _, _, _, _, rfl, S42.stIx6 0 rfl fun w48 S48 => S48.newB fun b48 w49 S49 => pneedY S49 hc fun w50 S50 => ⟨rfl, a, cap, K, hR, S50⟩⟩
  rintro w51 ⟨a, cap, K, hR, S51⟩
  refine S51.newB fun b51 w52 S52 => pneedY S52 hs fun w53 S53 => ⟨rfl, pnameY E S53 h1 h2 fun w54 S54 => ⟨_, rfl, S54.sto 0 rfl (cs' := ⟨itHead (nm.2.2, 3, x) a cap⟩) (by show 0 < 8; omega) rfl fun w55 S55 => ?_⟩⟩
  have S55 : PS w0 w55 b L2 (itI b3 (nm.2.2, 3, x) a cap :: It.cells b2 #[.string E0, .int .i64 0, .int .i64 0, .string E0, .int .i64 0, .int .i64 0, .string E0, .slice none 0 0] ty.api_Item :: (K ++ H)) := S55
  exact S55.stI 0 rfl (S55.stItm 1 rfl fun w63 S63 => ⟨a, cap, K, hR, rfl, S63.drop 2⟩)
/-! ### lists of one -/
theorem plist_one {w0 w : World} {b : Nat} {u : Tk} {L : List Tk} {fr : FuncId} {c0 c1 : Value} (he : enters Tryz.prog fr = true) (hu : isB u ⟨#[44]⟩ = false) {Q : World → Prop} (hr : Calls Tryz.prog fr #[c0, c1] w (Ret fun v w' => v = .tuple #[] ∧ ∃ H', PS w0 w' b (u :: L) H' ∧ ∀ w'', PS w0 w'' b (u :: L) H' → Q w'')) :
    Calls Tryz.prog f.query_parser_list #[.pointer (some ⟨b, 0, none⟩), .func (.func fr) #[] #[c0, c1]] w (Ret fun v w' => v = .tuple #[] ∧ Q w') := by
  apply R.query_parser_list_calls
  unfold R.query_parser_list
  simp only [he, cond_true]
  refine Calls.mono (R := Ret fun v w' => v = .tuple #[] ∧ ∃ H', PS w0 w' b (u :: L) H' ∧ ∀ w'', PS w0 w'' b (u :: L) H' → Q w'') hr ?_
  rintro _ w1 ⟨_, rfl, rfl, H', S1, hQ⟩
  refine ⟨rfl, fun _ w => PS w0 w b (u :: L) H', fun _ _ => 0, S1, fun w2 S2 => ptakeN S2 hu fun w3 S3 => ⟨_, rfl, IFB_false ⟨trivial, hQ _ S3⟩⟩⟩
def zKey : Value := .agg #[.int .i64 0, .bool false]
theorem tKeys : slT Tryz.prog ty.L_api_Key = some (ty.api_Key, 2, 16, zKey) := by kernel_rfl
abbrev keysI (a : Option Addr) (n c : Nat) (rs : List Value) : It := It.row ty.api_Key 2 a n c rs
abbrev QA (ai : Option Addr) (ni ci : Nat) (rs : List Value) (ag : Option Addr) (ng cg : Nat) (gs : List Value) (ao : Option Addr) (no co : Nat) (os : List Value) (b4 b2 b b3 : Nat) : List It :=
  [itemsI ai ni ci rs, exsI ag ng cg gs, keysI ao no co os, It.cells b4 #[.slice ai ni ci, .slice none 0 0, .slice ag ng cg, .slice ao no co, .int .i64 (-1)] ty.api_Query, It.cells b2 #[.pointer (some ⟨b, 0, none⟩)] ty.P_query_parser, zqb b3]
theorem pc1_ok {w0 w : World} {b b2 b3 b4 : Nat} {L L' : List Tk} {H : List It} {i : Itm} {Z : Option Addr → Nat → List It → Prop} {ag : Option Addr} {ng cg : Nat} {gs : List Value} {ao : Option Addr} {no co : Nat} {os : List Value} (E : Env w0) (hI : IR L L' i Z) (S : PS w0 w b L (QA none 0 0 [] ag ng cg gs ao no co os b4 b2 b b3 ++ H)) :
    Calls Tryz.prog f.query_parser_query_c1 #[.pointer (some ⟨b4, 0, none⟩), .pointer (some ⟨b2, 0, none⟩)] w (Ret fun v w' => v = .tuple #[] ∧ ∃ a cap K a1 c1, Z a cap K ∧ PS w0 w' b L' (QA a1 1 c1 (itHead i a cap) ag ng cg gs ao no co os b4 b2 b b3 ++ (K ++ H))) := by
  apply R.query_parser_query_c1_calls
  unfold R.query_parser_query_c1
  refine S.draw fun w1 S1 => ⟨_, _, _, S1.cell 3 rfl rfl, _, S1.cell 4 rfl rfl, (hI E S1).mono ?_⟩
  rintro _ w2 ⟨_, rfl, a, cap, K, hR, rfl, S2⟩
  have S2 := PS.front (QA none 0 0 [] ag ng cg gs ao no co os b4 b2 b b3) S2
  refine ⟨_, _, _, _, _, _, _, _, _, _, rfl, S2.cell 3 rfl rfl, S2.newB fun b14 w3 S3 => ⟨S3.cell 4 rfl rfl, ?_⟩⟩
  refine S3.app 1 rfl tItems rfl (by omega) (by omega) (S3.rdc 0 rfl) (mm := 1) rfl (it_one i a cap) (by omega) fun a1 c1 w4 S4 => ⟨_, _, _, rfl, S4.sto 4 rfl (cs' := #[.slice a1 1 c1, .slice none 0 0, .slice ag ng cg, .slice ao no co, .int .i64 (-1)]) (by simp) rfl fun w5 S5 => ⟨rfl, a, cap, K, a1, c1, hR, S5.drop 1⟩⟩
theorem pc2_ok {w0 w : World} {b b2 b3 b4 : Nat} {L L' : List Tk} {H : List It} {x : Ex} {ai : Option Addr} {ni ci : Nat} {rs : List Value} {ao : Option Addr} {no co : Nat} {os : List Value} (E : Env w0) (hX : XR f.query_parser_expr [.int .i64 1] L L' x leafR) (S : PS w0 w b L (QA ai ni ci rs none 0 0 [] ao no co os b4 b2 b b3 ++ H)) :
    Calls Tryz.prog f.query_parser_query_c2 #[.pointer (some ⟨b4, 0, none⟩), .pointer (some ⟨b2, 0, none⟩)] w (Ret fun v w' => v = .tuple #[] ∧ ∃ a1 c1, PS w0 w' b L' (QA ai ni ci rs a1 1 c1 (exHead x none 0) ao no co os b4 b2 b b3 ++ H)) := by
  apply R.query_parser_query_c2_calls
  unfold R.query_parser_query_c2
  refine S.draw fun w1 S1 => ⟨_, _, _, S1.cell 3 rfl rfl, _, S1.cell 4 rfl rfl, (hX E S1).mono ?_, S1.newB fun b16 w19 S19 => ⟨S19.cell 5 rfl rfl, S19.cell 4 rfl rfl, (hX E S19).mono ?_⟩⟩
  · rintro _ w2 ⟨_, rfl, _, _, _, ⟨rfl, rfl, rfl⟩, rfl, S2⟩
    refine ⟨_, _, _, _, _, _, _, _, rfl, S2.cell 3 rfl rfl, S2.newB fun b12 w3 S3 => ⟨S3.cell 4 rfl rfl, ?_⟩⟩
    refine S3.app 2 rfl tExs rfl (by omega) (by omega) (S3.rdc 0 rfl) (mm := 1) rfl (ex_one (.mk 0 E0 V0 []) none 0) (by omega) fun a1 c1 w4 S4 => ⟨_, _, _, rfl, ⟨by omega, by decide⟩, ?_⟩
    have hrow := S4.rw 2 rfl
    rcases hrow with ⟨_, ⟨_, h0, _⟩ | ⟨g, cur, rfl, _⟩⟩
    · cases h0
    refine PTR_i ⟨S4.stoR6 2 rfl fun w10 S10 => S10.sto 4 rfl (cs' := #[.slice ai ni ci, .slice none 0 0, .slice (some ⟨g, 0, none⟩) 1 c1, .slice ao no co, .int .i64 (-1)]) (by simp) rfl fun w11 S11 => ⟨rfl, _, c1, S11.drop 1⟩, S4.sto 4 rfl (cs' := #[.slice ai ni ci, .slice none 0 0, .slice (some ⟨g, 0, none⟩) 1 c1, .slice ao no co, .int .i64 (-1)]) (by simp) rfl fun w12 S12 => S12.stoR6 2 rfl fun w18 S18 => ⟨rfl, _, c1, S18.drop 1⟩⟩
  · rintro _ w20 ⟨_, rfl, _, _, _, ⟨rfl, rfl, rfl⟩, rfl, S2⟩
    refine ⟨_, _, _, _, _, _, _, _, rfl, S2.cell 4 rfl rfl, ?_⟩
    refine PS.app S2 2 rfl tExs rfl (by omega) (by omega) (S2.rdc 0 rfl) (mm := 1) rfl (ex_one (.mk 0 E0 V0 []) none 0) (by omega) fun a1 c1 w4 S4 => ⟨_, _, _, rfl, ⟨by omega, by decide⟩, ?_⟩
    have hrow := S4.rw 2 rfl
    rcases hrow with ⟨_, ⟨_, h0, _⟩ | ⟨g, cur, rfl, _⟩⟩
    · cases h0
    refine PTR_i ⟨S4.stoR6 2 rfl fun w10 S10 => S10.sto 4 rfl (cs' := #[.slice ai ni ci, .slice none 0 0, .slice (some ⟨g, 0, none⟩) 1 c1, .slice ao no co, .int .i64 (-1)]) (by simp) rfl fun w11 S11 => ⟨rfl, _, c1, S11.drop 1⟩, S4.sto 4 rfl (cs' := #[.slice ai ni ci, .slice none 0 0, .slice (some ⟨g, 0, none⟩) 1 c1, .slice ao no co, .int .i64 (-1)]) (by simp) rfl fun w12 S12 => S12.stoR6 2 rfl fun w18 S18 => ⟨rfl, _, c1, S18.drop 1⟩⟩
def descW : ByteArray := ⟨#[100, 101, 115, 99]⟩
theorem pc3_ok {w0 w : World} {b b2 b3 b4 : Nat} {nm d : Tk} {L : List Tk} {H K : List It} {i : Itm} {a : Option Addr} {cap : Nat} {ai : Option Addr} {ci : Nat} {ag : Option Addr} {ng cg : Nat} {gs : List Value} (E : Env w0) (h1 : nm.2.1 = 1) (h2 : isKeyB nm.2.2 = false) (hd : isB d descW = true) (hp : placeOf [i] nm.2.2 = some 0)
    (hC : ∀ {w' : World}, (∀ it ∈ K, it.ok w') → ItC (fun _ => False) w' i (itHead i a cap)) (S : PS w0 w b (nm :: d :: L) (QA ai 1 ci (itHead i a cap) ag ng cg gs none 0 0 [] b4 b2 b b3 ++ (K ++ H))) :
    Calls Tryz.prog f.query_parser_query_c3 #[.pointer (some ⟨b4, 0, none⟩), .pointer (some ⟨b2, 0, none⟩)] w (Ret fun v w' => v = .tuple #[] ∧ ∃ a1 c1, PS w0 w' b L (QA ai 1 ci (itHead i a cap) ag ng cg gs a1 1 c1 [.int .i64 0, .bool true] b4 b2 b b3 ++ (K ++ H))) := by
  have pl : ∀ {w' : World} {L' : List Tk} (n : Nat) {H' : List It} (S : PS w0 w' b L' H') (hn : H'[n]? = some (itemsI ai 1 ci (itHead i a cap))) (hk : ∀ it ∈ K, it ∈ H') {Q : Ending → World → Prop} (hQ : ∀ w'', PS w0 w'' b L' H' → Q (.returned (.int .i64 0)) w''), Calls Tryz.prog f.query_place #[.slice ai 1 ci, .string nm.2.2] w' Q := by
    intro w' L' n H' S hn hk Q hQ
    refine (query_place_ok (l := [i]) (S.rw n hn).rd (RowsC.one (hC fun it hi => S.ok it (hk it hi))) (by show 1 ≤ 9223372036854775807; decide) nm.2.2).mono ?_
    rintro _ w'' ⟨_, rfl, rfl, B⟩
    rw [hp]
    exact hQ w'' (S.grown B)
  have hmem : ∀ (A : List It), ∀ it ∈ K, it ∈ A ++ (K ++ H) := fun A it hi => by simp [hi]
  apply R.query_parser_query_c3_calls
  unfold R.query_parser_query_c3
  refine ⟨fun st w => ∃ b9, st = [.pointer (some ⟨b9, 0, none⟩)] ∧ PS w0 w b (d :: L) (It.cells b9 #[.int .i64 0, .bool false] ty.api_Key :: (QA ai 1 ci (itHead i a cap) ag ng cg gs none 0 0 [] b4 b2 b b3 ++ (K ++ H))),
    S.draw fun w1 S1 => ⟨_, _, _, S1.cell 3 rfl rfl, _, S1.cell 4 rfl rfl, pnameY E S1 h1 h2 fun w2 S2 => ⟨_, rfl, S2.cell 3 rfl rfl, pl 0 S2 rfl (hmem _) fun w3 S3 => ⟨_, rfl, S3.newB fun b9 w4 S4 => S4.sto 0 rfl (cs' := #[.int .i64 0, .bool false]) (by simp) rfl fun w5 S5 => S5.sto 0 rfl (cs' := #[.int .i64 0, .bool false]) (by simp) rfl fun w6 S6 => ⟨b9, rfl, S6⟩⟩,
      S2.newB fun b10 w7 S7 => ⟨S7.cell 4 rfl rfl, pl 1 S7 rfl (fun it hi => List.mem_cons_of_mem _ (hmem _ it hi)) fun w8 S8 => ⟨_, rfl, S8.sto 0 rfl (cs' := #[.int .i64 0, .bool false]) (by simp) rfl fun w9 S9 => S9.sto 0 rfl (cs' := #[.int .i64 0, .bool false]) (by simp) rfl fun w10 S10 => ⟨b10, rfl, S10⟩⟩⟩⟩,
      S1.newB fun b13 w11 S11 => ⟨S11.cell 5 rfl rfl, S11.cell 4 rfl rfl, pnameY E S11 h1 h2 fun w12 S12 => ⟨_, rfl, S12.cell 4 rfl rfl, pl 1 S12 rfl (fun it hi => List.mem_cons_of_mem _ (hmem _ it hi)) fun w13 S13 => ⟨_, rfl, S13.sto 0 rfl (cs' := #[.int .i64 0, .bool false]) (by simp) rfl fun w14 S14 => S14.sto 0 rfl (cs' := #[.int .i64 0, .bool false]) (by simp) rfl fun w15 S15 => ⟨b13, rfl, S15⟩⟩⟩⟩⟩, ?_⟩
  rintro k w16 ⟨b9, hst, S16⟩
  obtain rfl : k = some ⟨b9, 0, none⟩ := by simpa using hst
  refine ⟨_, S16.cell 5 rfl rfl, ptakeY S16 hd fun w17 S17 => ⟨_, rfl, PTR_i (S17.sto 0 rfl (i := 1) (cs' := #[.int .i64 0, .bool true]) (by simp) rfl fun w18 S18 => ⟨_, _, _, S18.cell 4 rfl rfl, PTR_i ⟨_, S18.cell 0 rfl rfl, _, S18.cell 0 rfl rfl, S18.newB fun b28 w19 S19 => ?_⟩⟩)⟩⟩
  refine S19.app 4 rfl tKeys rfl (by omega) (by omega) (S19.rdc 0 rfl) (mm := 1) rfl (by intro u hu; simp at hu; rcases hu with rfl | rfl <;> rfl) (by omega) fun a1 c1 w20 S20 => ⟨_, _, _, rfl, S20.sto 5 rfl (cs' := #[.slice ai 1 ci, .slice none 0 0, .slice ag ng cg, .slice a1 1 c1, .int .i64 (-1)]) (by simp) rfl fun w21 S21 => ⟨rfl, a1, c1, S21.drop 2⟩⟩
/-! ### one text -/
def kSel : Tk := (0, 1, ⟨#[115, 101, 108, 101, 99, 116]⟩)
def kSum : Tk := (7, 1, ⟨#[115, 117, 109]⟩)
def kO1 : Tk := (10, 4, ⟨#[40]⟩)
def kA : Tk := (12, 1, ⟨#[97]⟩)
def kStar : Tk := (13, 4, ⟨#[42]⟩)
def kO2 : Tk := (14, 4, ⟨#[40]⟩)
def kB : Tk := (15, 1, ⟨#[98]⟩)
def kPlus : Tk := (16, 4, ⟨#[43]⟩)
def kOne : Tk := (17, 2, ⟨#[49]⟩)
def kC1 : Tk := (18, 4, ⟨#[41]⟩)
def kC2 : Tk := (20, 4, ⟨#[41]⟩)
def kAs : Tk := (22, 1, ⟨#[97, 115]⟩)
def kS : Tk := (25, 1, ⟨#[115]⟩)
def kGroup : Tk := (27, 1, ⟨#[103, 114, 111, 117, 112]⟩)
def kBy : Tk := (33, 1, ⟨#[98, 121]⟩)
def kC : Tk := (36, 1, ⟨#[99]⟩)
def kOrder : Tk := (38, 1, ⟨#[111, 114, 100, 101, 114]⟩)
def kBy2 : Tk := (44, 1, ⟨#[98, 121]⟩)
def kS2 : Tk := (47, 1, ⟨#[115]⟩)
def kDesc : Tk := (49, 1, ⟨#[100, 101, 115, 99]⟩)
def kEnd : Tk := (53, 0, E0)
def T1 : List Tk := [kSel, kSum, kO1, kA, kStar, kO2, kB, kPlus, kOne, kC1, kC2, kAs, kS, kGroup, kBy, kC, kOrder, kBy2, kS2, kDesc, kEnd]
def eSum : Ex := .mk 3 E0 V0 [colX ⟨#[98]⟩, numX 1]
def eMul : Ex := .mk 5 E0 V0 [colX ⟨#[97]⟩, eSum]
def iS : Itm := (⟨#[115]⟩, 3, eMul)
def Q1 : Qu := ⟨[iS], [], [colX ⟨#[99]⟩], [(0, true)], -1⟩
def sumR := opR (colX ⟨#[98]⟩) (numX 1) leafR leafR
def mulR := opR (colX ⟨#[97]⟩) eSum leafR sumR
theorem pn_a : PName kA := ⟨rfl, by decide, show ∀ s ∈ headW, isB kA s = false by decide⟩
theorem pn_b : PName kB := ⟨rfl, by decide, show ∀ s ∈ headW, isB kB s = false by decide⟩
theorem pn_c : PName kC := ⟨rfl, by decide, show ∀ s ∈ headW, isB kC s = false by decide⟩
section
variable {L : List Tk}
theorem rd_sum (hp : ∀ {w : World}, Calls Tryz.prog f.query_plain #[.string kOne.2.2] w (Ret fun r w' => r = .string kOne.2.2 ∧ Below w.heap.size w w')) (hc : ∀ {w : World}, Env w → Calls Tryz.prog f.query_constant #[.string kOne.2.2] w (Ret fun r w' => r = .agg ⟨exHead (numX 1) none 0⟩ ∧ Below w.heap.size w w')) :
    XR f.query_parser_expr [.int .i64 1] (kB :: kPlus :: kOne :: kC1 :: L) (kC1 :: L) eSum sumR :=
  pexpr_op (o := kPlus) (m := 7) (pfront_ok (pminus_ok (patom_name pn_b) (by decide)) (by decide)) (by decide) (pexpr_end (pfront_ok (pminus_ok (patom_num rfl hp hc) (by decide)) (by decide)) (by decide) (.inr (by decide))) (by decide) (by decide) (by decide) (by decide) (by decide) (by decide)
theorem rd_mul (hp : ∀ {w : World}, Calls Tryz.prog f.query_plain #[.string kOne.2.2] w (Ret fun r w' => r = .string kOne.2.2 ∧ Below w.heap.size w w')) (hc : ∀ {w : World}, Env w → Calls Tryz.prog f.query_constant #[.string kOne.2.2] w (Ret fun r w' => r = .agg ⟨exHead (numX 1) none 0⟩ ∧ Below w.heap.size w w')) :
    XR f.query_parser_expr [.int .i64 1] (kA :: kStar :: kO2 :: kB :: kPlus :: kOne :: kC1 :: kC2 :: L) (kC2 :: L) eMul mulR :=
  pexpr_op (o := kStar) (m := 8) (pfront_ok (pminus_ok (patom_name pn_a) (by decide)) (by decide)) (by decide) (pexpr_end (pfront_ok (pminus_ok (patom_par (t := kO2) rfl (by decide) (by decide) (rd_sum hp hc) (by decide)) (by decide)) (by decide)) (by decide) (.inr (by decide))) (by decide) (by decide) (by decide) (by decide) (by decide) (by decide)
end
abbrev QL (a : Option Addr) (cap : Nat) (K : List It) (a1 : Option Addr) (c1 : Nat) (ag : Option Addr) (cg : Nat) (ao : Option Addr) (co : Nat) : List It :=
  itemsI a1 1 c1 (itHead iS a cap) :: exsI ag 1 cg (exHead (colX kC.2.2) none 0) :: keysI ao 1 co [.int .i64 0, .bool true] :: K
theorem PS.sub {w0 w : World} {b : Nat} {L : List Tk} {H H' : List It} (S : PS w0 w b L H) (h : H'.Sublist H) : PS w0 w b L H' := by
  obtain ⟨x, c, h1, h2, S⟩ := S
  exact ⟨x, c, h1, h2, S.sub (.cons_cons _ (.cons_cons _ h))⟩
theorem PS.sto5 {w0 w : World} {b : Nat} {L : List Tk} {H : List It} (S : PS w0 w b L H) (n : Nat) {b' : Nat} {x0 x1 x2 x3 x4 v0 v1 v2 v3 v4 : Value} {t : TypeId} (hn : H[n]? = some (It.cells b' #[x0, x1, x2, x3, x4] t)) {k : World → Prop} (hk : ∀ w', PS w0 w' b L (H.set n (It.cells b' #[v0, v1, v2, v3, v4] t)) → k w') :
    STO ⟨b', 0, none⟩ v0 (fun w => STO ⟨b', 1, none⟩ v1 (fun w => STO ⟨b', 2, none⟩ v2 (fun w => STO ⟨b', 3, none⟩ v3 (fun w => STO ⟨b', 4, none⟩ v4 k w) w) w) w) w := by
  obtain ⟨x, cc, g1, g2, S⟩ := S
  exact S.sto5 (n + 2) hn fun w' S' => hk w' ⟨x, cc, g1, g2, S'⟩
theorem rx_mul : RX eMul mulR := rx_op (by decide) (rx_leaf (by decide) (by decide) (by decide) (by decide) (by decide)) (rx_op (by decide) (rx_leaf (by decide) (by decide) (by decide) (by decide) (by decide)) (rx_leaf (by decide) (by decide) (by decide) (by decide) (by decide)))
theorem qat1 {w : World} {a : Option Addr} {cap : Nat} {K : List It} {a1 ag ao : Option Addr} (hR : mulR a cap K) (hk : ∀ it ∈ K, it.ok w) (r1 : Rd w a1 (itHead iS a cap)) (r2 : Rd w ag (exHead (colX kC.2.2) none 0)) (r3 : Rd w ao [.int .i64 0, .bool true]) : QAt w Q1 a1 none ag ao where
  it := ⟨_, r1, RowsC.one ⟨_, rfl, rx_mul hR hk, by decide, by decide⟩⟩
  wh := ⟨[], Rd.nil _ _, rfl⟩
  gr := ⟨_, r2, RowsC.one (colX_c w (by decide))⟩
  od := ⟨_, r3, RowsC.one ⟨rfl, by decide⟩⟩
  nit := by decide
  nwh := by decide
  ngr := by decide
  nod := by decide
  lim := by decide
theorem pquery_ok (hp : ∀ {w : World}, Calls Tryz.prog f.query_plain #[.string kOne.2.2] w (Ret fun r w' => r = .string kOne.2.2 ∧ Below w.heap.size w w')) (hc : ∀ {w : World}, Env w → Calls Tryz.prog f.query_constant #[.string kOne.2.2] w (Ret fun r w' => r = .agg ⟨exHead (numX 1) none 0⟩ ∧ Below w.heap.size w w'))
    {w0 w : World} {b : Nat} {H : List It} (E : Env w0) (S : PS w0 w b T1 H) : Calls Tryz.prog f.query_parser_query #[.pointer (some ⟨b, 0, none⟩)] w (Ret fun r w' => ∃ a cap K a1 c1 ag cg ao co, mulR a cap K ∧ r = .agg ⟨quL Q1 a1 none ag ao c1 0 cg co⟩ ∧ PS w0 w' b [kEnd] (QL a cap K a1 c1 ag cg ao co ++ H)) := by
  apply R.query_parser_query_calls
  unfold R.query_parser_query
  refine S.newB fun b2 w1 S1 => S1.newB fun b3 w2 S2 => S2.newB fun b4 w3 S3 => ?_
  refine S3.sto 0 rfl (cs' := #[.slice none 0 0, .slice none 0 0, .slice none 0 0, .slice none 0 0, .int .i64 0]) (by simp) rfl fun w4 S4 => S4.sto 0 rfl (cs' := #[.slice none 0 0, .slice none 0 0, .slice none 0 0, .slice none 0 0, .int .i64 0]) (by simp) rfl fun w5 S5 => S5.sto 0 rfl (cs' := #[.slice none 0 0, .slice none 0 0, .slice none 0 0, .slice none 0 0, .int .i64 0]) (by simp) rfl fun w6 S6 =>
    S6.sto 0 rfl (cs' := #[.slice none 0 0, .slice none 0 0, .slice none 0 0, .slice none 0 0, .int .i64 0]) (by simp) rfl fun w7 S7 => S7.sto 0 rfl (cs' := #[.slice none 0 0, .slice none 0 0, .slice none 0 0, .slice none 0 0, .int .i64 (-1)]) (by simp) rfl fun w8 S8 => ?_
  have S8 : PS w0 w8 b T1 (QA none 0 0 [] none 0 0 [] none 0 0 [] b4 b2 b b3 ++ H) := (((S8.perm (List.Perm.cons _ (List.Perm.swap _ _ _))).nil ty.api_Key 2).nil ty.api_Expr 6).nil ty.api_Item 8
  refine ⟨_, S8.cell 4 rfl rfl, S8.newB fun b6 w9 S9 => pneedY S9 (by decide) fun w10 S10 => ⟨rfl, _, S10.cell 4 rfl rfl, ?_⟩⟩
  refine (plist_one (w0 := w0) (u := kGroup) (L := [kBy, kC, kOrder, kBy2, kS2, kDesc, kEnd]) (Q := fun w' => ∃ a cap K a1 c1, mulR a cap K ∧ PS w0 w' b [kGroup, kBy, kC, kOrder, kBy2, kS2, kDesc, kEnd] (QA a1 1 c1 (itHead iS a cap) none 0 0 [] none 0 0 [] b4 b2 b b3 ++ (K ++ H))) (by kernel_rfl) (by decide) ((pc1_ok E (pitem_ok (g := kSum) (o := kO1) (cl := kC2) (s := kAs) (nm := kS) rfl rfl (by decide) (rd_mul hp hc) (by decide) (by decide) rfl (by decide)) S10).mono ?_)).mono ?_
  · rintro _ w' ⟨_, rfl, rfl, a, cap, K, a1, c1, hR, S'⟩
    exact ⟨_, rfl, rfl, _, S', fun w'' S'' => ⟨a, cap, K, a1, c1, hR, S''⟩⟩
  rintro _ w11 ⟨_, rfl, rfl, a, cap, K, a1, c1, hR, S11⟩
  have hC : ∀ {w' : World}, (∀ it ∈ K, it.ok w') → ItC (fun _ => False) w' iS (itHead iS a cap) := fun hk => ⟨_, rfl, rx_mul hR hk, by decide, by decide⟩
  refine ⟨rfl, fun _ w => PS w0 w b [kGroup, kBy, kC, kOrder, kBy2, kS2, kDesc, kEnd] (QA a1 1 c1 (itHead iS a cap) none 0 0 [] none 0 0 [] b4 b2 b b3 ++ (K ++ H)), ⟨_, S11.cell 4 rfl rfl, ptakeN S11 (by decide) fun w12 S12 => ⟨_, rfl, IFB_false S12⟩⟩, fun w16 S16 => ?_⟩
  refine ⟨fun _ w => ∃ ag cg, PS w0 w b [kOrder, kBy2, kS2, kDesc, kEnd] (QA a1 1 c1 (itHead iS a cap) ag 1 cg (exHead (colX kC.2.2) none 0) none 0 0 [] b4 b2 b b3 ++ (K ++ H)), ⟨_, S16.cell 4 rfl rfl, ptakeY S16 (by decide) fun w17 S17 => ⟨_, rfl, IFB_true ⟨_, S17.cell 4 rfl rfl, S17.newB fun b27 w18 S18 => pneedY S18 (by decide) fun w19 S19 => ⟨rfl, _, S19.cell 4 rfl rfl, ?_⟩⟩⟩⟩, ?_⟩
  · refine (plist_one (w0 := w0) (u := kOrder) (L := [kBy2, kS2, kDesc, kEnd]) (Q := fun w' => ∃ ag cg, PS w0 w' b [kOrder, kBy2, kS2, kDesc, kEnd] (QA a1 1 c1 (itHead iS a cap) ag 1 cg (exHead (colX kC.2.2) none 0) none 0 0 [] b4 b2 b b3 ++ (K ++ H))) (by kernel_rfl) (by decide) ((pc2_ok E (pexpr_end (pfront_ok (pminus_ok (patom_name pn_c) (by decide)) (by decide)) (by decide) (.inr (by decide))) S19).mono ?_)).mono ?_
    · rintro _ w' ⟨_, rfl, rfl, a2, c2, S'⟩
      exact ⟨_, rfl, rfl, _, S', fun w'' S'' => ⟨a2, c2, S''⟩⟩
    rintro _ w20 ⟨_, rfl, rfl, ag, cg, S20⟩
    exact ⟨rfl, ag, cg, S20⟩
  rintro w21 ⟨ag, cg, S21⟩
  refine ⟨fun _ w => ∃ ao co, PS w0 w b [kEnd] (QA a1 1 c1 (itHead iS a cap) ag 1 cg (exHead (colX kC.2.2) none 0) ao 1 co [.int .i64 0, .bool true] b4 b2 b b3 ++ (K ++ H)), ⟨_, S21.cell 4 rfl rfl, ptakeY S21 (by decide) fun w22 S22 => ⟨_, rfl, IFB_true ⟨_, S22.cell 4 rfl rfl, S22.newB fun b36 w23 S23 => pneedY S23 (by decide) fun w24 S24 => ⟨rfl, _, S24.cell 4 rfl rfl, ?_⟩⟩⟩⟩, ?_⟩
  · refine (plist_one (w0 := w0) (u := kEnd) (L := []) (Q := fun w' => ∃ ao co, PS w0 w' b [kEnd] (QA a1 1 c1 (itHead iS a cap) ag 1 cg (exHead (colX kC.2.2) none 0) ao 1 co [.int .i64 0, .bool true] b4 b2 b b3 ++ (K ++ H))) (by kernel_rfl) (by decide) ((pc3_ok (nm := kS2) (d := kDesc) E rfl (by decide) (by decide) (by decide) hC S24).mono ?_)).mono ?_
    · rintro _ w' ⟨_, rfl, rfl, a2, c2, S'⟩
      exact ⟨_, rfl, rfl, _, S', fun w'' S'' => ⟨a2, c2, S''⟩⟩
    rintro _ w25 ⟨_, rfl, rfl, ao, co, S25⟩
    exact ⟨rfl, ao, co, S25⟩
  rintro w26 ⟨ao, co, S26⟩
  refine ⟨fun _ w => PS w0 w b [kEnd] (QA a1 1 c1 (itHead iS a cap) ag 1 cg (exHead (colX kC.2.2) none 0) ao 1 co [.int .i64 0, .bool true] b4 b2 b b3 ++ (K ++ H)), ⟨_, S26.cell 4 rfl rfl, ptakeN S26 (by decide) fun w27 S27 => ⟨_, rfl, IFB_false S27⟩⟩, fun w30 S30 => ⟨_, S30.cell 4 rfl rfl, (pnext_ok S30).mono ?_⟩⟩
  rintro _ w31 ⟨_, rfl, rfl, S31⟩
  refine ⟨_, _, _, rfl, S31.lit3 fun b53 w35 S35 => ⟨_, S35.cell 0 rfl rfl, IFB_ne (fun h => absurd rfl h) (fun _ => ?_)⟩⟩
  refine ⟨_, _, _, S35.cell 4 rfl rfl, _, _, _, S35.cell 4 rfl rfl, _, _, _, S35.cell 4 rfl rfl, _, _, _, S35.cell 4 rfl rfl, _, S35.cell 4 rfl rfl, ?_⟩
  exact S35.sto5 6 rfl fun w40 S40 => ⟨_, _, _, S40.cell 6 rfl rfl, _, _, _, S40.cell 6 rfl rfl, _, _, _, S40.cell 6 rfl rfl, _, _, _, S40.cell 6 rfl rfl, _, S40.cell 6 rfl rfl, a, cap, K, a1, c1, ag, cg, ao, co, hR, rfl, S40.sub (.cons _ (.cons_cons _ (.cons_cons _ (.cons_cons _ (.cons _ (.cons _ (.cons _ (.refl _))))))))⟩
end Go.Proofs.YtbpdfpfgijhokaaGreatDoor
namespace Go.Proofs.YtbpdfpfgijhokaaGreatDoor
open Go.Dn Go.Proofs
set_option maxRecDepth 100000
set_option linter.unusedVariables false
namespace R
def strings_HasPrefix (s_1 : ByteArray) (prefix_2 : ByteArray) (k : Value → World → Prop) (w0 : World) : Prop :=
  Calls Tryz.prog f.in_stringslite_HasPrefix #[.string s_1, .string prefix_2] w0 (fun e_4 w1 => ∃ t7_3 : Bool, e_4 = .returned (.bool t7_3) ∧ k (.bool t7_3) w1)
theorem strings_HasPrefix_calls (s_1 : ByteArray) (prefix_2 : ByteArray) (k : Value → World → Prop) (w0 : World) (h : strings_HasPrefix s_1 prefix_2 k w0) : Calls Tryz.prog f.strings_HasPrefix #[.string s_1, .string prefix_2] w0 (fun e w => ∃ v, e = .returned v ∧ k v w) :=
  dFun_calls mixed (L := []) (C := []) (Eq.mpr (by kernel_rfl) h)
def strings_trimLeftByte (s_1 : ByteArray) (c_2 : Int) (k : Value → World → Prop) (w0 : World) : Prop :=
  ∃ (I_3 : List Value → World → Prop) (M_3 : List Value → World → Nat), I_3 [.string s_1] w0 ∧ ∀ (s_4 : ByteArray), ∀ w1 : World, I_3 [.string s_4] w1 → IFB (decide ((s_4.size : Int) > 0)) (((0 : Int) ≤ 0 ∧ 0 < (s_4.size : Int)) ∧ IFB (((sget s_4 0).toNat : Int) == c_2) (((0 : Int) ≤ 1 ∧ 1 ≤ (s_4.size : Int) ∧ (s_4.size : Int) ≤ (s_4.size : Int)) ∧ I_3 [.string (ByteArray.extract s_4 1 s_4.size)] w1 ∧ M_3 [.string (ByteArray.extract s_4 1 s_4.size)] w1 < M_3 [.string s_4] w1) (k (.string s_4) w1)) (k (.string s_4) w1)
theorem strings_trimLeftByte_calls (s_1 : ByteArray) (c_2 : Int) (k : Value → World → Prop) (w0 : World) (h : strings_trimLeftByte s_1 c_2 k w0) : Calls Tryz.prog f.strings_trimLeftByte #[.string s_1, .int .u8 c_2] w0 (fun e w => ∃ v, e = .returned v ∧ k v w) :=
  dFun_calls mixed (L := [(1, ⟨[(0, .string ⟨#[]⟩)], [1]⟩)]) (C := []) (Eq.mpr (by kernel_rfl) h)
def in_stringslite_HasPrefix (s_1 : ByteArray) (prefix_2 : ByteArray) (k : Value → World → Prop) (w0 : World) : Prop :=
  IFB (decide ((s_1.size : Int) ≥ (prefix_2.size : Int))) (((0 : Int) ≤ (0 : Int) ∧ (0 : Int) ≤ (prefix_2.size : Int) ∧ (prefix_2.size : Int) ≤ (s_1.size : Int)) ∧ k (.bool (bytesEq (ByteArray.extract s_1 0 prefix_2.size) prefix_2)) w0) (k (.bool false) w0)
theorem in_stringslite_HasPrefix_calls (s_1 : ByteArray) (prefix_2 : ByteArray) (k : Value → World → Prop) (w0 : World) (h : in_stringslite_HasPrefix s_1 prefix_2 k w0) : Calls Tryz.prog f.in_stringslite_HasPrefix #[.string s_1, .string prefix_2] w0 (fun e w => ∃ v, e = .returned v ∧ k v w) :=
  dFun_calls mixed (L := []) (C := []) (Eq.mpr (by kernel_rfl) h)
end R
end Go.Proofs.YtbpdfpfgijhokaaGreatDoor
namespace Go.Proofs.YtbpdfpfgijhokaaGreatDoor
set_option maxRecDepth 100000
open Go.Dn Go.Proofs
open Go.RowKit (Below)
set_option linter.unusedVariables false
/-! ### plain -/
def blankCh (c : UInt8) : Bool := decide (c.toNat = 32 ∨ c.toNat = 10)
def blankS : ByteArray := ⟨#[32, 10]⟩
def digS : ByteArray := ⟨#[48, 49, 50, 51, 52, 53, 54, 55, 56, 57]⟩
def signS : ByteArray := ⟨#[40, 41, 44, 43, 45, 42, 47, 37, 61, 60]⟩
theorem set_blank (c : UInt8) : decide (Lib.indexByte blankS.data.toList c ≥ 0) = blankCh c := by
  have := byte_all (p := fun c => decide (Lib.indexByte blankS.data.toList c ≥ 0) == blankCh c) (by kernel_rfl) c
  simpa using this
theorem set_let (c : UInt8) : decide (Lib.indexByte lettersS.data.toList c ≥ 0) = isLet c := by
  have := byte_all (p := fun c => decide (Lib.indexByte lettersS.data.toList c ≥ 0) == isLet c) (by kernel_rfl) c
  simpa using this
theorem set_dig (c : UInt8) : decide (Lib.indexByte digS.data.toList c ≥ 0) = isDig c := by
  have := byte_all (p := fun c => decide (Lib.indexByte digS.data.toList c ≥ 0) == isDig c) (by kernel_rfl) c
  simpa using this
theorem set_word (c : UInt8) : decide (Lib.indexByte othersS.data.toList c ≥ 0) = wordCh c := by
  have := byte_all (p := fun c => decide (Lib.indexByte othersS.data.toList c ≥ 0) == wordCh c) (by kernel_rfl) c
  simpa using this
theorem set_sign (c : UInt8) : decide (Lib.indexByte signS.data.toList c ≥ 0) = signCh c := by
  have := byte_all (p := fun c => decide (Lib.indexByte signS.data.toList c ≥ 0) == signCh c) (by kernel_rfl) c
  simpa using this
def firstP : List UInt8 → Int × Nat
  | [] => (0, 0)
  | c :: r => if isLet c then (1, runN wordCh (c :: r)) else if isDig c then (2, runN isDig (c :: r)) else
    if (c :: r).take 2 = [60, 61] then (4, 2) else if signCh c then (4, 1) else (0, 0)
def toksP : Nat → List UInt8 → Nat → Option (List Tk)
  | 0, _, _ => none
  | f + 1, l, at_ =>
    if l.drop (runN blankCh l) = [] then some [(((at_ + runN blankCh l : Nat) : Int), 0, E0)] else
    if ((l.drop (runN blankCh l)).headD 0).toNat = 39 then none else
    if (firstP (l.drop (runN blankCh l))).2 = 0 then none else
    match toksP f ((l.drop (runN blankCh l)).drop (firstP (l.drop (runN blankCh l))).2) (at_ + runN blankCh l + (firstP (l.drop (runN blankCh l))).2) with
    | none => none
    | some T => some ((((at_ + runN blankCh l : Nat) : Int), (firstP (l.drop (runN blankCh l))).1, sof ((l.drop (runN blankCh l)).take (firstP (l.drop (runN blankCh l))).2)) :: T)
theorem firstP_le (l : List UInt8) : (firstP l).2 ≤ l.length := by
  cases l with
  | nil => simp [firstP]
  | cons c r =>
    have h1 := runN_le wordCh (c :: r)
    have h2 := runN_le isDig (c :: r)
    simp only [firstP]
    split
    · exact h1
    · split
      · exact h2
      · split
        · rename_i h
          have := congrArg List.length h
          simp only [List.length_take, List.length_cons, List.length_nil] at this
          simp only [List.length_cons]
          omega
        · split <;> simp
section
variable {w : World} {s : ByteArray}
theorem pspan_ok {am : ByteArray} {p : UInt8 → Bool} (hp : ∀ c, decide (Lib.indexByte am.data.toList c ≥ 0) = p c) (hs : s.size ≤ 9223372036854775800) : Calls Tryz.prog f.query_span #[.string s, .string am] w (Ret fun r w' => r = .int .i64 ((runN p (bl s) : Nat) : Int) ∧ w' = w) := by
  apply R.query_span_calls
  unfold R.query_span
  have hbl := bl_length s
  refine forUp s.size (fun j w' => (∀ c ∈ (bl s).take j, p c = true) ∧ w' = w) (by omega) ⟨by simp, rfl⟩ fun I M j w1 hj h next => ?_
  obtain ⟨hall, rfl⟩ := h
  refine IFB_dec (fun hlt => ⟨⟨by omega, hlt⟩, (Tryz.strings_IndexByte am ((sget s ((j : Int).toNat)).toNat : Int) w1).mono ?_⟩) (fun hge => ⟨?_, rfl⟩)
  · have hjl : j < (bl s).length := by omega
    rintro _ w2 ⟨rfl, rfl⟩
    refine ⟨_, rfl, ?_⟩
    have e : ((sget s ((j : Int).toNat)).toNat : Int).toNat.toUInt8 = sget s j := by simp
    rw [e, hp, sget_at (by omega)]
    refine IFB_of (fun h3 => next _ (by omega) ⟨all_snoc hjl hall h3, rfl⟩) (fun h3 => ⟨?_, rfl⟩)
    rw [runN_at (by omega) hall fun _ => h3]
  · rw [runN_at (n := j) (by omega) hall fun h => by omega]
theorem phas_ok (p : ByteArray) (hp : p.size ≤ s.size ∨ s.size < p.size) : Calls Tryz.prog f.strings_HasPrefix #[.string s, .string p] w (Ret fun r w' => r = .bool (decide (p.size ≤ s.size) && decide (s.extract 0 p.size = p)) ∧ w' = w) := by
  apply R.strings_HasPrefix_calls
  unfold R.strings_HasPrefix
  have hh : Calls Tryz.prog f.in_stringslite_HasPrefix #[.string s, .string p] w (Ret fun r w' => r = .bool (decide (p.size ≤ s.size) && decide (s.extract 0 p.size = p)) ∧ w' = w) := by
    apply R.in_stringslite_HasPrefix_calls
    unfold R.in_stringslite_HasPrefix
    refine IFB_dec (fun h => ⟨⟨by omega, by omega, by omega⟩, ?_, rfl⟩) (fun h => ⟨?_, rfl⟩)
    · rw [decide_eq_true (by omega), Bool.true_and, bytesEq_iff]
    · rw [decide_eq_false (by omega), Bool.false_and]
  exact call0 hh ⟨_, rfl, rfl, rfl⟩
theorem pfirst_ok (h0 : 0 < s.size) (hq : (sget s 0).toNat ≠ 39) (hs : s.size ≤ 9223372036854775800) : Calls Tryz.prog f.query_first #[.string s] w (Ret fun r w' => r = .tuple #[.int .i64 (firstP (bl s)).1, .int .i64 (((firstP (bl s)).2 : Nat) : Int)] ∧ w' = w) := by
  apply R.query_first_calls
  unfold R.query_first
  obtain ⟨c, r, hcr⟩ : ∃ c r, bl s = c :: r := by
    cases h : bl s with
    | nil => have := bl_length s; rw [h] at this; simp at this; omega
    | cons c r => exact ⟨c, r, rfl⟩
  have hlen : s.size = r.length + 1 := by rw [← bl_length, hcr]; simp
  have g0 : sget s 0 = c := by rw [sget_eq, hcr]; rfl
  have e : ((sget s 0).toNat : Int).toNat.toUInt8 = c := by rw [g0]; simp
  rw [g0] at hq
  refine ⟨⟨by omega, by omega⟩, (Tryz.strings_IndexByte lettersS ((sget s 0).toNat : Int) w).mono ?_⟩
  rintro _ w1 ⟨rfl, rfl⟩
  refine ⟨_, rfl, ?_⟩
  rw [e, set_let]
  unfold firstP
  rw [hcr]
  refine IFB_of (fun h1 => call0 (pspan_ok set_word hs) ⟨_, rfl, ?_, rfl⟩) (fun h1 => (Tryz.strings_IndexByte digS ((sget s 0).toNat : Int) w1).mono ?_)
  · simp only [h1, if_true, hcr]
  rintro _ w3 ⟨rfl, rfl⟩
  refine ⟨_, rfl, ?_⟩
  rw [e, set_dig]
  refine IFB_of (fun h2 => call0 (pspan_ok set_dig hs) ⟨_, rfl, ?_, rfl⟩) (fun h2 => IFB_eq (fun h => absurd h (by rw [g0]; omega)) (fun _ => call0 (phas_ok _ (by omega)) ⟨_, rfl, ?_⟩))
  · simp only [h1, h2, if_true, hcr, Bool.false_eq_true, if_false]
  have hx : (decide ((⟨#[60, 61]⟩ : ByteArray).size ≤ s.size) && decide (s.extract 0 (⟨#[60, 61]⟩ : ByteArray).size = ⟨#[60, 61]⟩)) = decide ((c :: r).take 2 = [60, 61]) := by
    rw [Bool.eq_iff_iff, Bool.and_eq_true, decide_eq_true_eq, decide_eq_true_eq, decide_eq_true_eq, extract_eq, hcr]
    show (2 ≤ s.size ∧ sof (((c :: r).drop 0).take (2 - 0)) = ⟨#[60, 61]⟩) ↔ _
    rw [List.drop_zero, Nat.sub_zero]
    constructor
    · rintro ⟨_, h⟩
      have := congrArg bl h
      rw [bl_sof] at this
      exact this
    · intro h
      refine ⟨?_, by rw [h]; rfl⟩
      have := congrArg List.length h
      simp only [List.length_take, List.length_cons, List.length_nil] at this
      omega
  rw [hx]
  refine IFB_dec (fun h3 => ⟨?_, rfl⟩) (fun h3 => (Tryz.strings_IndexByte signS ((sget s 0).toNat : Int) w3).mono ?_)
  · simp only [h1, h2, h3, Bool.false_eq_true, if_false, if_true]
    rfl
  rintro _ w7 ⟨rfl, rfl⟩
  refine ⟨_, rfl, ?_⟩
  rw [e, set_sign]
  refine IFB_of (fun h4 => ⟨?_, rfl⟩) (fun h4 => ⟨?_, rfl⟩)
  · simp only [h1, h2, h3, h4, Bool.false_eq_true, if_false, if_true]
    rfl
  · simp only [h1, h2, h3, h4, Bool.false_eq_true, if_false]
    rfl
theorem ptokens_ok : Calls Tryz.prog f.query_tokens #[.string s] w (Ret fun v w' => ∃ b, v = .func (.func f.query_tokens_c1) #[] #[.pointer (some ⟨b, 0, none⟩)] ∧ ST w w' [It.cells b #[.string s] ty.string]) := by
  apply R.query_tokens_calls
  unfold R.query_tokens
  exact (ST.start w).newB fun b1 w1 _ _ S1 => ⟨b1, rfl, S1⟩
end
theorem ptokens_c1 {w0 w : World} {s : ByteArray} {T : List Tk} {f0 L b : Nat} {I : List Tk → List It → Prop} {J : List It → Prop} (hT : toksP f0 (bl s) 0 = some T) (hs : s.size ≤ 9223372036854775800) (hy : Yld w0 L T (fun t vs => vs = [tkV t]) I J) {HN B : List It} (hI : I [] B) (S : ST w0 w (It.cells b #[.string s] ty.string :: (HN ++ B))) :
    Calls Tryz.prog f.query_tokens_c1 #[.func (.yield L) #[] #[], .pointer (some ⟨b, 0, none⟩)] w (Ret fun _ w' => ∃ B', ST w0 w' (HN ++ B') ∧ (I T B' ∨ J B')) := by
  apply R.query_tokens_c1_calls
  unfold R.query_tokens_c1
  have hbl := bl_length s
  refine ⟨fun st w => ∃ (n k : Nat) (D rest : List Tk) (B' : List It), st = [.int .i64 (n : Int)] ∧ n ≤ s.size ∧ toksP k ((bl s).drop n) n = some rest ∧ T = D ++ rest ∧ I D B' ∧ ST w0 w (It.cells b #[.string s] ty.string :: (HN ++ B')), fun st _ => match st with | [.int _ t] => s.size - t.toNat | _ => 0, ⟨0, f0, [], T, B, rfl, by omega, hT, rfl, hI, S⟩, ?_⟩
  rintro at_ w1 ⟨n, k, D, rest, B1, hst, hn, hk, hTD, hI1, S1⟩
  cases hst
  cases k with
  | zero => cases hk
  | succ k =>
  obtain ⟨l, hl⟩ : ∃ l, l = (bl s).drop n := ⟨_, rfl⟩
  have hll : l.length = s.size - n := by rw [hl, List.length_drop]; omega
  have hle := runN_le blankCh l
  obtain ⟨m, hm⟩ : ∃ m, m = runN blankCh l := ⟨_, rfl⟩
  rw [← hl, toksP, ← hm] at hk
  rw [← hm] at hle
  refine ⟨_, S1.cell 0 rfl rfl, ⟨by omega, by omega, by omega⟩, ?_⟩
  have hse : (s.extract n s.size).size = s.size - n := by rw [← bl_length, bl_extract]; simp [bl_length]
  have hbe : bl (s.extract n s.size) = l := by rw [bl_extract, ← hl, List.take_of_length_le (by omega)]
  rw [Int.toNat_natCast]
  refine call0 (pspan_ok (s := s.extract n s.size) (am := ⟨#[32, 10]⟩) set_blank (by omega)) ⟨_, rfl, _, S1.cell 0 rfl rfl, ?_⟩
  rw [hbe, ← hm]
  have ew : IntKind.i64.wrap ((n : Int) + (m : Int)) = ((n + m : Nat) : Int) := by rw [wrap_i64 (by omega) (by omega)]; omega
  rw [ew]
  have hyl : ∀ {x : Tk} {rest' : List Tk} {w2 : World}, rest = x :: rest' → ST w0 w2 (It.cells b #[.string s] ty.string :: (HN ++ B1)) → YLD Tryz.prog L #[tkV x] (fun y w' => ∃ B', ST w0 w' (It.cells b #[.string s] ty.string :: (HN ++ B')) ∧ ((y = true ∧ I (D ++ [x]) B') ∨ (y = false ∧ J B'))) w2 := fun hr S2 => hy D _ _ [tkV _] (It.cells b #[.string s] ty.string :: HN) B1 _ (by rw [hTD, hr]) hI1 S2 rfl
  refine IFB_eq (fun he => ?_) (fun hne => ?_)
  · have hnil : l.drop m = [] := List.drop_eq_nil_of_le (by omega)
    rw [if_pos hnil] at hk
    have hr := (Option.some.inj hk).symm
    refine (hyl hr S1).mono ?_
    rintro y w3 ⟨B', S3, ⟨_, hI3⟩ | ⟨_, hJ⟩⟩
    · exact ⟨B', S3.drop 1, .inl (by rw [hTD, hr]; exact hI3)⟩
    · exact ⟨B', S3.drop 1, .inr hJ⟩
  · have hml : m < l.length := by omega
    have hnn : l.drop m ≠ [] := fun h => by have := congrArg List.length h; simp only [List.length_drop, List.length_nil] at this; omega
    rw [if_neg hnn] at hk
    split at hk
    · cases hk
    rename_i hq
    split at hk
    · cases hk
    rename_i hf0
    obtain ⟨q, hqq⟩ : ∃ q, q = firstP (l.drop m) := ⟨_, rfl⟩
    rw [← hqq] at hk hf0
    have hql : q.2 ≤ s.size - (n + m) := by
      have := firstP_le (l.drop m)
      rw [← hqq, List.length_drop] at this
      omega
    have hdd : l.drop m = (bl s).drop (n + m) := by rw [hl, List.drop_drop]
    have hse2 : (s.extract (n + m) s.size).size = s.size - (n + m) := by rw [← bl_length, bl_extract]; simp [bl_length]
    have hbe2 : bl (s.extract (n + m) s.size) = l.drop m := by rw [bl_extract, ← hdd, List.take_of_length_le (by rw [List.length_drop]; omega)]
    refine ⟨_, S1.cell 0 rfl rfl, ⟨by omega, by omega, by omega⟩, ?_⟩
    rw [Int.toNat_natCast]
    have hh : sget (s.extract (n + m) s.size) 0 = (l.drop m).headD 0 := by
      rw [sget_eq, hbe2]
      all_goals (cases l.drop m <;> rfl)
    refine call0 (pfirst_ok (s := s.extract (n + m) s.size) (by omega) (by rw [hh]; exact hq) (by omega)) ⟨_, _, rfl, _, S1.cell 0 rfl rfl, ?_⟩
    rw [hbe2, ← hqq]
    have ew2 : IntKind.i64.wrap (((n + m : Nat) : Int) + (q.2 : Int)) = ((n + m + q.2 : Nat) : Int) := by rw [wrap_i64 (by omega) (by omega)]; omega
    rw [ew2, Int.toNat_natCast]
    refine ⟨⟨by omega, by omega, by omega⟩, ?_⟩
    have hex : s.extract (n + m) (n + m + q.2) = sof ((l.drop m).take q.2) := by rw [extract_eq, hdd, Nat.add_sub_cancel_left]
    rw [hex]
    split at hk
    · cases hk
    rename_i T' hT'
    have hr := (Option.some.inj hk).symm
    refine (hyl hr S1).mono ?_
    rintro y w5 ⟨B', S5, ⟨rfl, hI5⟩ | ⟨rfl, hJ⟩⟩
    · refine IFB_not (IFB_true (IFB_eq (fun h => absurd h (by omega)) (fun _ => ⟨⟨n + m + q.2, k, D ++ [_], T', B', rfl, by omega, ?_, by rw [hTD, hr]; simp, hI5, S5⟩, by simp only [Int.toNat_natCast]; omega⟩)))
      rw [hdd, List.drop_drop] at hT'
      exact hT'
    · exact IFB_not (IFB_false ⟨B', S5.drop 1, .inr hJ⟩)
end Go.Proofs.YtbpdfpfgijhokaaGreatDoor
namespace Go.Proofs.YtbpdfpfgijhokaaGreatDoor
set_option maxRecDepth 100000
open Go.Dn Go.Proofs
open Go.RowKit (Below)
set_option linter.unusedVariables false
def oneS : ByteArray := ⟨#[49]⟩
theorem below_bytesWorld (w : World) (e : TypeId) (t : ByteArray) : Below w.heap.size w (Lib.bytesWorld w e t) := by
  unfold Lib.bytesWorld
  have h1 : Keeps (fun k => k = w.heap.size) w (w.drew.alloc (.cells (Lib.bytesCells w e t) e)) := (Keeps.refl _ w).drew.alloc _
  have h2 := freeze_keeps (fun k => k = w.heap.size) (w.drew.alloc (.cells (Lib.bytesCells w e t) e)) ⟨w.heap.size, (Lib.bytesCells w e t).size, none⟩ 1 rfl
  exact (h1.trans h2 (fun _ _ h => h)).below (Nat.le_refl _) (fun k hk he => by omega)
theorem iface_nil {k : Bool → Prop} (h : k true) : IFACEV .nilIface k := h
section
variable {w : World}
theorem ptrimB_one : Calls Tryz.prog f.strings_trimLeftByte #[.string oneS, .int .u8 48] w (Ret fun r w' => r = .string oneS ∧ w' = w) := by
  apply R.strings_trimLeftByte_calls
  unfold R.strings_trimLeftByte
  refine ⟨fun st w' => st = [.string oneS] ∧ w' = w, fun _ _ => 0, ⟨rfl, rfl⟩, ?_⟩
  rintro s w1 ⟨hst, rfl⟩
  cases hst
  exact IFB_dec (fun _ => ⟨⟨by decide, by decide⟩, IFB_eq (fun h => absurd h (by decide)) (fun _ => ⟨rfl, rfl⟩)⟩) (fun h => absurd (by decide) h)
theorem ptrim_one : Calls Tryz.prog f.strings_TrimLeft #[.string oneS, .string ⟨#[48]⟩] w (Ret fun r w' => r = .string oneS ∧ w' = w) := by
  apply R.strings_TrimLeft_calls
  unfold R.strings_TrimLeft
  exact IFB_no (by rw [bytesEq_iff]; decide) (IFB_no (by rw [bytesEq_iff]; decide) ⟨fun _ _ => False, IFB_eq (fun _ => ⟨⟨by decide, by decide⟩, IFB_dec (fun _ => ⟨⟨by decide, by decide⟩, call0 ptrimB_one ⟨_, rfl, rfl, rfl⟩⟩) (fun h => absurd (by decide) h)⟩) (fun h => absurd (by decide) h), fun _ h => h.elim⟩)
theorem pplain_one : Calls Tryz.prog f.query_plain #[.string kOne.2.2] w (Ret fun r w' => r = .string kOne.2.2 ∧ Below w.heap.size w w') := by
  apply R.query_plain_calls
  unfold R.query_plain
  exact call0 ptrim_one ⟨_, rfl, IFB_not (IFB_no (by rw [bytesEq_iff]; decide) ⟨rfl, .refl _ _⟩)⟩
theorem pvalue_one (E : Env w) : Calls Tryz.prog f.value_Parse #[.string oneS] w (Ret fun r w' => r = .tuple #[.agg #[.int .i64 1, .int .i64 1, .string E0], .int .i64 0] ∧ Below w.heap.size w w') := by
  apply R.value_Parse_calls
  unfold R.value_Parse
  refine (ST.start w).newB fun b2 w1 _ _ S1 => IFB_no (by rw [bytesEq_iff]; decide) (IFB_no (by rw [bytesEq_iff]; decide) (IFB_no (by rw [bytesEq_iff]; decide) (S1.lit3 fun b12 w14 _ S14 => ⟨fun st w' => st = [.bool false] ∧ ST w w' [It.cells b12 #[.int .i64 1, .int .i64 0, .string E0] ty.api_Value, It.cells b2 #[.int .i64 0, .int .i64 0, .string E0] ty.api_Value], IFB_dec (fun h => absurd h (by decide)) (fun _ => ⟨rfl, S14⟩), ?_⟩)))
  rintro _ w15 ⟨hst, S15⟩
  cases hst
  refine IFB_false ((Tryz.strconv_ParseInt_10_at64_ok oneS (by decide) 1 (by kernel_rfl) w15).mono ?_)
  rintro _ w30 ⟨rfl, hw⟩
  have B30 : Below w15.heap.size w15 w30 := by
    rcases hw with rfl | ⟨tt, rfl⟩
    · exact .refl _ _
    · exact below_bytesWorld _ _ _
  have S30 := S15.grown B30
  refine ⟨_, _, rfl, iface_nil (IFB_false ((Tryz.strconv_FormatInt_10 1 (by decide) (by decide) w30 (E.grown S30.bel).pow).mono ?_))⟩
  rintro _ w34 ⟨rfl, k, os, rfl⟩
  have S34 := S30.grown (below_grow w30 k os)
  refine ⟨_, rfl, IFB_not (IFB_yes (by kernel_rfl) (S34.sto 0 rfl (cs' := #[.int .i64 1, .int .i64 1, .string E0]) (by simp) rfl fun w38 S38 => ⟨_, S38.cell 0 rfl rfl, _, S38.cell 0 rfl rfl, _, S38.cell 0 rfl rfl, S38.sto3 1 rfl fun w41 S41 => ⟨_, S41.cell 1 rfl rfl, _, S41.cell 1 rfl rfl, _, S41.cell 1 rfl rfl, rfl, S41.bel⟩⟩))⟩
theorem pconst_one (E : Env w) : Calls Tryz.prog f.query_constant #[.string kOne.2.2] w (Ret fun r w' => r = .agg ⟨exHead (numX 1) none 0⟩ ∧ Below w.heap.size w w') := by
  apply R.query_constant_calls
  unfold R.query_constant
  refine (ST.start w).newB fun b2 w1 _ _ S1 => S1.call (pvalue_one (E.grown S1.bel)) fun w2 _ S2 => ⟨_, _, _, _, rfl, S2.lit3 fun b8 w6 _ S6 => IFB_ne (fun h => absurd rfl h) (fun _ => ⟨_, S6.cell 0 rfl rfl, _, S6.cell 0 rfl rfl, _, S6.cell 0 rfl rfl, stEx S6 1 rfl fun w19 S19 => ⟨rfl, S19.bel⟩⟩)⟩
end
end Go.Proofs.YtbpdfpfgijhokaaGreatDoor
namespace Go.Proofs.YtbpdfpfgijhokaaGreatDoor
set_option maxRecDepth 100000
open Go.Dn Go.Proofs
set_option linter.unusedVariables false
/-! ### quotes -/
/-! ### numbers -/
/-! ### one text, one value -/
def ParseV (s : ByteArray) (r : Value) : Prop :=
  (∃ v : Val, rightB v = true ∧ ValOk v ∧ showL v = bl s ∧ r = .tuple #[.agg #[.int .i64 v.1, .int .i64 v.2.1, .string v.2.2], .int .i64 0]) ∨
  ((∀ v : Val, rightB v = true → ValOk v → showL v ≠ bl s) ∧ r = .tuple #[.agg #[.int .i64 0, .int .i64 0, .string E0], .int .i64 40])
end Go.Proofs.YtbpdfpfgijhokaaGreatDoor
namespace Go.Proofs.YtbpdfpfgijhokaaGreatDoor
set_option maxRecDepth 100000
open Go.Dn Go.Proofs
open Go.RowKit (Below)
set_option linter.unusedVariables false
/-! ### quoted -/
theorem unq_ne {c : UInt8} (h : c ≠ 39) (r : List UInt8) : vunq (c :: r) = (vunq r).map (c :: ·) := by
  cases r with
  | nil => simp [vunq, h]
  | cons d r => simp [vunq, h]
def quotedV (o : Option (List UInt8)) : Value :=
  match o with
  | some t => .tuple #[.string (sof t), .bool true]
  | none => .tuple #[.string ⟨#[]⟩, .bool false]
theorem value_quoted_ok (w : World) (s : ByteArray) (hs : s.size ≤ 140737488351232) : Calls Tryz.prog f.value_quoted #[.string s] w (Ret fun r w' => r = quotedV (vunq (bl s)) ∧ Below w.heap.size w w') := by
  apply R.value_quoted_calls
  unfold R.value_quoted
  have hbl := bl_length s
  rw [← hbl] at hs ⊢
  refine ⟨fun st w1 => ∃ (k : Nat) (a : Option Addr) (c : Nat) (l : List UInt8), st = [.slice a l.length c, .int .i64 (k : Int)] ∧ k ≤ (bl s).length ∧ l.length ≤ k ∧ vunq (bl s) = (vunq ((bl s).drop k)).map (l ++ ·) ∧ NewB w w1 l a c,
    fun st _ => match st with
      | [_, .int _ i] => (bl s).length - i.toNat
      | _ => 0, ⟨0, none, 0, [], rfl, by omega, by simp, by simp, Row.nil _ _ _, by simp [rowB], .refl _ _⟩, ?_⟩
  rintro a _ c _ w1 ⟨k, _, _, l, hst, hk, hlk, hu, h1⟩
  cases hst
  refine IFB_dec (fun hlt => ⟨⟨by omega, hlt⟩, ?_⟩) (fun hge => ?_)
  · have hkl : k < (bl s).length := by omega
    have hd : (bl s).drop k = (bl s)[k] :: (bl s).drop (k + 1) := List.drop_eq_getElem_cons hkl
    rw [Int.toNat_natCast]
    refine (SH.start (fun _ => False) w1).newB fun b7 w3 hb7 B3 S3 => append_byte (h1.grown B3).row (by omega) (sget_byte hkl) (S3.get 0 rfl) fun a4 c4 w4 R4 K4 N4 => ⟨_, _, _, rfl, ⟨by omega, hlt⟩, ?_⟩
    have h4 := h1.appended B3 R4 K4 N4
    rw [sget_nat hkl]
    generalize hcc : (bl s)[k] = cc at hd h4 R4
    have hl' : (l ++ [cc]).length = l.length + 1 := by simp
    refine IFB_ne (fun hne => ?_) (fun he => ?_)
    · have hc : cc ≠ 39 := fun e => hne (u8_39.2 e)
      rw [wrap_succ (by omega)]
      refine ⟨⟨k + 1, a4, c4, _, rfl, by omega, by omega, ?_, h4⟩, ?_⟩
      · rw [hu, hd, unq_ne hc, Option.map_map]
        congr 1
        funext x
        simp
      · simp only [Int.toNat_natCast]
        omega
    · have hc : cc = 39 := u8_39.1 he
      rw [hc] at hd
      rw [wrap_succ (by omega)]
      have bad : vunq ((bl s).drop k) = none → (Value.tuple #[.string ⟨#[]⟩, .bool false] = quotedV (vunq (bl s)) ∧ Below w.heap.size w w4) := by
        intro hn
        rw [hu, hn]
        exact ⟨rfl, h4.bel⟩
      refine IFB_eq (fun hlast => bad ?_) (fun hnl => ⟨⟨by omega, by omega⟩, ?_⟩)
      · rw [hd, List.drop_eq_nil_of_le (by omega)]
        rfl
      · have hk1 : k + 1 < (bl s).length := by omega
        have hd1 : (bl s).drop (k + 1) = (bl s)[k + 1] :: (bl s).drop (k + 2) := List.drop_eq_getElem_cons hk1
        rw [Int.toNat_natCast, sget_nat hk1]
        refine IFB_ne (fun hne => bad ?_) (fun he2 => ?_)
        · have hc2 : (bl s)[k + 1] ≠ 39 := fun e => hne (u8_39.2 e)
          rw [hd, hd1]
          simp [vunq, hc2]
        · have hc2 : (bl s)[k + 1] = 39 := u8_39.1 he2
          rw [wrap_succ (by omega)]
          refine ⟨⟨k + 2, a4, c4, _, rfl, by omega, by omega, ?_, h4⟩, ?_⟩
          · rw [hu, hd, hd1, hc2]
            simp only [vunq, if_true]
            rw [Option.map_map, hc]
            congr 1
            funext x
            simp
          · simp only [Int.toNat_natCast]
            omega
  · have hke : k = (bl s).length := by omega
    refine string_of_bytes tbytes rfl h1.rd ⟨_, rfl, ?_, h1.bel⟩
    rw [hu, List.drop_eq_nil_of_le (by omega)]
    simp [vunq, quotedV]
/-! ### Digits -/
/-! ### the program's Parse -/
structure Env2 (w : World) : Prop where
  env : Env w
  syn : ∃ t p, w.cell? ⟨9, 0, none⟩ = some (.iface t p)
  rng : ∃ t p, w.cell? ⟨10, 0, none⟩ = some (.iface t p)
theorem Env2.grown {w w' : World} (h : Env2 w) (hb : Below w.heap.size w w') : Env2 w' := by
  obtain ⟨h1, ⟨t, p, h2⟩, ⟨t', p', h3⟩⟩ := h
  exact ⟨h1.grown hb, ⟨t, p, (Keeps.of_below (F := fun _ => False) hb).cell h2 (by simp)⟩, ⟨t', p', (Keeps.of_below (F := fun _ => False) hb).cell h3 (by simp)⟩⟩
theorem parseInt_ok {w : World} (he : Env2 w) (s : ByteArray) (hs : s.size ≤ 140737488351232) : Calls Tryz.prog f.strconv_ParseInt #[.string s, .int .i64 10, .int .i64 64] w (fun e w' => Below w.heap.size w w' ∧
    ((∃ n, Lib.parseIntB 64 (bl s) = .ok n ∧ e = .returned (.tuple #[.int .i64 n, .nilIface])) ∨ ((∀ n, Lib.parseIntB 64 (bl s) ≠ .ok n) ∧ ∃ (n : Int) (t : TypeId) (p : Value), e = .returned (.tuple #[.int .i64 n, .iface t p])))) := by
  obtain ⟨h1, ⟨t, p, h2⟩, ⟨t', p', h3⟩⟩ := he
  have three : (∃ n, Lib.parseIntB 64 s.data.toList = Lib.NumEnd.ok n) ∨ Lib.parseIntB 64 s.data.toList = Lib.NumEnd.syntax ∨ Lib.parseIntB 64 s.data.toList = Lib.NumEnd.range := by
    generalize Lib.parseIntB 64 s.data.toList = q
    cases q
    · exact .inl ⟨_, rfl⟩
    · exact .inr (.inl rfl)
    · exact .inr (.inr rfl)
  rcases three with ⟨n, ho⟩ | ho | ho
  · refine (Tryz.strconv_ParseInt_10_at64_ok s (by omega) n ho w).mono ?_
    rintro e w' ⟨rfl, hw⟩
    refine ⟨?_, .inl ⟨n, ho, rfl⟩⟩
    rcases hw with rfl | ⟨tt, rfl⟩
    · exact .refl _ _
    · exact below_bytesWorld _ _ _
  · have no : ∀ n, Lib.parseIntB 64 (bl s) ≠ .ok n := fun n hn => by have h : Lib.parseIntB 64 (bl s) = _ := ho; rw [h] at hn; cases hn
    refine (Tryz.strconv_ParseInt_10_at64_syntax s (by omega) ho _ w h2 (.inr ⟨t, p, rfl⟩)).mono ?_
    rintro e w' ⟨N, rfl, _, _, hb⟩
    exact ⟨hb, .inr ⟨no, _, _, _, rfl⟩⟩
  · have no : ∀ n, Lib.parseIntB 64 (bl s) ≠ .ok n := fun n hn => by have h : Lib.parseIntB 64 (bl s) = _ := ho; rw [h] at hn; cases hn
    refine (Tryz.strconv_ParseInt_10_at64_range s (by omega) ho _ w h3 (.inr ⟨t', p', rfl⟩)).mono ?_
    rintro e w' ⟨N, rfl, _, _, hb⟩
    exact ⟨hb, .inr ⟨no, _, _, _, rfl⟩⟩
theorem parseInt_range {l : List UInt8} {n : Int} (h : Lib.parseIntB 64 l = .ok n) : -9223372036854775808 ≤ n ∧ n ≤ 9223372036854775807 := by
  have p63 : (2 : Nat) ^ (64 - 1) = 9223372036854775808 := by decide
  unfold Lib.parseIntB at h
  split at h
  · cases h
  · simp only [p63] at h
    split at h
    · cases h
    · cases h
    · split at h
      · cases h
      · split at h
        · cases h
        · simp only [Lib.NumEnd.ok.injEq] at h
          split at h <;> omega
end Go.Proofs.YtbpdfpfgijhokaaGreatDoor
namespace Go.Proofs.YtbpdfpfgijhokaaGreatDoor
set_option maxRecDepth 100000
open Go.Dn Go.Proofs
set_option linter.unusedVariables false
theorem iface_of_laid {P : Program} {W : World} {g : Nat} {ms : Array (String × TypeId)} {nm : String} {d : DataW Unit} {n : String} {r : List (String × DataW Unit)}
    (hg : P.globalNamed n = some g) (hu : ((P.globals[g]?).map (·.type)).bind (fun t => P.underlying t) = some (.interface ms)) (h : laidMet P ((n, .iface nm d) :: r) W) : ∃ t p, W.cell? ⟨g, 0, none⟩ = some (.iface t p) := by
  obtain ⟨ps, ⟨g', t, cs, fuel, p, q, h1, h2, h3, h4, h5, _⟩, _⟩ := h
  obtain rfl := Option.some.inj (hg.symm.trans h1)
  rw [h2] at hu
  replace hu : P.underlying t = some (.interface ms) := hu
  cases fuel with
  | zero => cases h4
  | succ fuel =>
    unfold DataW.trod at h4
    rw [hu] at h4
    have hc := World.var?_cell hg h3 0
    generalize hl : cs.toList = l at h4
    match l, h4 with
    | [.nilIface], h4 => cases h4
    | [.iface u v], h4 =>
      refine ⟨u, v, ?_⟩
      rw [hc]
      have : cs[0]? = cs.toList[0]? := by simp
      rw [this, hl]
      rfl
theorem env2_of {W : World} {l : List (String × DataW Unit)} (hs : (l.filter fun x => x.1 == "strconv.ErrSyntax") = [("strconv.ErrSyntax", Rows.laid_strconv_ErrSyntax)]) (hr : (l.filter fun x => x.1 == "strconv.ErrRange") = [("strconv.ErrRange", Rows.laid_strconv_ErrRange)]) (h : laidMet Tryz.prog l W) (he : Env W) : Env2 W := by
  have h1 := h.filter fun x => x.1 == "strconv.ErrSyntax"
  have h2 := h.filter fun x => x.1 == "strconv.ErrRange"
  rw [hs] at h1
  rw [hr] at h2
  exact ⟨he, iface_of_laid (ms := #[("Error", 149)]) (by kernel_rfl) (by kernel_rfl) h1, iface_of_laid (ms := #[("Error", 149)]) (by kernel_rfl) (by kernel_rfl) h2⟩
end Go.Proofs.YtbpdfpfgijhokaaGreatDoor
namespace Go.Proofs.YtbpdfpfgijhokaaGreatDoor
set_option maxRecDepth 100000
open Go.Dn Go.Proofs
set_option linter.unusedVariables false
/-! ### what holds from some number on -/
def Ev (p : Nat → Prop) : Prop := ∃ n, ∀ f, n ≤ f → p f
theorem Ev.step {p q : Nat → Prop} (h : Ev p) (hpq : ∀ f, p f → q (f + 1)) : Ev q := by
  obtain ⟨n, hn⟩ := h
  refine ⟨n + 1, fun f hf => ?_⟩
  obtain ⟨g, rfl⟩ : ∃ g, f = g + 1 := ⟨f - 1, by omega⟩
  exact hpq g (hn g (by omega))
theorem Ev.and {p q : Nat → Prop} (h : Ev p) (h' : Ev q) : Ev fun f => p f ∧ q f := by
  obtain ⟨n, hn⟩ := h
  obtain ⟨m, hm⟩ := h'
  exact ⟨max n m, fun f hf => ⟨hn f (by omega), hm f (by omega)⟩⟩
theorem Ev.all {q : Nat → Prop} (h : ∀ f, q (f + 1)) : Ev q := ⟨1, fun f hf => by obtain ⟨g, rfl⟩ : ∃ g, f = g + 1 := ⟨f - 1, by omega⟩; exact h g⟩
theorem Ev.one {p : Nat → Prop} (h : Ev p) : ∃ f, p f := by
  obtain ⟨n, hn⟩ := h
  exact ⟨n, hn n (Nat.le_refl _)⟩
/-! ### signs -/
def opTab : List (List UInt8 × Int × Int) :=
  [([32, 111, 114, 32], 1, 13), ([32, 97, 110, 100, 32], 2, 12), ([32, 105, 115, 32, 110, 117, 108, 108], 4, 15), ([32, 61, 32], 5, 9), ([32, 60, 32], 5, 10), ([32, 60, 61, 32], 5, 11), ([32, 43, 32], 6, 3), ([32, 45, 32], 6, 4), ([32, 42, 32], 7, 5), ([32, 47, 32], 7, 6), ([32, 37, 32], 7, 7)]
def nextOp (s : List UInt8) : Option (Int × Int × List UInt8) := opTab.findSome? fun e => if e.1.isPrefixOf s then some (e.2.1, e.2.2, s.drop e.1.length) else none
def powN (s : List UInt8) : Int := match nextOp s with | none => 0 | some e => e.1
/-! ### a reader of canonical texts -/
def cst (b : List UInt8) : Ex := .mk 2 (sof b) V0 []
inductive Tag where
  | E (lv : Int)
  | L (lv : Int) (x : Ex) (own : Int)
  | M
  | A
def nullW : List UInt8 := [110, 117, 108, 108]
def trueW : List UInt8 := [116, 114, 117, 101]
def falseW : List UInt8 := [102, 97, 108, 115, 101]
def lenW : List UInt8 := [108, 101, 110]
def notW : List UInt8 := [110, 111, 116, 32]
def closeP : Option (Ex × List UInt8) → Option (Ex × List UInt8)
  | some (x, c :: r) => if c = 41 then some (x, r) else none
  | _ => none
def ps : Nat → Tag → List UInt8 → Option (Ex × List UInt8)
  | 0, _, _ => none
  | f + 1, .E lv, s =>
    if lv ≤ 3 ∧ notW.isPrefixOf s = true then (ps f (.E 3) (s.drop 4)).bind fun k => ps f (.L lv (.mk 14 E0 V0 [k.1]) 3) k.2
    else (ps f .M s).bind fun x => ps f (.L lv x.1 9) x.2
  | f + 1, .L lv x own, s =>
    match nextOp s with
    | none => some (x, s)
    | some e =>
      if e.2.1 = 15 then (if 4 < lv ∨ own < 5 then some (x, s) else ps f (.L lv (.mk 15 E0 V0 [x]) 4) e.2.2)
      else if e.1 < lv ∨ own < e.1 ∨ (e.1 = 5 ∧ own = 5) then some (x, s)
      else (ps f (.E (e.1 + 1)) e.2.2).bind fun y => ps f (.L lv (.mk e.2.1 E0 V0 [x, y.1]) e.1) y.2
  | f + 1, .M, s =>
    match s with
    | [] => none
    | c :: r =>
      if c = 45 then (if isDig (r.headD 0) then some (cst (45 :: r.take (runN isDig r)), r.drop (runN isDig r)) else (ps f .M r).bind fun k => some (.mk 8 E0 V0 [k.1], k.2))
      else ps f .A (c :: r)
  | f + 1, .A, s =>
    match s with
    | [] => none
    | c :: r =>
      if c = 40 then closeP (ps f (.E 1) r)
      else if c = 39 then some (cst (39 :: r.take (quoteN r)), r.drop (quoteN r))
      else if isDig c then some (cst ((c :: r).take (runN isDig (c :: r))), (c :: r).drop (runN isDig (c :: r)))
      else if (c :: r).take (runN wordCh (c :: r)) = nullW ∨ (c :: r).take (runN wordCh (c :: r)) = trueW ∨ (c :: r).take (runN wordCh (c :: r)) = falseW then some (cst ((c :: r).take (runN wordCh (c :: r))), (c :: r).drop (runN wordCh (c :: r)))
      else if (c :: r).take (runN wordCh (c :: r)) = lenW then (closeP (ps f (.E 1) ((c :: r).drop (runN wordCh (c :: r) + 1)))).bind fun k => some (.mk 16 E0 V0 [k.1], k.2)
      else some (.mk 1 (sof ((c :: r).take (runN wordCh (c :: r)))) V0 [], (c :: r).drop (runN wordCh (c :: r)))
section
variable {f : Nat} {lv own : Int} {x : Ex} {s rest : List UInt8}
end
end Go.Proofs.YtbpdfpfgijhokaaGreatDoor
namespace Go.Proofs.YtbpdfpfgijhokaaGreatDoor
set_option maxRecDepth 100000
open Go.Dn Go.Proofs
set_option linter.unusedVariables false
section
variable {x : Ex} {lv need : Int} {rest : List UInt8} {R : Ex × List UInt8}
end
/-! ### one text, one expression -/
end Go.Proofs.YtbpdfpfgijhokaaGreatDoor
namespace Go.Proofs.YtbpdfpfgijhokaaGreatDoor
set_option maxRecDepth 100000
open Go.Dn Go.Proofs
set_option linter.unusedVariables false
/-! ### items -/
/-! ### keys -/
/-! ### a query -/
end Go.Proofs.YtbpdfpfgijhokaaGreatDoor
namespace Go.Proofs.YtbpdfpfgijhokaaGreatDoor
set_option maxRecDepth 100000
open Go.Dn Go.Proofs
set_option linter.unusedVariables false
def sortG : List UInt8 → Int
  | [] => 0
  | c :: r => if isLet c then 1 else if isDig c then 2 else if c.toNat = 39 then 3 else if c.toNat = 60 ∧ 1 ≤ r.length ∧ (r.getD 0 0).toNat = 61 then 4 else if signCh c then 4 else 0
theorem sort_len {l : List UInt8} (h : (lenT l).1 ≠ 0) : sortG l = (lenT l).2 := by
  cases l with
  | nil => simp [lenT] at h
  | cons c r =>
    revert h
    simp only [lenT, sortG]
    split
    · intro _; rfl
    · split
      · intro _; rfl
      · split
        · split
          · intro h; simp at h
          · intro _; rfl
        · split
          · intro _; rfl
          · split
            · intro _; rfl
            · intro h; simp at h
inductive Lx : List UInt8 → Nat → List Tk → Prop
  | fin (n : Nat) : Lx [] n [((n : Int), 0, E0)]
  | blank {c : UInt8} {r : List UInt8} {n : Nat} {T : List Tk} : blankCh c = true → Lx r (n + 1) T → Lx (c :: r) n T
  | tok {c : UInt8} {r : List UInt8} {n : Nat} {T : List Tk} : blankCh c = false → (lenT (c :: r)).1 ≠ 0 → Lx ((c :: r).drop (lenT (c :: r)).1) (n + (lenT (c :: r)).1) T →
      Lx (c :: r) n (((n : Int), (lenT (c :: r)).2, sof ((c :: r).take (lenT (c :: r)).1)) :: T)
  | bad {c : UInt8} {r : List UInt8} {n : Nat} : blankCh c = false → (lenT (c :: r)).1 = 0 → Lx (c :: r) n [((n : Int), sortG (c :: r), E0)]
theorem lx_ex : ∀ (m : Nat) (l : List UInt8) (n : Nat), l.length ≤ m → ∃ T, Lx l n T
  | m, [], n, _ => ⟨_, .fin n⟩
  | 0, c :: r, n, h => by simp at h
  | m + 1, c :: r, n, h => by
    simp only [List.length_cons] at h
    by_cases hb : blankCh c = true
    · obtain ⟨T, hT⟩ := lx_ex m r (n + 1) (by omega)
      exact ⟨T, .blank hb hT⟩
    · have hb : blankCh c = false := by simpa using hb
      by_cases hz : (lenT (c :: r)).1 = 0
      · exact ⟨_, .bad hb hz⟩
      · obtain ⟨T, hT⟩ := lx_ex m ((c :: r).drop (lenT (c :: r)).1) (n + (lenT (c :: r)).1) (by rw [List.length_drop, List.length_cons]; omega)
        exact ⟨_, .tok hb hz hT⟩
theorem Lx.skip {l : List UInt8} {n : Nat} {T : List Tk} (h : Lx l n T) : Lx (l.drop (runN blankCh l)) (n + runN blankCh l) T := by
  induction h with
  | fin n => exact .fin n
  | @blank c r n T hb h ih =>
    rw [runN, if_pos hb]
    show Lx (r.drop (runN blankCh r)) (n + (runN blankCh r + 1)) T
    rw [show n + (runN blankCh r + 1) = n + 1 + runN blankCh r by omega]
    exact ih
  | @tok c r n T hb hz h ih =>
    rw [runN, if_neg (by rw [hb]; decide)]
    exact .tok hb hz h
  | @bad c r n hb hz =>
    rw [runN, if_neg (by rw [hb]; decide)]
    exact .bad hb hz
theorem runN_head {p : UInt8 → Bool} : ∀ {l : List UInt8} {c : UInt8} {r : List UInt8}, l.drop (runN p l) = c :: r → p c = false
  | [], c, r, h => by simp [runN] at h
  | d :: l, c, r, h => by
    rw [runN] at h
    split at h
    · exact runN_head (l := l) h
    · rename_i hd
      simp only [List.drop_zero, List.cons.injEq] at h
      rw [← h.1]
      simpa using hd
inductive Fin : List Tk → Prop
  | one (n : Int) : Fin [(n, 0, E0)]
  | cons {t : Tk} {T : List Tk} : t.2.1 ≠ 0 → t.2.2 ≠ E0 → Fin T → Fin (t :: T)
theorem lenT_sort {l : List UInt8} (h : (lenT l).1 ≠ 0) : (lenT l).2 ≠ 0 := by
  cases l with
  | nil => simp [lenT] at h
  | cons c r =>
    revert h
    simp only [lenT]
    split
    · intro _; simp
    · split
      · intro _; simp
      · split
        · split
          · intro h; simp at h
          · intro _; simp
        · split
          · intro _; simp
          · split
            · intro _; simp
            · intro h; simp at h
theorem take_ne {l : List UInt8} (h : (lenT l).1 ≠ 0) : sof (l.take (lenT l).1) ≠ E0 := by
  intro he
  have := congrArg bl he
  rw [bl_sof] at this
  have h2 := congrArg List.length this
  have h3 := lenT_le l
  rw [List.length_take] at h2
  have : (bl E0).length = 0 := rfl
  omega
/-! ### the document's tokens -/
/-! ### places, a text's front -/
theorem runN_take {p : UInt8 → Bool} : ∀ {l : List UInt8} {k : Nat}, runN p l ≤ k → runN p (l.take k) = runN p l
  | [], k, _ => by simp
  | c :: r, k, h => by
    cases k with
    | zero =>
      rw [List.take_zero]
      have : runN p (c :: r) = 0 := by omega
      rw [this]; rfl
    | succ k =>
      rw [List.take_succ_cons, runN, runN]
      rw [runN] at h
      split
      · rename_i hp
        rw [if_pos hp] at h
        rw [runN_take (by omega)]
      · rfl
theorem quoteN_take : ∀ (m : Nat) {l : List UInt8} {k : Nat}, l.length ≤ m → quoteN l ≠ 0 → quoteN l ≤ k → quoteN (l.take k) = quoteN l
  | _, [], k, _, _, _ => by simp
  | 0, c :: r, k, hm, _, _ => by simp at hm
  | m + 1, [c], k, hm, h0, h => by
    cases k with
    | zero => omega
    | succ k => rw [List.take_succ_cons, List.take_nil]
  | m + 1, c :: d :: r, k, hm, h0, h => by
    simp only [List.length_cons] at hm
    cases k with
    | zero => omega
    | succ k =>
      rw [List.take_succ_cons]
      by_cases hc : c.toNat = 39
      · by_cases hd : d.toNat = 39
        · rw [quoteN_two hc hd] at h h0 ⊢
          split at h
          · rename_i hz; rw [if_pos hz] at h0; exact absurd rfl h0
          · rename_i hz
            cases k with
            | zero => omega
            | succ k =>
              rw [List.take_succ_cons, quoteN_two hc hd, quoteN_take m (by omega) hz (by omega)]
        · rw [quoteN_one hc hd]
          cases k with
          | zero => rw [List.take_zero]; exact quoteN_end hc
          | succ k => rw [List.take_succ_cons, quoteN_one hc hd]
      · rw [quoteN_other hc] at h h0 ⊢
        split at h
        · rename_i hz; rw [if_pos hz] at h0; exact absurd rfl h0
        · rename_i hz
          rw [quoteN_other hc, quoteN_take m (by simp only [List.length_cons]; omega) hz (by omega)]
theorem lenT_take {l : List UInt8} {k : Nat} (h0 : (lenT l).1 ≠ 0) (h : (lenT l).1 ≤ k) : lenT (l.take k) = lenT l := by
  cases l with
  | nil => simp
  | cons c r =>
    cases k with
    | zero => omega
    | succ k =>
      rw [List.take_succ_cons]
      simp only [lenT] at h h0 ⊢
      by_cases h1 : isLet c = true
      · simp only [h1, if_true] at h ⊢
        rw [runN_take (by omega)]
      · have h1 : isLet c = false := by simpa using h1
        simp only [h1, Bool.false_eq_true, if_false] at h h0 ⊢
        by_cases h2 : isDig c = true
        · simp only [h2, if_true] at h ⊢
          rw [runN_take (by omega)]
        · have h2 : isDig c = false := by simpa using h2
          simp only [h2, Bool.false_eq_true, if_false] at h h0 ⊢
          by_cases h3 : c.toNat = 39
          · simp only [h3, if_true] at h h0 ⊢
            by_cases hz : quoteN r = 0
            · simp only [hz, if_true] at h0; exact absurd rfl h0
            · simp only [hz, if_false] at h
              rw [quoteN_take _ (Nat.le_refl _) hz (by omega)]
          · simp only [h3, if_false] at h h0 ⊢
            by_cases h4 : c.toNat = 60 ∧ 1 ≤ r.length ∧ (r.getD 0 0).toNat = 61
            · simp only [h4, and_self, if_true] at h
              obtain ⟨h41, h42, h43⟩ := h4
              cases r with
              | nil => simp at h42
              | cons d r =>
                cases k with
                | zero => omega
                | succ k =>
                  rw [List.take_succ_cons]
                  simp only [List.getD_cons_zero] at h43
                  simp [h41, h43]
            · simp only [h4, if_false] at h h0 ⊢
              have h4' : ¬ (c.toNat = 60 ∧ 1 ≤ (r.take k).length ∧ ((r.take k).getD 0 0).toNat = 61) := by
                rintro ⟨a, b, d⟩
                apply h4
                cases r with
                | nil => simp at b
                | cons e r =>
                  cases k with
                  | zero => simp at b
                  | succ k => rw [List.take_succ_cons] at d; exact ⟨a, by simp, d⟩
              simp only [h4', if_false]
theorem Lx.front {l : List UInt8} {n : Nat} {T : List Tk} (h : Lx l n T) : ∀ (A : List Tk) (t : Tk) (B : List Tk), T = A ++ t :: B → ∃ k : Nat, t.1 = ((n + k : Nat) : Int) ∧ k ≤ l.length ∧ Lx (l.take k) n (A ++ [(t.1, 0, E0)]) := by
  induction h with
  | fin n =>
    intro A t B hT
    cases A with
    | nil => simp only [List.nil_append, List.cons.injEq] at hT; obtain ⟨rfl, rfl⟩ := hT; exact ⟨0, by simp, by simp, .fin n⟩
    | cons a A => simp at hT
  | @blank c r n T hb h ih =>
    intro A t B hT
    obtain ⟨k, h1, h2, h3⟩ := ih A t B hT
    exact ⟨k + 1, by rw [h1]; simp only [Int.natCast_inj]; omega, by simp only [List.length_cons]; omega, by rw [List.take_succ_cons]; exact .blank hb h3⟩
  | @tok c r n T hb hz h ih =>
    intro A t B hT
    cases A with
    | nil =>
      simp only [List.nil_append, List.cons.injEq] at hT
      obtain ⟨rfl, rfl⟩ := hT
      exact ⟨0, by simp, by simp, .fin n⟩
    | cons a A =>
      simp only [List.cons_append, List.cons.injEq] at hT
      obtain ⟨rfl, hT⟩ := hT
      obtain ⟨k, h1, h2, h3⟩ := ih A t B hT
      have hle := lenT_le (c :: r)
      rw [List.length_drop] at h2
      obtain ⟨m, hm⟩ : ∃ m, m = (lenT (c :: r)).1 := ⟨_, rfl⟩
      have ht := lenT_take (k := m + k) hz (by omega)
      refine ⟨m + k, by rw [h1, ← hm]; simp only [Int.natCast_inj]; omega, by omega, ?_⟩
      obtain ⟨m', hm'⟩ : ∃ m', m = m' + 1 := ⟨m - 1, by omega⟩
      have e : (c :: r).take (m + k) = c :: r.take (m' + k) := by rw [hm', show m' + 1 + k = (m' + k) + 1 by omega, List.take_succ_cons]
      rw [e] at ht ⊢
      have g : Lx (c :: r.take (m' + k)) n (((n : Int), (lenT (c :: r.take (m' + k))).2, sof ((c :: r.take (m' + k)).take (lenT (c :: r.take (m' + k))).1)) :: (A ++ [(t.1, 0, E0)])) := by
        refine .tok hb (by rw [ht]; exact hz) ?_
        rw [ht, ← hm, ← e, List.drop_take, Nat.add_sub_cancel_left]
        rw [← hm] at h3
        exact h3
      rw [ht, ← e, ← hm, List.take_take, Nat.min_eq_left (by omega), hm] at g
      rw [← e]
      rw [hm]
      exact g
  | @bad c r n hb hz =>
    intro A t B hT
    cases A with
    | nil => simp only [List.nil_append, List.cons.injEq] at hT; obtain ⟨rfl, rfl⟩ := hT; exact ⟨0, by simp, by simp, .fin n⟩
    | cons a A => simp at hT
/-! ### canonical tokens -/
inductive RS (α : Type) where
  | ok (x : α) (L : List Tk)
  | bad (a : Int)
section
variable {α β : Type}
def bindR (r : Option (RS α)) (k : α → List Tk → Option (RS β)) : Option (RS β) :=
  match r with
  | none => none
  | some (.bad a) => some (.bad a)
  | some (.ok x L) => k x L
theorem bindR_open {r : Option (RS α)} {k : α → List Tk → Option (RS β)} {R : RS β} (h : bindR r k = some R) : (∃ a, r = some (.bad a) ∧ R = .bad a) ∨ ∃ x L, r = some (.ok x L) ∧ k x L = some R := by
  match r, h with
  | some (.bad a), h => exact .inl ⟨a, rfl, (Option.some.inj h).symm⟩
  | some (.ok x L), h => exact .inr ⟨x, L, rfl, h⟩
def needT (s : ByteArray) (k : List Tk → Option (RS α)) : List Tk → Option (RS α)
  | [] => none
  | t :: L => if isB t s = true then k L else some (.bad t.1)
def nameT (k : ByteArray → List Tk → Option (RS α)) : List Tk → Option (RS α)
  | [] => none
  | t :: L => if t.2.1 = 1 ∧ isKeyB t.2.2 = false then k t.2.2 L else some (.bad t.1)
def optT (s : ByteArray) (k : List Tk → Option (RS α)) (d : α) : List Tk → Option (RS α)
  | [] => none
  | t :: L => if isB t s = true then k L else some (.ok d (t :: L))
end
abbrev qNot : ByteArray := ⟨#[110, 111, 116]⟩
abbrev qIs : ByteArray := ⟨#[105, 115]⟩
abbrev qNull : ByteArray := ⟨#[110, 117, 108, 108]⟩
abbrev qTrue : ByteArray := ⟨#[116, 114, 117, 101]⟩
abbrev qFalse : ByteArray := ⟨#[102, 97, 108, 115, 101]⟩
abbrev qLen : ByteArray := ⟨#[108, 101, 110]⟩
abbrev qOpen : ByteArray := ⟨#[40]⟩
abbrev qClose : ByteArray := ⟨#[41]⟩
abbrev qMinus : ByteArray := ⟨#[45]⟩
abbrev qComma : ByteArray := ⟨#[44]⟩
abbrev qStar : ByteArray := ⟨#[42]⟩
abbrev qAs : ByteArray := ⟨#[97, 115]⟩
abbrev qSelect : ByteArray := ⟨#[115, 101, 108, 101, 99, 116]⟩
abbrev qWhere : ByteArray := ⟨#[119, 104, 101, 114, 101]⟩
abbrev qGroup : ByteArray := ⟨#[103, 114, 111, 117, 112]⟩
abbrev qBy : ByteArray := ⟨#[98, 121]⟩
abbrev qOrder : ByteArray := ⟨#[111, 114, 100, 101, 114]⟩
abbrev qLimit : ByteArray := ⟨#[108, 105, 109, 105, 116]⟩
abbrev qDesc : ByteArray := ⟨#[100, 101, 115, 99]⟩
/-! ### constants -/
def cand (l : List UInt8) : List Val :=
  [(0, 0, E0), (2, 0, E0), (2, 1, E0), (1, (match Lib.parseIntB 64 l with | .ok n => n | _ => 0), E0), (3, 0, (match vunq ((l.drop 1).take (l.length - 1 - 1)) with | some t => sof t | none => E0))]
def valOf (s : ByteArray) : Option Val := (cand (bl s)).find? fun v => rightB v && decide (i64 v.2.1) && decide (showL v = bl s)
theorem valOf_some {s : ByteArray} {v : Val} (h : valOf s = some v) : rightB v = true ∧ ValOk v ∧ showL v = bl s := by
  have := List.find?_some h
  simp only [Bool.and_eq_true, decide_eq_true_eq] at this
  exact ⟨this.1.1, ⟨this.1.2.1, this.1.2.2⟩, this.2⟩
theorem valOf_of {s : ByteArray} {v : Val} (hr : rightB v = true) (hv : ValOk v) (h : showL v = bl s) : valOf s = some v := by
  have hm : v ∈ cand (bl s) := by
    unfold cand
    rcases show_cases hr _ h with ⟨e, _⟩ | ⟨e, e2⟩ | ⟨e, _⟩ | ⟨e, _⟩ | ⟨e, _, e2⟩
    · rw [e]; simp
    · rw [e2, vitoa_parse _ hv.lo hv.hi]
      simp only [List.mem_cons]
      exact .inr (.inr (.inr (.inl e)))
    · rw [e]; simp
    · rw [e]; simp
    · rw [e2]
      have e3 : (((39 :: quoteL (bl v.2.2)) ++ [39]).drop 1).take (((39 :: quoteL (bl v.2.2)) ++ [(39 : UInt8)]).length - 1 - 1) = quoteL (bl v.2.2) := by simp
      rw [e3, unq_quote]
      simp only [List.mem_cons, sof_bl]
      exact .inr (.inr (.inr (.inr (.inl e))))
  cases ho : valOf s with
  | none =>
    have := List.find?_eq_none.1 ho v hm
    exact absurd (show (rightB v && decide (i64 v.2.1) && decide (showL v = bl s)) = true by rw [hr, h, decide_eq_true ⟨hv.lo, hv.hi⟩]; simp) this
  | some u =>
    obtain ⟨h1, h2, h3⟩ := valOf_some ho
    rw [show_inj h1 hr h2 hv (h3.trans h.symm)]
def cstX (s : ByteArray) : Ex := match valOf s with
  | some v => .mk 2 E0 v []
  | none => .mk (-1) E0 V0 []
theorem cstX_of {s : ByteArray} {v : Val} (hr : rightB v = true) (hv : ValOk v) (h : showL v = bl s) : cstX s = .mk 2 E0 v [] := by rw [cstX, valOf_of hr hv h]
def plainL (l : List UInt8) : List UInt8 := match l.dropWhile (fun c => c.toNat == 48) with
  | [] => [48]
  | c :: r => c :: r
def plainB (s : ByteArray) : ByteArray := sof (plainL (bl s))
def negX (s : ByteArray) : Ex := if plainB s = ⟨#[48]⟩ then cstX ⟨#[48]⟩ else cstX (⟨#[45]⟩ ++ plainB s)
/-! ### expressions -/
def negM (k : List Tk → Option (RS Ex)) : List Tk → Option (RS Ex)
  | [] => none
  | u :: L => if u.2.1 = 2 then some (.ok (negX u.2.2) L) else bindR (k (u :: L)) fun x L' => some (.ok (.mk 8 E0 V0 [x]) L')
def pt : Nat → Tag → List Tk → Option (RS Ex)
  | 0, _, _ => none
  | _ + 1, _, [] => none
  | f + 1, .E lv, t :: L =>
    if lv ≤ 3 ∧ isB t qNot = true then bindR (pt f (.E 3) L) fun k L' => pt f (.L lv (.mk 14 E0 V0 [k]) 3) L'
    else bindR (pt f .M (t :: L)) fun x L' => pt f (.L lv x 9) L'
  | f + 1, .L lv x own, t :: L =>
    if isB t qIs = true then (if 4 < lv ∨ own < 5 then some (.ok x (t :: L)) else needT qNull (fun L' => pt f (.L lv (.mk 15 E0 V0 [x]) 4) L') L)
    else if (powF t).1 < lv ∨ (powF t).1 = 0 ∨ own < (powF t).1 ∨ ((powF t).1 = 5 ∧ own = 5) then some (.ok x (t :: L))
    else bindR (pt f (.E ((powF t).1 + 1)) L) fun y L' => pt f (.L lv (.mk (powF t).2 E0 V0 [x, y]) (powF t).1) L'
  | f + 1, .M, t :: L =>
    if isB t qMinus = true then negM (pt f .M) L else pt f .A (t :: L)
  | f + 1, .A, t :: L =>
    if t.2.1 = 2 then some (.ok (cstX (plainB t.2.2)) L)
    else if t.2.1 = 3 then some (.ok (cstX t.2.2) L)
    else if isB t qNull = true ∨ isB t qTrue = true ∨ isB t qFalse = true then some (.ok (cstX t.2.2) L)
    else if isB t qLen = true then needT qOpen (fun L1 => bindR (pt f (.E 1) L1) fun x L2 => needT qClose (fun L3 => some (.ok (.mk 16 E0 V0 [x]) L3)) L2) L
    else if isB t qOpen = true then bindR (pt f (.E 1) L) fun x L1 => needT qClose (fun L2 => some (.ok x L2)) L1
    else nameT (fun s L1 => some (.ok (colX s) L1)) (t :: L)
/-! ### items, lists, a query -/
def gatB (s : ByteArray) : Int := if s = ⟨#[99, 111, 117, 110, 116]⟩ then 2 else if s = ⟨#[115, 117, 109]⟩ then 3 else if s = ⟨#[109, 105, 110]⟩ then 4 else if s = ⟨#[109, 97, 120]⟩ then 5 else 0
def aggT (t : Tk) : Int := if t.2.1 = 1 then gatB t.2.2 else 0
abbrev zeroX : Ex := .mk 0 E0 V0 []
def tailT (a : Int) (x : Ex) (L : List Tk) : Option (RS Itm) := needT qAs (nameT fun s L' => some (.ok (s, a, x) L')) L
def starT (f : Nat) (a : Int) : List Tk → Option (RS (Int × Ex))
  | [] => none
  | t :: L => if a = 2 ∧ isB t qStar = true then some (.ok (1, zeroX) L) else bindR (pt f (.E 1) (t :: L)) fun x L' => some (.ok (a, x) L')
def itemM (f : Nat) : List Tk → Option (RS Itm)
  | [] => none
  | t :: L => if aggT t = 0 then bindR (pt f (.E 1) (t :: L)) fun x L' => tailT 0 x L'
    else needT qOpen (fun L1 => bindR (starT f (aggT t) L1) fun ax L2 => needT qClose (fun L3 => tailT ax.1 ax.2 L3) L2) L
section
variable {α : Type}
def moreM (read : List Tk → Option (RS α)) : Nat → List α → List Tk → Option (RS (List α))
  | 0, _, _ => none
  | _ + 1, _, [] => none
  | f + 1, D, t :: L => if isB t qComma = true then bindR (read L) fun x L1 => moreM read f (D ++ [x]) L1 else some (.ok D (t :: L))
def listM (read : List Tk → Option (RS α)) (f : Nat) (L : List Tk) : Option (RS (List α)) := bindR (read L) fun x L1 => moreM read f [x] L1
end
def placeI (it : List Itm) (s : ByteArray) : Int := idxV (placeOf it s)
def keyM (it : List Itm) : List Tk → Option (RS (Int × Bool)) := nameT fun s => optT qDesc (fun L => some (.ok (placeI it s, true) L)) (placeI it s, false)
def limV (s : ByteArray) : Int := match Lib.atoiAll (bl (plainB s)) with
  | .ok n => n
  | _ => -2
def limM : List Tk → Option (RS Int)
  | [] => none
  | t :: L => if t.2.1 = 2 then some (.ok (limV t.2.2) L) else some (.bad t.1)
def endM (q : Qu) : List Tk → Option (RS Qu)
  | [] => none
  | t :: L => if t.2.1 = 0 then some (.ok q (t :: L)) else some (.bad t.1)
def whereM (f : Nat) (L : List Tk) : Option (RS (List Ex)) := bindR (pt f (.E 1) L) fun x L' => some (.ok [x] L')
def queryM (f : Nat) : List Tk → Option (RS Qu) := needT qSelect fun L1 => bindR (listM (itemM f) f L1) fun it L2 =>
  bindR (optT qWhere (whereM f) [] L2) fun wh L3 => bindR (optT qGroup (needT qBy (listM (pt f (.E 1)) f)) [] L3) fun gr L4 =>
  bindR (optT qOrder (needT qBy (listM (keyM it) f)) [] L4) fun od L5 => bindR (optT qLimit limM (-1) L5) fun lim L6 => endM ⟨it, wh, gr, od, lim⟩ L6
/-! ### there is an answer -/
def Good (P : Int → Prop) : List Tk → Prop
  | [] => False
  | [t] => P t.1 ∧ t.2.1 = 0 ∧ t.2.2 = E0
  | t :: u :: L => P t.1 ∧ Good P (u :: L)
theorem Good.tail {P : Int → Prop} {t : Tk} {L : List Tk} (h : Good P (t :: L)) (ht : t.2.1 ≠ 0 ∨ t.2.2 ≠ E0) : Good P L := by
  cases L with
  | nil => rcases ht with ht | ht
           · exact absurd h.2.1 ht
           · exact absurd h.2.2 ht
  | cons u L => exact h.2
theorem Good.head {P : Int → Prop} {t : Tk} {L : List Tk} (h : Good P (t :: L)) : P t.1 := by
  cases L with
  | nil => exact h.1
  | cons u L => exact h.1
theorem Good.cons {P : Int → Prop} {L : List Tk} (h : Good P L) : ∃ t L', L = t :: L' := by
  cases L with
  | nil => exact h.elim
  | cons t L => exact ⟨t, L, rfl⟩
theorem Fin.good {P : Int → Prop} {T : List Tk} (h : Fin T) (hP : ∀ t ∈ T, P t.1) : Good P T := by
  induction h with
  | one n => exact ⟨hP _ (by simp), rfl, rfl⟩
  | @cons t T _ _ _ ih =>
    have g := ih fun u hu => hP u (by simp [hu])
    obtain ⟨u, L, rfl⟩ := g.cons
    exact ⟨hP _ (by simp), g⟩
theorem isB_sort {t : Tk} {s : ByteArray} (h : isB t s = true) : t.2.1 ≠ 0 := by
  simp only [isB, Bool.and_eq_true, decide_eq_true_eq] at h
  omega
abbrev OkR {α : Type} (P : Int → Prop) (m : Nat) (R : RS α) : Prop := (∀ x L, R = .ok x L → Good P L ∧ L.length ≤ m) ∧ ∀ a, R = .bad a → P a
def Tot {α : Type} (P : Int → Prop) (m : Nat) (g : Nat → Option (RS α)) : Prop := ∃ R, (Ev fun f => g f = some R) ∧ OkR P m R
section
variable {α β : Type} {m n : Nat} {P : Int → Prop}
theorem Tot.pure {g : Nat → Option (RS α)} (x : α) {L : List Tk} (hL : Good P L) (h : L.length ≤ m) (hg : ∀ f, g (f + 1) = some (.ok x L)) : Tot P m g := ⟨_, Ev.all hg, by rintro _ _ h'; cases h'; exact ⟨hL, h⟩, by rintro _ h'; cases h'⟩
theorem Tot.bad {g : Nat → Option (RS α)} (a : Int) (ha : P a) (hg : ∀ f, g (f + 1) = some (.bad a)) : Tot P m g := ⟨.bad a, Ev.all hg, (by rintro _ _ h'; cases h'), by rintro _ h'; cases h'; exact ha⟩
theorem Ev.mono {p q : Nat → Prop} (h : Ev p) (hpq : ∀ f, p f → q f) : Ev q := by
  obtain ⟨n, hn⟩ := h
  exact ⟨n, fun f hf => hpq f (hn f hf)⟩
theorem Tot.bind {g : Nat → Option (RS α)} {k : Nat → α → List Tk → Option (RS β)} (h : Tot P n g) (hk : ∀ x L, Good P L → L.length ≤ n → Tot P m fun f => k f x L) : Tot P m fun f => bindR (g f) (k f) := by
  obtain ⟨R, hR, ho⟩ := h
  cases R with
  | bad a => exact ⟨.bad a, hR.mono fun f h => by simp only [h, bindR], (by rintro _ _ h'; cases h'), by rintro _ h'; cases h'; exact ho.2 a rfl⟩
  | ok x L =>
    obtain ⟨h1, h2⟩ := ho.1 x L rfl
    obtain ⟨R2, hR2, ho2⟩ := hk x L h1 h2
    exact ⟨R2, (hR.and hR2).mono fun f ⟨a, b⟩ => by simp only [a, bindR]; exact b, ho2⟩
theorem Tot.need {s : ByteArray} {k : Nat → List Tk → Option (RS α)} {L : List Tk} (hL : Good P L) (hn : L.length ≤ n + 1) (hk : ∀ L, Good P L → L.length ≤ n → Tot P m fun f => k f L) : Tot P m fun f => needT s (k f) L := by
  obtain ⟨t, L, rfl⟩ := hL.cons
  simp only [needT]
  by_cases h : isB t s = true
  · simp only [h, if_true]
    exact hk L (hL.tail (.inl (isB_sort h))) (by simpa using hn)
  · simp only [h, if_false]
    exact .bad _ hL.head fun _ => rfl
theorem Tot.name {k : Nat → ByteArray → List Tk → Option (RS α)} {L : List Tk} (hL : Good P L) (hn : L.length ≤ n + 1) (hk : ∀ s L, Good P L → L.length ≤ n → Tot P m fun f => k f s L) : Tot P m fun f => nameT (k f) L := by
  obtain ⟨t, L, rfl⟩ := hL.cons
  simp only [nameT]
  by_cases h : t.2.1 = 1 ∧ isKeyB t.2.2 = false
  · simp only [h, and_self, if_true]
    exact hk _ L (hL.tail (.inl (by omega))) (by simpa using hn)
  · simp only [h, if_false]
    exact .bad _ hL.head fun _ => rfl
theorem Tot.opt {s : ByteArray} {k : Nat → List Tk → Option (RS α)} {d : α} {L : List Tk} (hL : Good P L) (hn : L.length ≤ n) (hm : n ≤ m) (hk : ∀ L, Good P L → L.length < n → Tot P m fun f => k f L) : Tot P m fun f => optT s (k f) d L := by
  obtain ⟨t, L, rfl⟩ := hL.cons
  simp only [List.length_cons] at hn
  simp only [optT]
  by_cases h : isB t s = true
  · simp only [h, if_true]
    exact hk L (hL.tail (.inl (isB_sort h))) (by omega)
  · simp only [h, if_false]
    exact .pure d hL (by simp only [List.length_cons]; omega) fun _ => rfl
theorem Tot.le {g : Nat → Option (RS α)} (h : Tot P n g) (hm : n ≤ m) : Tot P m g := by
  obtain ⟨R, h1, h2⟩ := h
  exact ⟨R, h1, fun x L e => ⟨(h2.1 x L e).1, Nat.le_trans (h2.1 x L e).2 hm⟩, h2.2⟩
theorem Tot.up {g h : Nat → Option (RS α)} (t : Tot P n h) (e : ∀ f, g (f + 1) = h f) : Tot P n g := by
  obtain ⟨R, h1, h2⟩ := t
  exact ⟨R, h1.step fun f hf => (e f).trans hf, h2⟩
end
theorem powF_tab (t : Tk) : (powF t).1 = 0 ∨ (powF t).1 = 1 ∨ (powF t).1 = 2 ∨ (powF t).1 = 5 ∨ (powF t).1 = 6 ∨ (powF t).1 = 7 := by
  unfold powF
  repeat' split
  all_goals simp
theorem pow_sort {t : Tk} (h : (powF t).1 ≠ 0) : t.2.2 ≠ E0 := by
  intro he
  apply h
  unfold powF
  rw [he]
  split <;> rfl
theorem ptM_eq (f : Nat) (t u : Tk) (L : List Tk) (h : isB t qMinus = true) : pt (f + 1) .M (t :: u :: L) = if u.2.1 = 2 then some (.ok (negX u.2.2) L) else bindR (pt f .M (u :: L)) fun k L'' => some (.ok (.mk 8 E0 V0 [k]) L'') := by
  rw [pt, if_pos h]
  rfl
theorem pt_tot {P : Int → Prop} : ∀ (n : Nat) (L : List Tk), Good P L → L.length ≤ n → (∀ lv, Tot P (n - 1) fun f => pt f (.E lv) L) ∧ (Tot P (n - 1) fun f => pt f .M L) ∧ (Tot P (n - 1) fun f => pt f .A L) ∧ ∀ lv x own, Tot P n fun f => pt f (.L lv x own) L := by
  intro n
  induction n with
  | zero =>
    intro L hL hn
    obtain ⟨t, L, rfl⟩ := hL.cons
    simp at hn
  | succ n ih =>
    intro L hL hn
    obtain ⟨t, L, rfl⟩ := hL.cons
    simp only [List.length_cons] at hn
    have hn : L.length ≤ n := by omega
    have tl : (t.2.1 ≠ 0 ∨ t.2.2 ≠ E0) → Good P L := hL.tail
    have hA : Tot P n fun f => pt f .A (t :: L) := by
      by_cases h2 : t.2.1 = 2
      · exact .pure _ (tl (.inl (by omega))) hn fun f => by rw [pt, if_pos h2]
      by_cases h3 : t.2.1 = 3
      · exact .pure _ (tl (.inl (by omega))) hn fun f => by rw [pt, if_neg h2, if_pos h3]
      by_cases hw : isB t qNull = true ∨ isB t qTrue = true ∨ isB t qFalse = true
      · exact .pure _ (tl (.inl (by rcases hw with h | h | h <;> exact isB_sort h))) hn fun f => by rw [pt, if_neg h2, if_neg h3, if_pos hw]
      by_cases hl : isB t qLen = true
      · have g := tl (.inl (isB_sort hl))
        refine Tot.up (h := fun f => needT qOpen (fun L1 => bindR (pt f (.E 1) L1) fun x L2 => needT qClose (fun L3 => some (.ok (.mk 16 E0 V0 [x]) L3)) L2) L) ?_ fun f => by rw [pt, if_neg h2, if_neg h3, if_neg hw, if_pos hl]
        refine Tot.need (n := n - 1) g (by omega) fun L1 g1 l1 => Tot.bind (n := n - 1) (((ih L1 g1 (by omega)).1 1)) fun x L2 g2 l2 => Tot.need (n := n - 1) g2 (by omega) fun L3 g3 l3 => .pure _ g3 (by omega) fun _ => rfl
      by_cases ho : isB t qOpen = true
      · have g := tl (.inl (isB_sort ho))
        refine Tot.up (h := fun f => bindR (pt f (.E 1) L) fun x L1 => needT qClose (fun L2 => some (.ok x L2)) L1) ?_ fun f => by rw [pt, if_neg h2, if_neg h3, if_neg hw, if_neg hl, if_pos ho]
        exact Tot.bind (n := n - 1) ((ih L g hn).1 1) fun x L1 g1 l1 => Tot.need (n := n - 1) g1 (by omega) fun L2 g2 l2 => .pure _ g2 (by omega) fun _ => rfl
      · refine Tot.up (h := fun f => nameT (fun s L1 => some (.ok (colX s) L1)) (t :: L)) ?_ fun f => by rw [pt, if_neg h2, if_neg h3, if_neg hw, if_neg hl, if_neg ho]
        exact Tot.name (n := n) hL (by simp only [List.length_cons]; omega) fun s L1 g1 l1 => .pure _ g1 l1 fun _ => rfl
    have hM : Tot P n fun f => pt f .M (t :: L) := by
      by_cases hm : isB t qMinus = true
      · have g := tl (.inl (isB_sort hm))
        obtain ⟨u, L, rfl⟩ := g.cons
        simp only [List.length_cons] at hn
        by_cases hu : u.2.1 = 2
        · exact .pure (negX u.2.2) (g.tail (.inl (by omega))) (by omega) fun f => (ptM_eq f t u L hm).trans (if_pos hu)
        · refine Tot.up (h := fun f => bindR (pt f .M (u :: L)) fun k L'' => some (.ok (.mk 8 E0 V0 [k]) L'')) ?_ fun f => (ptM_eq f t u L hm).trans (if_neg hu)
          exact Tot.bind (n := n - 1) ((ih (u :: L) g (by simpa using hn)).2.1) fun x L1 g1 l1 => .pure _ g1 (by omega) fun _ => rfl
      · exact Tot.up hA fun f => by rw [pt, if_neg hm]
    have hLL : ∀ lv x own, Tot P (n + 1) fun f => pt f (.L lv x own) (t :: L) := by
      intro lv x own
      by_cases hi : isB t qIs = true
      · by_cases h4 : 4 < lv ∨ own < 5
        · exact .pure x hL (by simp only [List.length_cons]; omega) fun f => by rw [pt, if_pos hi, if_pos h4]
        · refine Tot.up (h := fun f => needT qNull (fun L' => pt f (.L lv (.mk 15 E0 V0 [x]) 4) L') L) ?_ fun f => by rw [pt, if_pos hi, if_neg h4]
          exact Tot.need (n := n - 1) (tl (.inl (isB_sort hi))) (by omega) fun L1 g1 l1 => ((ih L1 g1 (by omega)).2.2.2 _ _ _).le (by omega)
      · by_cases hc : (powF t).1 < lv ∨ (powF t).1 = 0 ∨ own < (powF t).1 ∨ ((powF t).1 = 5 ∧ own = 5)
        · exact .pure x hL (by simp only [List.length_cons]; omega) fun f => by rw [pt, if_neg hi, if_pos hc]
        · refine Tot.up (h := fun f => bindR (pt f (.E ((powF t).1 + 1)) L) fun y L' => pt f (.L lv (.mk (powF t).2 E0 V0 [x, y]) (powF t).1) L') ?_ fun f => by rw [pt, if_neg hi, if_neg hc]
          exact Tot.bind (n := n - 1) ((ih L (tl (.inr (pow_sort (by omega)))) hn).1 _) fun y L1 g1 l1 => ((ih L1 g1 (by omega)).2.2.2 _ _ _).le (by omega)
    refine ⟨fun lv => ?_, hM, hA, hLL⟩
    by_cases hc : lv ≤ 3 ∧ isB t qNot = true
    · refine Tot.up (h := fun f => bindR (pt f (.E 3) L) fun k L' => pt f (.L lv (.mk 14 E0 V0 [k]) 3) L') ?_ fun f => by rw [pt, if_pos hc]
      exact Tot.bind (n := n - 1) ((ih L (tl (.inl (isB_sort hc.2))) hn).1 3) fun y L1 g1 l1 => ((ih L1 g1 (by omega)).2.2.2 _ _ _).le (by omega)
    · refine Tot.up (h := fun f => bindR (pt f .M (t :: L)) fun x L' => pt f (.L lv x 9) L') ?_ fun f => by rw [pt, if_neg hc]
      exact Tot.bind (n := n) hM fun y L1 g1 l1 => ((ih L1 g1 (by omega)).2.2.2 _ _ _).le (by omega)
theorem ptE_tot {P : Int → Prop} {L : List Tk} {m : Nat} (lv : Int) (hL : Good P L) (h : L.length ≤ m + 1) : Tot P m fun f => pt f (.E lv) L := ((pt_tot (m + 1) L hL h).1 lv).le (by omega)
theorem tail_tot {P : Int → Prop} {L : List Tk} {m : Nat} (a : Int) (x : Ex) (hL : Good P L) (h : L.length ≤ m + 1) : Tot P m fun f => tailT a x L := by
  unfold tailT
  exact Tot.need (n := m) hL h fun L1 g1 l1 => Tot.name (n := m) g1 (by omega) fun s L2 g2 l2 => .pure _ g2 l2 fun _ => rfl
theorem item_tot {P : Int → Prop} {L : List Tk} {m : Nat} (hL : Good P L) (h : L.length ≤ m + 1) : Tot P m fun f => itemM f L := by
  obtain ⟨t, L, rfl⟩ := hL.cons
  simp only [itemM]
  by_cases ha : aggT t = 0
  · simp only [ha, if_true]
    exact Tot.bind (n := m) (ptE_tot 1 hL h) fun x L1 g1 l1 => tail_tot 0 x g1 (by omega)
  · simp only [ha, if_false]
    simp only [List.length_cons] at h
    refine Tot.need (n := m) (hL.tail (.inl fun e => ha (by rw [aggT, if_neg (by omega)]))) (by omega) fun L1 g1 l1 => Tot.bind (n := m) ?_ fun ax L2 g2 l2 => Tot.need (n := m) g2 (by omega) fun L3 g3 l3 => tail_tot _ _ g3 (by omega)
    obtain ⟨u, L1, rfl⟩ := g1.cons
    simp only [starT]
    simp only [List.length_cons] at l1
    by_cases hs : aggT t = 2 ∧ isB u qStar = true
    · simp only [hs, and_self, if_true]
      exact .pure _ (g1.tail (.inl (isB_sort hs.2))) (by omega) fun _ => rfl
    · simp only [hs, if_false]
      exact Tot.bind (n := m) (ptE_tot 1 g1 (by simp only [List.length_cons]; omega)) fun x L2 g2 l2 => .pure _ g2 l2 fun _ => rfl
section
variable {α : Type} {P : Int → Prop} {read : Nat → List Tk → Option (RS α)}
theorem more_tot (hr : ∀ m L, Good P L → L.length ≤ m + 1 → Tot P m fun f => read f L) : ∀ (n : Nat) (L : List Tk), Good P L → L.length ≤ n → ∀ D, ∃ R n0, (∀ f m, n0 ≤ f → n0 ≤ m → moreM (read f) m D L = some R) ∧ OkR P n R := by
  intro n
  induction n with
  | zero =>
    intro L hL hn D
    obtain ⟨t, L, rfl⟩ := hL.cons
    simp at hn
  | succ n ih =>
    intro L hL hn D
    obtain ⟨t, L, rfl⟩ := hL.cons
    simp only [List.length_cons] at hn
    by_cases h : isB t qComma = true
    · obtain ⟨R, ⟨n0, h0⟩, ho⟩ := hr (n - 1) L (hL.tail (.inl (isB_sort h))) (by omega)
      cases R with
      | bad a =>
        refine ⟨.bad a, n0 + 1, fun f m hf hm => ?_, (by rintro _ _ h'; cases h'), by rintro _ h'; cases h'; exact ho.2 a rfl⟩
        obtain ⟨g, rfl⟩ : ∃ g, m = g + 1 := ⟨m - 1, by omega⟩
        simp only [moreM, h, if_true, h0 f (by omega), bindR]
      | ok x L1 =>
        obtain ⟨g1, l1⟩ := ho.1 x L1 rfl
        obtain ⟨R2, n1, h1, ho2⟩ := ih L1 g1 (by omega) (D ++ [x])
        refine ⟨R2, max n0 n1 + 1, fun f m hf hm => ?_, fun x L e => ⟨(ho2.1 x L e).1, by have := (ho2.1 x L e).2; omega⟩, ho2.2⟩
        obtain ⟨g, rfl⟩ : ∃ g, m = g + 1 := ⟨m - 1, by omega⟩
        simp only [moreM, h, if_true, h0 f (by omega), bindR]
        exact h1 f g (by omega) (by omega)
    · refine ⟨.ok D (t :: L), 1, fun f m hf hm => ?_, by rintro _ _ h'; cases h'; exact ⟨hL, by simp only [List.length_cons]; omega⟩, by rintro _ h'; cases h'⟩
      obtain ⟨g, rfl⟩ : ∃ g, m = g + 1 := ⟨m - 1, by omega⟩
      simp only [moreM, h, if_false]
      rfl
theorem list_tot (hr : ∀ m L, Good P L → L.length ≤ m + 1 → Tot P m fun f => read f L) {m : Nat} {L : List Tk} (hL : Good P L) (h : L.length ≤ m + 1) : Tot P m fun f => listM (read f) f L :=
  Tot.bind (hr m L hL h) fun x L1 g1 l1 => by
    obtain ⟨R, n0, h0, ho⟩ := more_tot hr m L1 g1 l1 [x]
    exact ⟨R, ⟨n0, fun f hf => h0 f f hf hf⟩, ho⟩
end
theorem query_tot {P : Int → Prop} {T : List Tk} (hT : Good P T) : ∃ R, (Ev fun f => queryM f T = some R) ∧ ∀ a, R = .bad a → P a := by
  obtain ⟨m, hm⟩ : ∃ m, T.length = m := ⟨_, rfl⟩
  have hx : ∀ m L, Good P L → L.length ≤ m + 1 → Tot P m fun f => pt f (.E 1) L := fun m L g l => ptE_tot 1 g l
  have key : Tot P m fun f => queryM f T := by
    refine Tot.need (n := m) hT (by omega) fun L1 g1 l1 => Tot.bind (n := m) (list_tot (fun m L g l => item_tot g l) g1 (by omega)) fun it L2 g2 l2 => ?_
    refine Tot.bind (n := m) (Tot.opt (n := m) g2 (by omega) (by omega) fun L g l => Tot.bind (n := m) (hx m L g (by omega)) fun x L' g' l' => .pure _ g' l' fun _ => rfl) fun wh L3 g3 l3 => ?_
    refine Tot.bind (n := m) (Tot.opt (n := m) g3 (by omega) (by omega) fun L g l => Tot.need (n := m) g (by omega) fun L' g' l' => list_tot hx g' (by omega)) fun gr L4 g4 l4 => ?_
    refine Tot.bind (n := m) (Tot.opt (n := m) g4 (by omega) (by omega) fun L g l => Tot.need (n := m) g (by omega) fun L' g' l' => list_tot (fun m L g l => Tot.name (n := m) g l fun s L' g' l' => Tot.opt (n := m) g' l' (by omega) fun L'' g'' l'' => .pure _ g'' (by omega) fun _ => rfl) g' (by omega)) fun od L5 g5 l5 => ?_
    refine Tot.bind (n := m) (Tot.opt (n := m) g5 (by omega) (by omega) fun L g l => ?_) fun lim L6 g6 l6 => ?_
    · obtain ⟨t, L, rfl⟩ := g.cons
      simp only [limM]
      by_cases h2 : t.2.1 = 2
      · simp only [h2, if_true]
        exact .pure _ (g.tail (.inl (by omega))) (by simp only [List.length_cons] at l; omega) fun _ => rfl
      · simp only [h2, if_false]
        exact .bad _ g.head fun _ => rfl
    · obtain ⟨t, L, rfl⟩ := g6.cons
      simp only [endM]
      by_cases h2 : t.2.1 = 0
      · simp only [h2, if_true]
        exact .pure _ g6 l6 fun _ => rfl
      · simp only [h2, if_false]
        exact .bad _ g6.head fun _ => rfl
  obtain ⟨R, h, _, h2⟩ := key
  exact ⟨R, h, h2⟩
def SufR {α : Type} (n : Nat) (L : List Tk) (R : RS α) : Prop := ∀ x L', R = .ok x L' → ∃ p, L = p ++ L' ∧ n ≤ p.length
section
variable {α β : Type} {n m : Nat} {L : List Tk} {t : Tk}
theorem SufR.bad (a : Int) : SufR n L (.bad a : RS α) := by intro x L' h; cases h
theorem SufR.ok {x : α} {L L' : List Tk} (p : List Tk) (h : L = p ++ L') (hn : n ≤ p.length) : SufR n L (.ok x L') := by intro y M e; cases e; exact ⟨p, h, hn⟩
theorem SufR.le {R : RS α} (h : SufR n L R) (hm : m ≤ n) : SufR m L R := fun x L' e => by
  obtain ⟨p, h1, h2⟩ := h x L' e
  exact ⟨p, h1, by omega⟩
theorem SufR.cons {R : RS α} (h : SufR n L R) : SufR (n + 1) (t :: L) R := fun x L' e => by
  obtain ⟨p, h1, h2⟩ := h x L' e
  exact ⟨t :: p, by rw [h1]; rfl, by simpa using h2⟩
theorem suf_bind {r : Option (RS α)} {k : α → List Tk → Option (RS β)} {R : RS β} (hr : ∀ R, r = some R → SufR n L R) (hk : ∀ x L' R, k x L' = some R → SufR m L' R) (h : bindR r k = some R) : SufR (n + m) L R := by
  rcases bindR_open h with ⟨a, _, rfl⟩ | ⟨x, L', h1, h2⟩
  · exact .bad a
  · obtain ⟨p, e, hp⟩ := hr _ h1 x L' rfl
    intro y M hy
    obtain ⟨q, e2, hq⟩ := hk x L' R h2 y M hy
    exact ⟨p ++ q, by rw [e, e2, List.append_assoc], by rw [List.length_append]; omega⟩
theorem suf_need {s : ByteArray} {k : List Tk → Option (RS α)} {R : RS α} (hk : ∀ L' R, k L' = some R → SufR n L' R) (h : needT s k L = some R) : SufR (n + 1) L R := by
  cases L with
  | nil => cases h
  | cons t L =>
    rw [needT] at h
    split at h
    · exact (hk _ _ h).cons
    · cases h; exact .bad _
theorem suf_name {k : ByteArray → List Tk → Option (RS α)} {R : RS α} (hk : ∀ s L' R, k s L' = some R → SufR n L' R) (h : nameT k L = some R) : SufR (n + 1) L R := by
  cases L with
  | nil => cases h
  | cons t L =>
    rw [nameT] at h
    split at h
    · exact (hk _ _ _ h).cons
    · cases h; exact .bad _
theorem suf_opt {s : ByteArray} {k : List Tk → Option (RS α)} {d : α} {R : RS α} (hk : ∀ L' R, k L' = some R → SufR 0 L' R) (h : optT s k d L = some R) : SufR 0 L R := by
  cases L with
  | nil => cases h
  | cons t L =>
    rw [optT] at h
    split at h
    · exact (hk _ _ h).cons.le (by omega)
    · cases h; exact .ok [] rfl (by simp)
theorem suf_ok {x : α} {R : RS α} (h : some (RS.ok x L) = some R) : SufR 0 L R := by cases h; exact .ok [] rfl (by simp)
end
def dropN : Tag → Nat
  | .L _ _ _ => 0
  | _ => 1
theorem pt_suf : ∀ (f : Nat) (g : Tag) (L : List Tk) (R : RS Ex), pt f g L = some R → SufR (dropN g) L R := by
  intro f
  induction f with
  | zero => intro g L R h; cases g <;> simp [pt] at h
  | succ f ih =>
    intro g L R h
    cases L with
    | nil => cases g <;> simp [pt] at h
    | cons t L =>
      cases g with
      | E lv =>
        rw [pt] at h
        split at h
        · exact (suf_bind (n := 1) (m := 0) (ih (.E 3) _) (fun x L' R h => ih (.L lv _ 3) _ _ h) h).cons.le (by show 1 ≤ _; omega)
        · exact suf_bind (n := 1) (m := 0) (ih .M _) (fun x L' R h => ih (.L lv x 9) _ _ h) h
      | L lv x own =>
        rw [pt] at h
        split at h
        · split at h
          · exact suf_ok h
          · exact (suf_need (n := 0) (fun L' R h => ih (.L lv _ 4) _ _ h) h).cons.le (by show 0 ≤ _; omega)
        · split at h
          · exact suf_ok h
          · exact (suf_bind (n := 1) (m := 0) (ih (.E _) _) (fun x L' R h => ih (.L lv _ _) _ _ h) h).cons.le (by show 0 ≤ _; omega)
      | M =>
        rw [pt] at h
        split at h
        · cases L with
          | nil => cases h
          | cons u L =>
            rw [negM] at h
            split at h
            · cases h; exact .ok [t, u] rfl (by simp [dropN])
            · exact (suf_bind (ih _ _) (fun k L' R h => suf_ok h) h).cons.le (by show 1 ≤ _; omega)
        · exact ih .A _ _ h
      | A =>
        rw [pt] at h
        split at h
        · exact (suf_ok h).cons
        split at h
        · exact (suf_ok h).cons
        split at h
        · exact (suf_ok h).cons
        split at h
        · exact (suf_need (fun L' R h => suf_bind (ih _ _) (fun x L'' R h => suf_need (fun L3 R h => suf_ok h) h) h) h).cons.le (by show 1 ≤ _; omega)
        split at h
        · exact (suf_bind (ih _ _) (fun x L'' R h => suf_need (fun L3 R h => suf_ok h) h) h).cons.le (by show 1 ≤ _; omega)
        · exact suf_name (n := 0) (fun s L' R h => suf_ok h) h
theorem tail_suf {a : Int} {x : Ex} {L : List Tk} {R : RS Itm} (h : tailT a x L = some R) : SufR 0 L R := (suf_need (fun L' R h => suf_name (fun s L'' R h => suf_ok h) h) h).le (by omega)
theorem item_suf {f : Nat} {L : List Tk} {R : RS Itm} (h : itemM f L = some R) : SufR 1 L R := by
  cases L with
  | nil => cases h
  | cons t L =>
    rw [itemM] at h
    split at h
    · exact suf_bind (n := 1) (m := 0) (pt_suf _ (.E 1) _) (fun x L' R h => tail_suf h) h
    · refine (suf_need (n := 0) (fun L1 R h => (suf_bind (n := 0) (m := 1) (fun R h => ?_) (fun x L2 R h => suf_need (fun L3 R h => tail_suf h) h) h).le (by omega)) h).cons.le (by omega)
      cases L1 with
      | nil => cases h
      | cons u L1 =>
        rw [starT] at h
        split at h
        · exact (suf_ok h).cons.le (by omega)
        · exact (suf_bind (pt_suf _ (.E 1) _) (fun x L' R h => suf_ok h) h).le (by omega)
theorem more_suf {α : Type} {read : List Tk → Option (RS α)} (hr : ∀ L R, read L = some R → SufR 1 L R) : ∀ (f : Nat) (D : List α) (L : List Tk) (R : RS (List α)), moreM read f D L = some R → SufR 0 L R := by
  intro f
  induction f with
  | zero => intro D L R h; cases h
  | succ f ih =>
    intro D L R h
    cases L with
    | nil => cases h
    | cons t L =>
      rw [moreM] at h
      split at h
      · exact (suf_bind (hr _) (fun x L' R h => ih _ _ _ h) h).cons.le (by omega)
      · exact suf_ok h
theorem list_suf {α : Type} {read : List Tk → Option (RS α)} (hr : ∀ L R, read L = some R → SufR 1 L R) {f : Nat} {L : List Tk} {R : RS (List α)} (h : listM read f L = some R) : SufR 1 L R :=
  suf_bind (n := 1) (m := 0) (hr _) (fun x L' R h => more_suf hr _ _ _ _ h) h
theorem key_suf {it : List Itm} {L : List Tk} {R : RS (Int × Bool)} (h : keyM it L = some R) : SufR 1 L R := suf_name (n := 0) (fun s L' R h => suf_opt (fun L'' R h => suf_ok h) h) h
def SmT (L : List Tk) : Prop := ∀ t ∈ L, t.2.2.size ≤ 4096
theorem SmT.suf {α : Type} {n : Nat} {L L' : List Tk} {x : α} (h : SmT L) (hs : SufR n L (.ok x L')) : SmT L' := by
  obtain ⟨p, e, _⟩ := hs x L' rfl
  intro t ht
  exact h t (by rw [e]; simp [ht])
theorem SmT.tail {t : Tk} {L : List Tk} (h : SmT (t :: L)) : SmT L := fun u hu => h u (by simp [hu])
theorem Lx.small {l : List UInt8} {n : Nat} {T : List Tk} (h : Lx l n T) : ∀ t ∈ T, t.2.2.size ≤ l.length := by
  induction h with
  | fin n => intro t ht; simp at ht; subst ht; exact Nat.zero_le _
  | @blank c r n T hb h ih => intro t ht; have := ih t ht; simp only [List.length_cons]; omega
  | @tok c r n T hb hz h ih =>
    intro t ht
    rcases List.mem_cons.1 ht with rfl | ht
    · simp only
      rw [← bl_length, bl_sof, List.length_take]
      omega
    · have := ih t ht
      rw [List.length_drop] at this
      omega
  | @bad c r n hb hz => intro t ht; simp at ht; subst ht; exact Nat.zero_le _
end Go.Proofs.YtbpdfpfgijhokaaGreatDoor
namespace Go.Dn
set_option linter.unusedVariables false
set_option maxRecDepth 100000
open Go.RowKit (Below)
theorem SH.res3 {F : Nat → Prop} {w0 w : World} {H : List Ent} (S : SH F w0 w H) (n : Nat) {b : Nat} {x0 x1 x2 : Value} {t : TypeId} (hn : H[n]? = some (b, #[x0, x1, x2], t)) {v0 v1 : Int} {v2 : ByteArray} {Q : Int → Int → ByteArray → World → Prop}
    (hk : ∀ w', SH F w0 w' (H.set n (b, #[.int .i64 v0, .int .i64 v1, .string v2], t)) → Q v0 v1 v2 w') :
    STO ⟨b, 0, none⟩ (.int .i64 v0) (fun w => STO ⟨b, 1, none⟩ (.int .i64 v1) (fun w => STO ⟨b, 2, none⟩ (.string v2) (fun w => ∃ r0 : Int, w.cell? ⟨b, 0, none⟩ = some (.int .i64 r0) ∧ ∃ r1 : Int, w.cell? ⟨b, 1, none⟩ = some (.int .i64 r1) ∧ ∃ r2 : ByteArray, w.cell? ⟨b, 2, none⟩ = some (.string r2) ∧ Q r0 r1 r2 w) w) w) w := by
  have hlt := (List.getElem?_eq_some_iff.1 hn).1
  exact S.sto3K n hn fun w' _ S' => S'.v3 n (List.getElem?_set_self hlt) (hk w' S')
end Go.Dn
namespace Go.Proofs.YtbpdfpfgijhokaaGreatDoor
set_option maxRecDepth 100000
open Go.Dn Go.Proofs
open Go.RowKit (Below)
set_option linter.unusedVariables false
theorem iface_some {k : Bool → Prop} {t : TypeId} {p : Value} (h : k false) : IFACEV (.iface t p) k := h
theorem no_val {s : ByteArray} (h0 : bl s ≠ vNull) (h1 : bl s ≠ vFalse) (h2 : bl s ≠ vTrue) (h3 : ∀ m : Int, -9223372036854775808 ≤ m → m ≤ 9223372036854775807 → bl s ≠ Lib.itoa m) (h4 : ∀ t : ByteArray, t.size ≤ 1024 → bl s ≠ (39 :: quoteL (bl t)) ++ [39]) :
    ∀ v : Val, rightB v = true → ValOk v → showL v ≠ bl s := by
  intro v hr hv he
  rcases show_cases hr _ he with ⟨_, h⟩ | ⟨_, h⟩ | ⟨_, h⟩ | ⟨_, h⟩ | ⟨_, hz, h⟩
  · exact h0 h
  · exact h3 _ hv.lo hv.hi h
  · exact h1 h
  · exact h2 h
  · exact h4 _ hz h
theorem head_ne {s : ByteArray} (h : (bl s).headD 0 = 39) : bl s ≠ vNull ∧ bl s ≠ vFalse ∧ bl s ≠ vTrue ∧ ∀ m : Int, bl s ≠ Lib.itoa m := by
  refine ⟨fun e => ?_, fun e => ?_, fun e => ?_, fun m e => ?_⟩
  · rw [e] at h; revert h; decide
  · rw [e] at h; revert h; decide
  · rw [e] at h; revert h; decide
  · obtain ⟨c, r, hc, hd⟩ := vitoa_head m
    rw [e, hc] at h
    simp only [List.headD_cons] at h
    subst h
    revert hd
    decide
theorem parsed_err {s : ByteArray} (h : ∀ v : Val, rightB v = true → ValOk v → showL v ≠ bl s) : ParseV s (.tuple #[.agg #[.int .i64 0, .int .i64 0, .string E0], .int .i64 40]) := .inr ⟨h, rfl⟩
theorem parsed_ok {s : ByteArray} (v : Val) (hr : rightB v = true) (hv : ValOk v) (h : showL v = bl s) : ParseV s (.tuple #[.agg #[.int .i64 v.1, .int .i64 v.2.1, .string v.2.2], .int .i64 0]) := .inl ⟨v, hr, hv, h, rfl⟩
theorem eq_bytes {s : ByteArray} {l : List UInt8} (h : s ≠ sof l) : bl s ≠ l := fun e => h (by rw [← e, sof_bl])
theorem mid_split {l : List UInt8} (h1 : 1 < l.length) (h0 : l[0]? = some 39) (h2 : l[l.length - 1]? = some 39) : l = (39 :: (l.drop 1).take (l.length - 1 - 1)) ++ [39] := by
  apply List.ext_getElem?
  intro i
  have hlen : ((l.drop 1).take (l.length - 1 - 1)).length = l.length - 2 := by rw [List.length_take, List.length_drop]; omega
  by_cases hi : i = 0
  · subst hi; rw [h0]; rfl
  · by_cases hl : i < l.length - 1
    · rw [List.getElem?_append_left (by simp only [List.length_cons, hlen]; omega)]
      obtain ⟨j, rfl⟩ : ∃ j, i = j + 1 := ⟨i - 1, by omega⟩
      rw [List.getElem?_cons_succ, List.getElem?_take_of_lt (by omega), List.getElem?_drop, Nat.add_comm]
    · rw [List.getElem?_append_right (by simp only [List.length_cons, hlen]; omega)]
      simp only [List.length_cons, hlen]
      by_cases he : i = l.length - 1
      · subst he
        rw [h2, show l.length - 1 - (l.length - 2 + 1) = 0 by omega]
        rfl
      · rw [List.getElem?_eq_none (by omega), List.getElem?_eq_none (by simp; omega)]
theorem value_Parse_ok {w : World} (he : Env2 w) (s : ByteArray) (hs : s.size ≤ 140737488351232) : Calls Tryz.prog f.value_Parse #[.string s] w (Ret fun r w' => ParseV s r ∧ Below w.heap.size w w') := by
  apply R.value_Parse_calls
  unfold R.value_Parse
  have hbl := bl_length s
  refine (SH.start (fun _ => False) w).newB fun b2 w1 hb2 B1 S1 => ?_
  simp only [bytesEq_iff]
  refine IFB_dec (fun h => S1.res3 0 rfl fun w4 S4 => ⟨parsed_ok (0, 0, E0) (by decide) ⟨by decide, by decide⟩ (by rw [h]; rfl), S4.below⟩) (fun n0 => IFB_dec (fun h => S1.res3 0 rfl fun w4 S4 => ⟨parsed_ok (2, 0, E0) (by decide) ⟨by decide, by decide⟩ (by rw [h]; exact fmt_false), S4.below⟩) (fun n1 =>
    IFB_dec (fun h => S1.res3 0 rfl fun w4 S4 => ⟨parsed_ok (2, 1, E0) (by decide) ⟨by decide, by decide⟩ (by rw [h]; exact fmt_true), S4.below⟩) (fun n2 => ?_)))
  have m0 : bl s ≠ vNull := eq_bytes n0
  have m1 : bl s ≠ vFalse := eq_bytes n1
  have m2 : bl s ≠ vTrue := eq_bytes n2
  have eW : IntKind.i64.wrap ((s.size : Int) - 1) = ((bl s).length : Int) - 1 := by rw [← hbl, wrap_i64 (by omega) (by omega)]
  rw [eW]
  refine S1.lit3 fun b12 w14 hb12 B14 S14 => ⟨fun st w15 => ∃ t : Bool, st = [.bool t] ∧ w15 = w14 ∧ (t = true ↔ (1 < (bl s).length ∧ (bl s)[0]? = some 39 ∧ (bl s)[(bl s).length - 1]? = some 39)), ?_, ?_⟩
  · rw [← hbl]
    refine IFB_dec (fun h => ⟨⟨by omega, by omega⟩, ?_⟩) (fun h => ⟨false, rfl, rfl, by simp; omega⟩)
    have h0 : 0 < (bl s).length := by omega
    rw [sget_nat h0]
    refine IFB_eq (fun h3 => ⟨⟨by omega, by omega⟩, _, rfl, rfl, ?_⟩) (fun h3 => ⟨false, rfl, rfl, ?_⟩)
    · have e : (((bl s).length : Int) - 1).toNat = (bl s).length - 1 := by omega
      have hl : (bl s).length - 1 < (bl s).length := by omega
      rw [e, sget_nat hl, List.getElem?_eq_getElem h0, List.getElem?_eq_getElem hl]
      simp only [beq_iff_eq, u8_39, u8_39.1 h3, Option.some.injEq, true_and]
      constructor
      · intro h; exact ⟨by omega, h⟩
      · intro h; exact h.2
    · rw [List.getElem?_eq_getElem h0]
      simp only [Option.some.injEq]
      constructor
      · intro h; cases h
      · rintro ⟨_, h, _⟩; exact absurd (u8_39.2 h) h3
  rintro _ w15 ⟨t, hst, rfl, ht⟩
  cases hst
  have B14' := S14.below
  refine IFB_of (fun htt => ?_) (fun htf => ?_)
  · obtain ⟨q1, q2, q3⟩ := ht.1 htt
    have hsp := mid_split q1 q2 q3
    have hhead : (bl s).headD 0 = 39 := by rw [hsp]; rfl
    obtain ⟨g0, g1, g2, g3⟩ := head_ne hhead
    have e : (((bl s).length : Int) - 1).toNat = (bl s).length - 1 := by omega
    refine ⟨⟨by omega, by omega, by rw [← hbl]; omega⟩, ?_⟩
    rw [e]
    have hmid : bl (s.extract 1 ((bl s).length - 1)) = ((bl s).drop 1).take ((bl s).length - 1 - 1) := bl_extract _ _ _
    have hmsz : (s.extract 1 ((bl s).length - 1)).size ≤ 140737488351232 := by rw [← bl_length, hmid, List.length_take]; omega
    refine (value_quoted_ok w15 (s.extract 1 ((bl s).length - 1)) hmsz).mono ?_
    rintro _ w16 ⟨_, rfl, rfl, B16⟩
    rw [hmid]
    have S16 := S14.grown B16
    generalize ((bl s).drop 1).take ((bl s).length - 1 - 1) = md at hsp
    have key : ∀ t' : ByteArray, t'.size ≤ 1024 → bl s = (39 :: quoteL (bl t')) ++ [39] → vunq md = some (bl t') := by
      intro t' _ ht'
      rw [hsp] at ht'
      have h1 : md ++ [39] = quoteL (bl t') ++ [39] := by simpa using ht'
      rw [List.append_cancel_right h1]
      exact unq_quote _
    cases hu : vunq md with
    | none =>
      refine ⟨_, _, rfl, S16.sto3 0 rfl fun w19 S19 => IFB_true (S19.res3 1 rfl fun w4 S4 => ⟨parsed_err (no_val g0 g1 g2 (fun m _ _ => g3 m) fun t' hz ht' => ?_), S4.below⟩)⟩
      have := key t' hz ht'
      rw [hu] at this
      cases this
    | some u =>
      refine ⟨_, _, rfl, S16.sto3 0 rfl fun w19 S19 => IFB_false (S19.v3 0 rfl ((value_Right_ok w19 (3, 0, sof u)).mono ?_))⟩
      rintro _ w23 ⟨_, rfl, rfl, B23⟩
      have S23 := S19.grown B23
      refine ⟨_, rfl, IFB_not (IFB_of (fun hr => S23.v3 0 rfl (S23.res3 1 rfl fun w4 S4 => ⟨parsed_ok (3, 0, sof u) hr ⟨(show -9223372036854775808 ≤ (0 : Int) by decide), (show (0 : Int) ≤ 9223372036854775807 by decide)⟩ ?_, S4.below⟩)) (fun hr => S23.res3 1 rfl fun w4 S4 => ⟨parsed_err (no_val g0 g1 g2 (fun m _ _ => g3 m) fun t' hz ht' => ?_), S4.below⟩))⟩
      · show (39 :: quoteL (bl (sof u))) ++ [39] = bl s
        rw [bl_sof, quote_unq md u hu, ← hsp]
      · have := key t' hz ht'
        rw [hu] at this
        simp only [Option.some.injEq] at this
        have hx : rightB (3, 0, sof u) = true := by
          have : (sof u).size ≤ 1024 := by rw [size_sof, this, bl_length]; exact hz
          simp [rightB, this]
        rw [hx] at hr
        cases hr
  · have hq : ∀ t' : ByteArray, t'.size ≤ 1024 → bl s ≠ (39 :: quoteL (bl t')) ++ [39] := by
      intro t' _ ht'
      rw [htf] at ht
      have : ¬ (1 < (bl s).length ∧ (bl s)[0]? = some 39 ∧ (bl s)[(bl s).length - 1]? = some 39) := fun h => by have := ht.2 h; cases this
      apply this
      rw [ht']
      refine ⟨by simp, rfl, ?_⟩
      simp
    refine (parseInt_ok (he.grown B14') s hs).mono ?_
    rintro e w30 ⟨B30, h⟩
    have S30 := S14.grown B30
    rcases h with ⟨n, hn, rfl⟩ | ⟨hn, n, t, p, rfl⟩
    · have hnr := parseInt_range hn
      refine ⟨_, _, rfl, iface_nil (IFB_false ((Tryz.strconv_FormatInt_10 n hnr.1 hnr.2 w30 ((he.grown B14').grown B30).env.pow).mono ?_))⟩
      rintro _ w34 ⟨rfl, k, os, rfl⟩
      have S34 := S30.grown (below_grow w30 k os)
      refine ⟨_, rfl, IFB_not (IFB_dec (fun heq => ?_) (fun hne => S34.res3 1 rfl fun w4 S4 => ⟨parsed_err (no_val m0 m1 m2 (fun m l1 l2 hm => ?_) hq), S4.below⟩))⟩
      · refine S34.sto 0 rfl (show 1 < 3 by decide) fun w38 S38 => S38.v3 0 rfl (S38.res3 1 rfl fun w4 S4 => ⟨parsed_ok (1, n, E0) (by simp [rightB]) ⟨hnr.1, hnr.2⟩ ?_, S4.below⟩)
        show Lib.itoa n = bl s
        rw [← heq]
        exact (bl_sof _).symm
      · have := vitoa_parse m l1 l2
        rw [← hm, hn] at this
        cases this
        apply hne
        apply bl_inj
        rw [hm]
        exact bl_sof _
    · refine ⟨_, _, rfl, iface_some (IFB_true (S30.res3 1 rfl fun w4 S4 => ⟨parsed_err (no_val m0 m1 m2 (fun m l1 l2 hm => ?_) hq), S4.below⟩))⟩
      have := vitoa_parse m l1 l2
      rw [← hm] at this
      exact hn m this
/-! ### the document's Parse -/
end Go.Proofs.YtbpdfpfgijhokaaGreatDoor
