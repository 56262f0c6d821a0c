/-
  Texts of this claim, laid one behind the other by a program of mine (install.py): P.Pw4, P.Pw5, P.Pw6, P.Pw7, P.Qr, P.Pw8, P.Pw9, P.Qs, P.Pw10, P.Qt, P.Inj4, P.Pm4.
-/
import Derived.Test.YtbpdfpfgijhokaaGreatDoorM7
import Derived.Test.YtbpdfpfgijhokaaGreatDoorM6
import Derived.Tactics
import Derived.Tactics2
import Derived.Defers
import Derived.Recover
import Derived.Laws.Pointers
namespace Go.Proofs.YtbpdfpfgijhokaaGreatDoor
set_option maxRecDepth 100000
open Go.Dn Go.Proofs
open Go.RowKit (Below)
set_option linter.unusedVariables false
section
variable {w : World}
theorem pgath_ok (E : Env w) (s : ByteArray) : Calls Tryz.prog f.query_gathering #[.string s] w (Ret fun r w' => r = .int .i64 (gatB s) ∧ w' = w) := by
  apply R.query_gathering_calls
  unfold R.query_gathering
  have n2 : (⟨#[99, 111, 117, 110, 116]⟩ : ByteArray) ≠ ⟨#[115, 117, 109]⟩ := by decide
  refine ⟨_, gat_at E (j := 0) rfl, _, gat_at E (j := 1) rfl, _, gat_at E (j := 2) rfl, _, gat_at E (j := 3) rfl, _, gat_at E (j := 4) rfl, _, gat_at E (j := 5) rfl, forUp 6 (fun j w' => ((2 < j → s ≠ ⟨#[99, 111, 117, 110, 116]⟩) ∧ (3 < j → s ≠ ⟨#[115, 117, 109]⟩) ∧ (4 < j → s ≠ ⟨#[109, 105, 110]⟩) ∧ (5 < j → s ≠ ⟨#[109, 97, 120]⟩)) ∧ w' = w) (by omega) ⟨⟨by omega, by omega, by omega, by omega⟩, rfl⟩ fun I M j w1 hj h next => ?_⟩
  obtain ⟨⟨h2, h3, h4, h5⟩, rfl⟩ := h
  refine IFB_dec (fun hlt => ⟨⟨by omega, hlt⟩, ?_⟩) (fun hge => ⟨?_, rfl⟩)
  · have hj6 : j < 6 := by omega
    rcases (show j = 0 ∨ j = 1 ∨ j = 2 ∨ j = 3 ∨ j = 4 ∨ j = 5 by omega) with rfl | rfl | rfl | rfl | rfl | rfl
    · exact ⟨_, rfl, IFB_dec (fun h => absurd h (by decide)) (fun _ => next _ (by omega) ⟨⟨by omega, by omega, by omega, by omega⟩, rfl⟩)⟩
    · exact ⟨_, rfl, IFB_dec (fun h => absurd h (by decide)) (fun _ => next _ (by omega) ⟨⟨by omega, by omega, by omega, by omega⟩, rfl⟩)⟩
    · refine ⟨_, rfl, IFB_dec (fun _ => ?_) (fun h => absurd (by decide) h)⟩
      rw [bytesEq_iff]
      exact IFB_dec (fun h => ⟨by rw [gatB, if_pos h.symm]; rfl, rfl⟩) (fun h => next _ (by omega) ⟨⟨fun _ e => h e.symm, by omega, by omega, by omega⟩, rfl⟩)
    · have a2 := h2 (by omega)
      refine ⟨_, rfl, IFB_dec (fun _ => ?_) (fun h => absurd (by decide) h)⟩
      rw [bytesEq_iff]
      exact IFB_dec (fun h => ⟨by rw [gatB, if_neg a2, if_pos h.symm]; rfl, rfl⟩) (fun h => next _ (by omega) ⟨⟨fun _ => a2, fun _ e => h e.symm, by omega, by omega⟩, rfl⟩)
    · have a2 := h2 (by omega)
      have a3 := h3 (by omega)
      refine ⟨_, rfl, IFB_dec (fun _ => ?_) (fun h => absurd (by decide) h)⟩
      rw [bytesEq_iff]
      exact IFB_dec (fun h => ⟨by rw [gatB, if_neg a2, if_neg a3, if_pos h.symm]; rfl, rfl⟩) (fun h => next _ (by omega) ⟨⟨fun _ => a2, fun _ => a3, fun _ e => h e.symm, by omega⟩, rfl⟩)
    · have a2 := h2 (by omega)
      have a3 := h3 (by omega)
      have a4 := h4 (by omega)
      refine ⟨_, rfl, IFB_dec (fun _ => ?_) (fun h => absurd (by decide) h)⟩
      rw [bytesEq_iff]
      exact IFB_dec (fun h => ⟨by rw [gatB, if_neg a2, if_neg a3, if_neg a4, if_pos h.symm]; rfl, rfl⟩) (fun h => next _ (by omega) ⟨⟨fun _ => a2, fun _ => a3, fun _ => a4, fun _ e => h e.symm⟩, rfl⟩)
  · have e : j = 6 := by omega
    subst e
    rw [gatB, if_neg (h2 (by omega)), if_neg (h3 (by omega)), if_neg (h4 (by omega)), if_neg (h5 (by omega))]
theorem patoi_ok (E : Env2 w) (s : ByteArray) (hs : s.size ≤ 140737488351232) : Calls Tryz.prog f.strconv_Atoi #[.string s] w (fun e w' => Below w.heap.size w w' ∧
    ((∃ n, Lib.atoiAll (bl s) = .ok n ∧ e = .returned (.tuple #[.int .i64 n, .nilIface])) ∨ ((∀ n, Lib.atoiAll (bl s) ≠ .ok n) ∧ ∃ (n : Int) (t : TypeId) (p : Value), e = .returned (.tuple #[.int .i64 n, .iface t p])))) := by
  obtain ⟨h1, ⟨t, p, h2⟩, ⟨t', p', h3⟩⟩ := E
  have three : (∃ n, Lib.atoiAll s.data.toList = Lib.NumEnd.ok n) ∨ Lib.atoiAll s.data.toList = Lib.NumEnd.syntax ∨ Lib.atoiAll s.data.toList = Lib.NumEnd.range := by
    generalize Lib.atoiAll s.data.toList = q
    cases q
    · exact .inl ⟨_, rfl⟩
    · exact .inr (.inl rfl)
    · exact .inr (.inr rfl)
  rcases three with ⟨n, ho⟩ | ho | ho
  · refine (Tryz.strconv_Atoi_ok s (by omega) n ho w).mono ?_
    rintro e w' ⟨rfl, hw⟩
    refine ⟨?_, .inl ⟨n, ho, rfl⟩⟩
    rcases hw with rfl | ⟨tt, rfl⟩
    · exact .refl _ _
    · exact below_bytesWorld _ _ _
  · have no : ∀ n, Lib.atoiAll (bl s) ≠ .ok n := fun n hn => by have h : Lib.atoiAll (bl s) = _ := ho; rw [h] at hn; cases hn
    refine (Tryz.strconv_Atoi_syntax s (by omega) ho _ w h2 (.inr ⟨t, p, rfl⟩)).mono ?_
    rintro e w' ⟨N, rfl, _, _, hb⟩
    exact ⟨hb, .inr ⟨no, _, _, _, rfl⟩⟩
  · have no : ∀ n, Lib.atoiAll (bl s) ≠ .ok n := fun n hn => by have h : Lib.atoiAll (bl s) = _ := ho; rw [h] at hn; cases hn
    refine (Tryz.strconv_Atoi_range s (by omega) ho _ w h3 (.inr ⟨t', p', rfl⟩)).mono ?_
    rintro e w' ⟨N, rfl, _, _, hb⟩
    exact ⟨hb, .inr ⟨no, _, _, _, rfl⟩⟩
end
theorem atoi_range {l : List UInt8} {n : Int} (h : Lib.atoiAll l = .ok n) : i64 n := by
  unfold Lib.atoiAll at h
  split at h
  · cases h
  · simp only at h
    split at h
    · cases h
    · cases h
    · rename_i u hu
      split at h
      · cases h
      · split at h
        · cases h
        · have h := Lib.NumEnd.ok.inj h
          subst h
          unfold i64
          split <;> omega
theorem limV_range (s : ByteArray) : i64 (limV s) := by
  rw [limV]
  split
  · rename_i n h
    exact atoi_range h
  · decide
theorem plimit_P {L : List Tk} {R : RS Int} (h : limM L = some R) (hs : SmT L) {w0 w : World} {H : List It} {b : Nat} (E : Env2 w0) (S : PS w0 w b L H) :
    Calls Tryz.prog f.query_parser_limit #[.pointer (some ⟨b, 0, none⟩)] w (RetP (fun r w' => ∃ n L', R = .ok n L' ∧ i64 n ∧ r = .int .i64 n ∧ PS w0 w' b L' H) (BadP w0 H R)) := by
  cases L with
  | nil => cases h
  | cons t L =>
  rw [limM] at h
  have ht := hs t (by simp)
  have hp := plain_size t.2.2
  apply X.query_parser_limit_calls
  unfold X.query_parser_limit
  refine (pnext_ok S).mono ?_
  rintro _ w1 ⟨_, rfl, rfl, S1⟩
  refine .inl ⟨_, _, _, rfl, S1.lit3 fun b6 w5 S5 => ⟨_, S5.cell 0 rfl rfl, IFB_ne (fun h2 => ⟨_, S5.cell 0 rfl rfl, ?_⟩) (fun h2 => (pskip_ok S5).mono ?_)⟩⟩
  · rw [if_neg h2] at h
    exact ⟨_, (Option.some.inj h).symm, rfl, S5.st.drop 1⟩
  rintro _ w6 ⟨_, rfl, rfl, S6⟩
  rw [if_pos h2] at h
  refine .inl ⟨_, _, _, rfl, call0 (pplain_ok _) (.inl ⟨_, rfl, (patoi_ok (E.grown S6.bel) _ (by omega)).mono ?_⟩)⟩
  rintro _ w8 ⟨B8, ⟨n, hn, rfl⟩ | ⟨hno, n, ty, p, rfl⟩⟩
  · have e : limV t.2.2 = n := by rw [limV, hn]
    exact .inl ⟨_, _, rfl, iface_nil (IFB_not (IFB_true ⟨_, _, (Option.some.inj h).symm, limV_range _, by rw [e], (S6.grown B8).drop 1⟩))⟩
  · have e : limV t.2.2 = -2 := by
      rw [limV]
      split
      · rename_i m hm; exact absurd hm (hno m)
      · rfl
    exact .inl ⟨_, _, rfl, iface_some (IFB_not (IFB_false ⟨_, _, (Option.some.inj h).symm, limV_range _, by rw [e], (S6.grown B8).drop 1⟩))⟩
/-! ### an item -/
abbrev zI (b : Nat) : It := It.cells b #[.string E0, .int .i64 0, .int .i64 0, .string E0, .int .i64 0, .int .i64 0, .string E0, .slice none 0 0] ty.api_Item
def IP (L : List Tk) (R : RS Itm) : Prop :=
  ∀ {w0 w : World} {H : List It} {b : Nat}, Env2 w0 → PS w0 w b L H → Calls Tryz.prog f.query_parser_item #[.pointer (some ⟨b, 0, none⟩)] w (RetP (fun r w' => ∃ i L' a cap K, R = .ok i L' ∧ XK i.2.2 a cap K ∧ i.1.size ≤ maxLen ∧ i64 i.2.1 ∧ r = .agg ⟨itHead i a cap⟩ ∧ PS w0 w' b L' (K ++ H)) (BadP w0 H R))
theorem agg_i64 (t : Tk) : i64 (aggT t) := by
  unfold aggT gatB
  repeat' split
  all_goals decide
theorem pitem_P {m : Nat} {L : List Tk} {R : RS Itm} (h : itemM m L = some R) (hs : SmT L) : IP L R := by
  intro w0 w H b E S
  cases L with
  | nil => cases h
  | cons t L =>
  rw [itemM] at h
  apply X.query_parser_item_calls
  unfold X.query_parser_item
  refine S.newB fun b2 w1 S1 => S1.newB fun b3 w2 S2 => S2.sto8 0 rfl fun w10 S10 => ?_
  have S10 : PS w0 w10 b (t :: L) (zI b3 :: zI b2 :: H) := S10
  have hb2 : ∀ {α : Type} {R' : RS α} {ch : List PanicEntry} {w' : World} {A : List It}, BadP w0 (A ++ H) R' ch w' → (∀ a, R' = .bad a → R = .bad a) → BadP w0 H R ch w' := fun hB hR => hB.sub hR
  refine ⟨fun st w => st = [.int .i64 (aggT t)] ∧ PS w0 w b (t :: L) (zI b3 :: zI b2 :: H), (pnext_ok S10).mono ?_, ?_⟩
  · rintro _ w11 ⟨_, rfl, rfl, S11⟩
    refine .inl ⟨_, _, _, rfl, S11.lit3 fun b8 w15 S15 => ⟨_, S15.cell 0 rfl rfl, IFB_eq (fun h1 => ⟨_, S15.cell 0 rfl rfl, call0 (pgath_ok (E.env.grown S15.bel) _) (.inl ⟨_, rfl, by rw [aggT, if_pos h1], S15.drop 1⟩)⟩) (fun h1 => ⟨by rw [aggT, if_neg h1], S15.drop 1⟩)⟩⟩
  rintro agg w17 ⟨hst, S17⟩
  obtain rfl : agg = aggT t := by simpa using hst
  refine ⟨fun _ w => ∃ a' x' L' a cap K, tailT a' x' L' = some R ∧ SmT L' ∧ i64 a' ∧ XK x' a cap K ∧ PS w0 w b L' (itI b3 (E0, a', x') a cap :: zI b2 :: (K ++ H)), IFB_eq (fun h0 => ?_) (fun h0 => ?_), ?_⟩
  · rw [if_pos h0] at h
    exact XPt.go (fun _ => pexpr_ok hs) h E S17 (fun x L' a cap K w18 hx h2 hK S18 => .inl ⟨_, _, _, _, _, _, _, _, rfl, (PS.front [zI b3, zI b2] S18).stIx6 0 rfl fun w24 S24 => ⟨0, x, L', a, cap, K, h2, hs.suf (pt_suf _ _ _ _ hx), by decide, hK, S24⟩⟩) (fun ch w' hB => .inr ⟨_, rfl, hB.sub (A := [_, _]) fun _ => id⟩)
  · rw [if_neg h0] at h
    refine (pskip_ok S17).mono ?_
    rintro _ w25 ⟨_, rfl, rfl, S25⟩
    refine .inl ⟨_, _, _, rfl, S25.newB fun b30 w26 S26 => pneed1 h S26 (fun L1 w27 hL1 h1 S27 => .inl ⟨rfl, S27.sto 0 rfl (i := 1) (cs' := #[.string E0, .int .i64 (aggT t), .int .i64 0, .string E0, .int .i64 0, .int .i64 0, .string E0, .slice none 0 0]) (by show 1 < 8; omega) rfl fun w28 S28 => ?_⟩) (fun ch w' hB => .inr ⟨_, rfl, hB.sub (A := [_, _]) fun _ => id⟩)⟩
    have hs1 : SmT L1 := hs.tail.suf hL1
    have S28 : PS w0 w28 b L1 (itI b3 (E0, aggT t, zeroX) none 0 :: zI b2 :: H) := S28
    have expr : ∀ {w : World} {Q : Ending → World → Prop} (hh : bindR (bindR (pt m (.E 1) L1) fun x L' => some (.ok (aggT t, x) L')) (fun ax L2 => needT qClose (fun L3 => tailT ax.1 ax.2 L3) L2) = some R) (S : PS w0 w b L1 (itI b3 (E0, aggT t, zeroX) none 0 :: zI b2 :: H))
        (hk : ∀ x L' a cap K w', SmT L' → needT qClose (fun L3 => tailT (aggT t) x L3) L' = some R → XK x a cap K → PS w0 w' b L' (itI b3 (E0, aggT t, zeroX) none 0 :: zI b2 :: (K ++ H)) → Q (.returned (.agg ⟨exHead x a cap⟩)) w') (hb : ∀ ch w', BadP w0 H R ch w' → Q (.panicked ch) w'),
        Calls Tryz.prog f.query_parser_expr #[.pointer (some ⟨b, 0, none⟩), .int .i64 1] w Q := fun {w Q} hh S hk hb => by
      rw [bind_assoc] at hh
      exact XPt.go (fun _ => pexpr_ok hs1) hh E S (fun x L' a cap K w' hx h2 hK S' => hk x L' a cap K w' (hs1.suf (pt_suf _ _ _ _ hx)) h2 hK (PS.front [itI b3 (E0, aggT t, zeroX) none 0, zI b2] S')) (fun ch w' hB => hb ch w' (hB.sub (A := [_, _]) fun _ => id))
    have close : ∀ {x : Ex} {L' : List Tk} {a : Option Addr} {cap : Nat} {K : List It} {w : World} {b' : Nat} {Q : Ending → World → Prop} (hs' : SmT L') (h2 : needT qClose (fun L3 => tailT (aggT t) x L3) L' = some R) (hK : XK x a cap K) (S : PS w0 w b L' (It.cells b' #[.string ⟨#[41]⟩] ty.string :: itI b3 (E0, aggT t, x) a cap :: zI b2 :: (K ++ H)))
        (hk : ∀ w', (∃ a' x' L' a cap K, tailT a' x' L' = some R ∧ SmT L' ∧ i64 a' ∧ XK x' a cap K ∧ PS w0 w' b L' (itI b3 (E0, a', x') a cap :: zI b2 :: (K ++ H))) → Q (.returned (.tuple #[])) w') (hb : ∀ ch w', BadP w0 H R ch w' → Q (.panicked ch) w'),
        Calls Tryz.prog f.query_parser_need #[.pointer (some ⟨b, 0, none⟩), .slice (some ⟨b', 0, none⟩) 1 1] w Q := fun {x L' a cap K w b' Q} hs' h2 hK S hk hb =>
      pneed1 h2 S (fun L3 w3 hL3 h3 S3 => hk w3 ⟨aggT t, x, L3, a, cap, K, h3, hs'.suf hL3, agg_i64 t, hK, S3⟩) (fun ch w' hB => hb ch w' (hB.sub (A := _ :: _ :: K) fun _ => id))
    refine IFB_eq (fun h2 => ?_) (fun h2 => ?_)
    · cases L1 with
      | nil => cases h1
      | cons u L1 =>
        rw [starT] at h1
        by_cases hst : isB u qStar = true
        · rw [if_pos ⟨h2, hst⟩] at h1
          have hs2 := hs1.tail
          refine ptakeY S28 hst fun w29 S29 => .inl ⟨_, rfl, IFB_true (S29.sto 0 rfl (i := 1) (cs' := #[.string E0, .int .i64 1, .int .i64 0, .string E0, .int .i64 0, .int .i64 0, .string E0, .slice none 0 0]) (by show 1 < 8; omega) rfl fun w30 S30 => S30.newB fun b35 w31 S31 => pneed1 (k := fun L3 => tailT 1 zeroX L3) h1 S31 (fun L3 w32 hL3 h3 S32 => .inl ⟨rfl, 1, zeroX, L3, none, 0, [], h3, hs2.suf hL3, by decide, .leaf (by decide) (by decide) (by decide) (by decide) (by decide), S32⟩) (fun ch w' hB => .inr ⟨_, rfl, hB.sub (A := [_, _]) fun _ => id⟩))⟩
        · rw [if_neg (by intro hh; exact hst hh.2)] at h1
          exact ptakeN S28 (by simpa using hst) fun w29 S29 => .inl ⟨_, rfl, IFB_false (expr h1 S29 (fun x L' a cap K w33 hs' h3 hK S33 => .inl ⟨_, _, _, _, _, _, _, _, rfl, S33.stIx6 0 rfl fun w39 S39 => S39.newB fun b45 w40 S40 => close hs' h3 hK S40 (fun w41 hy => .inl ⟨rfl, hy⟩) (fun ch w' hB => .inr ⟨_, rfl, hB⟩)⟩) (fun ch w' hB => .inr ⟨_, rfl, hB⟩))⟩
    · cases L1 with
      | nil => cases h1
      | cons u L1 =>
        rw [starT, if_neg (by intro hh; exact h2 hh.1)] at h1
        exact expr h1 S28 (fun x L' a cap K w33 hs' h3 hK S33 => .inl ⟨_, _, _, _, _, _, _, _, rfl, S33.stIx6 0 rfl fun w39 S39 => S39.newB fun b45 w40 S40 => close hs' h3 hK S40 (fun w41 hy => .inl ⟨rfl, hy⟩) (fun ch w' hB => .inr ⟨_, rfl, hB⟩)⟩) (fun ch w' hB => .inr ⟨_, rfl, hB⟩)
  rintro w51 ⟨a', x', L', a, cap, K, h3, hs', ha', hK, S51⟩
  refine S51.newB fun b62 w52 S52 => pneed1 h3 S52 (fun L2 w53 hL2 h4 S53 => .inl ⟨rfl, pname1 E.env (hs'.suf hL2) h4 S53 (fun s L3 w54 _ hz h5 S54 => .inl ⟨_, rfl, S54.sto 0 rfl (cs' := ⟨itHead (s, a', x') a cap⟩) (by show 0 < 8; omega) rfl fun w55 S55 => ?_⟩) (fun ch w' hB => .inr ⟨_, rfl, hB.sub (A := _ :: _ :: K) fun _ => id⟩)⟩) (fun ch w' hB => .inr ⟨_, rfl, hB.sub (A := _ :: _ :: K) fun _ => id⟩)
  have S55 : PS w0 w55 b L3 (itI b3 (s, a', x') a cap :: zI b2 :: (K ++ H)) := S55
  exact S55.stI 0 rfl (S55.stItm 1 rfl fun w63 S63 => ⟨_, _, a, cap, K, (Option.some.inj h5).symm, hK, Nat.le_trans hz (by decide), ha', rfl, S63.drop 2⟩)
theorem plist_P {α : Type} {read : List Tk → Option (RS α)} {fr : FuncId} {c0 c1 : Value} {w0 : World} {b : Nat} {H : List It} {P : List α → List It → Prop} (he : enters Tryz.prog fr = true) (hsuf : ∀ L R, read L = some R → SufR 1 L R)
    (hP : ∀ D H', P D H' → ∃ A, H' = A ++ H)
    (step : ∀ D H' L R w, P D H' → SmT L → D.length + L.length ≤ 10000 → read L = some R → PS w0 w b L H' → Calls Tryz.prog fr #[c0, c1] w (RetP (fun v w' => v = .tuple #[] ∧ ∃ x L' H'', R = .ok x L' ∧ P (D ++ [x]) H'' ∧ PS w0 w' b L' H'') (BadP w0 H R)))
    {m : Nat} {L : List Tk} {R : RS (List α)} {w : World} {H' : List It} (h : listM read m L = some R) (hs : SmT L) (hL : L.length ≤ 9000) (h0 : P [] H') (S : PS w0 w b L H') :
    Calls Tryz.prog f.query_parser_list #[.pointer (some ⟨b, 0, none⟩), .func (.func fr) #[] #[c0, c1]] w (RetP (fun v w' => v = .tuple #[] ∧ ∃ l L' H'', R = .ok l L' ∧ SufR 1 L R ∧ P l H'' ∧ PS w0 w' b L' H'') (BadP w0 H R)) := by
  apply X.query_parser_list_calls
  unfold X.query_parser_list
  simp only [he, cond_true]
  have hsR := list_suf hsuf h
  have stp : ∀ {D : List α} {H' : List It} {L : List Tk} {w : World} {k : α → List Tk → Option (RS (List α))} (hp : P D H') (hs : SmT L) (hN : D.length + L.length ≤ 10000) (hb : bindR (read L) k = some R) (S : PS w0 w b L H') {Q : Ending → World → Prop}
      (hk : ∀ x L' H'' w', read L = some (.ok x L') → k x L' = some R → P (D ++ [x]) H'' → PS w0 w' b L' H'' → Q (.returned (.tuple #[])) w') (hx : ∀ ch w', BadP w0 H R ch w' → Q (.panicked ch) w'), Calls Tryz.prog fr #[c0, c1] w Q := by
    intro D H' L w k hp hs hN hb S Q hk hx
    rcases bindR_open hb with ⟨a, hr, rfl⟩ | ⟨x, L', hr, h2⟩
    · refine (step D H' L _ w hp hs hN hr S).mono ?_
      rintro _ w' (⟨_, rfl, rfl, x, L', H'', hR, _⟩ | ⟨ch, rfl, a', ha, hc, S'⟩)
      · cases hR
      · cases ha; exact hx _ _ ⟨_, rfl, hc, S'⟩
    · refine (step D H' L _ w hp hs hN hr S).mono ?_
      rintro _ w' (⟨_, rfl, rfl, y, M, H'', hR, hp', S'⟩ | ⟨ch, rfl, a', ha, hc, S'⟩)
      · cases hR; exact hk _ _ _ _ hr h2 hp' S'
      · cases ha
  refine stp h0 hs (by simp only [List.length_nil]; omega) h S (fun x L1 H1 w1 hr h1 hp1 S1 => .inl ⟨rfl, fun _ w => ∃ D L1 H1 g, moreM read g D L1 = some R ∧ P D H1 ∧ SmT L1 ∧ D.length + L1.length ≤ 10000 ∧ PS w0 w b L1 H1, fun _ w => psLen b w, ⟨[x], L1, H1, m, h1, hp1, hs.suf (hsuf _ _ hr), ?_, S1⟩, ?_⟩) (fun ch w' hB => .inr ⟨_, rfl, hB⟩)
  · obtain ⟨p, e, hp⟩ := hsuf _ _ hr x L1 rfl
    rw [e, List.length_append] at hL
    simp only [List.length_cons, List.length_nil]
    omega
  rintro w2 ⟨D, L1, H1, g, hm, hp1, hs1, hN, S2⟩
  cases g with
  | zero => cases hm
  | succ g =>
  cases L1 with
  | nil => cases hm
  | cons t L1 =>
  rw [moreM] at hm
  have hlen := S2.len
  by_cases hc : isB t qComma = true
  · rw [if_pos hc] at hm
    refine ptakeY S2 hc fun w3 S3 => .inl ⟨_, rfl, IFB_true (stp hp1 hs1.tail (by rw [List.length_cons] at hN; omega) hm S3 (fun x L2 H2 w4 hr h2 hp2 S4 => .inl ⟨rfl, ⟨D ++ [x], L2, H2, g, h2, hp2, hs1.tail.suf (hsuf _ _ hr), ?_, S4⟩, ?_⟩) (fun ch w' hB => .inr ⟨_, rfl, hB⟩))⟩
    · obtain ⟨p, e, hp⟩ := hsuf _ _ hr x L2 rfl
      rw [e, List.length_cons, List.length_append] at hN
      simp only [List.length_append, List.length_cons, List.length_nil]
      omega
    · obtain ⟨p, e, hp⟩ := hsuf _ _ hr x L2 rfl
      show psLen b w4 < psLen b w2
      rw [S4.len, hlen, e]
      simp only [List.length_cons, List.length_append]
      omega
  · rw [if_neg hc] at hm
    exact ptakeN S2 (by simpa using hc) fun w3 S3 => .inl ⟨_, rfl, IFB_false ⟨trivial, D, t :: L1, H1, (Option.some.inj hm).symm, hsR, hp1, S3⟩⟩
theorem plist_go {α β : Type} {read : List Tk → Option (RS α)} {fr : FuncId} {c0 c1 : Value} {w0 : World} {b : Nat} {H : List It} {P : List α → List It → Prop} (he : enters Tryz.prog fr = true) (hsuf : ∀ L R, read L = some R → SufR 1 L R)
    (hP : ∀ D H', P D H' → ∃ A, H' = A ++ H)
    (step : ∀ D H' L R w, P D H' → SmT L → D.length + L.length ≤ 10000 → read L = some R → PS w0 w b L H' → Calls Tryz.prog fr #[c0, c1] w (RetP (fun v w' => v = .tuple #[] ∧ ∃ x L' H'', R = .ok x L' ∧ P (D ++ [x]) H'' ∧ PS w0 w' b L' H'') (BadP w0 H R)))
    {m : Nat} {L : List Tk} {k : List α → List Tk → Option (RS β)} {R : RS β} {w : World} {H' : List It} (h : bindR (listM read m L) k = some R) (hs : SmT L) (hL : L.length ≤ 9000) (h0 : P [] H') (S : PS w0 w b L H')
    {Q : Ending → World → Prop} (hk : ∀ l L' H'' w', SufR 1 L (.ok l L') → k l L' = some R → P l H'' → PS w0 w' b L' H'' → Q (.returned (.tuple #[])) w') (hb : ∀ ch w', BadP w0 H R ch w' → Q (.panicked ch) w') :
    Calls Tryz.prog f.query_parser_list #[.pointer (some ⟨b, 0, none⟩), .func (.func fr) #[] #[c0, c1]] w Q := by
  rcases bindR_open h with ⟨a, hr, rfl⟩ | ⟨x, L', hr, h2⟩
  · refine (plist_P he hsuf hP step hr hs hL h0 S).mono ?_
    rintro _ w' (⟨_, rfl, rfl, l, L', H'', hR, _⟩ | ⟨ch, rfl, a', ha, hc, S'⟩)
    · cases hR
    · cases ha; exact hb _ _ ⟨_, rfl, hc, S'⟩
  · refine (plist_P he hsuf hP step hr hs hL h0 S).mono ?_
    rintro _ w' (⟨_, rfl, rfl, l, L', H'', hR, hsu, hp, S'⟩ | ⟨ch, rfl, a', ha, hc, S'⟩)
    · cases hR; exact hk _ _ _ _ hsu h2 hp S'
    · cases ha
/-! ### a query as it grows -/
structure QS where
  ai : Option Addr
  ni : Nat
  ci : Nat
  rs : List Value
  aw : Option Addr
  nw : Nat
  cw : Nat
  ag : Option Addr
  ng : Nat
  cg : Nat
  gs : List Value
  ao : Option Addr
  no : Nat
  co : Nat
  os : List Value
  lim : Int
def QS.its (q : QS) (b4 b2 b b3 : Nat) : List It :=
  [itemsI q.ai q.ni q.ci q.rs, exsI q.ag q.ng q.cg q.gs, keysI q.ao q.no q.co q.os, It.cells b4 #[.slice q.ai q.ni q.ci, .slice q.aw q.nw q.cw, .slice q.ag q.ng q.cg, .slice q.ao q.no q.co, .int .i64 q.lim] ty.api_Query, It.cells b2 #[.pointer (some ⟨b, 0, none⟩)] ty.P_query_parser, zqb b3]
structure QSem (it : List Itm) (wh gr : List Ex) (od : List (Int × Bool)) (l : Int) (q : QS) (K : List It) : Prop where
  ni : q.ni = it.length
  nw : q.nw = wh.length
  ng : q.ng = gr.length
  no : q.no = od.length
  it : ∀ w, (∀ x ∈ K, x.ok w) → RowsC (ItC (fun _ => False) w) it q.rs
  wh : ∀ w, (∀ x ∈ K, x.ok w) → ∃ ws, Rd w q.aw ws ∧ RowsC (ExC (fun _ => False) w) wh ws
  gr : ∀ w, (∀ x ∈ K, x.ok w) → RowsC (ExC (fun _ => False) w) gr q.gs
  od : RowsC keyC od q.os
  lim : q.lim = l ∧ i64 l
section
variable {it : List Itm} {wh gr : List Ex} {od : List (Int × Bool)} {l : Int} {q : QS} {K K1 : List It} {w0 w : World} {b b2 b3 b4 : Nat} {L : List Tk} {H : List It}
theorem pc1_P {m : Nat} {R : RS Itm} (h : itemM m L = some R) (hs : SmT L) (hn : it.length + L.length ≤ 10000) (E : Env2 w0) (Q : QSem it wh gr od l q K) (S : PS w0 w b L (q.its b4 b2 b b3 ++ (K ++ H))) :
    Calls Tryz.prog f.query_parser_query_c1 #[.pointer (some ⟨b4, 0, none⟩), .pointer (some ⟨b2, 0, none⟩)] w (RetP (fun v w' => v = .tuple #[] ∧ ∃ i L' q' K', R = .ok i L' ∧ QSem (it ++ [i]) wh gr od l q' K' ∧ PS w0 w' b L' (q'.its b4 b2 b b3 ++ (K' ++ H))) (BadP w0 H R)) := by
  apply X.query_parser_query_c1_calls
  unfold X.query_parser_query_c1
  have hni := Q.ni
  refine S.draw fun w1 S1 => ⟨_, _, _, S1.cell 3 rfl rfl, _, S1.cell 4 rfl rfl, (pitem_P h hs E S1).mono ?_⟩
  rintro _ w2 (⟨_, rfl, i, L', a, cap, K1, hR, hK, hz, ha, rfl, S2⟩ | ⟨ch, rfl, hB⟩)
  rotate_left
  · exact .inr ⟨_, rfl, hB.sub (A := q.its b4 b2 b b3 ++ K) fun _ => id⟩
  have S2 := PS.front (q.its b4 b2 b b3) S2
  refine .inl ⟨_, _, _, _, _, _, _, _, _, _, rfl, S2.cell 3 rfl rfl, S2.newB fun b14 w3 S3 => ⟨S3.cell 4 rfl rfl, ?_⟩⟩
  refine S3.app 1 rfl tItems rfl (by omega) (by omega) (S3.rdc 0 rfl) (mm := 1) rfl (it_one i a cap) (by omega) fun a1 c1 w4 S4 => ⟨_, _, _, rfl, S4.sto 4 rfl (cs' := #[.slice a1 (q.ni + 1) c1, .slice q.aw q.nw q.cw, .slice q.ag q.ng q.cg, .slice q.ao q.no q.co, .int .i64 q.lim]) (by simp) rfl fun w5 S5 => ⟨rfl, i, L', { q with ai := a1, ni := q.ni + 1, ci := c1, rs := q.rs ++ itHead i a cap }, K1 ++ K, hR, ⟨?_, Q.nw, Q.ng, Q.no, ?_, ?_, ?_, Q.od, Q.lim⟩, ?_⟩⟩
  · rw [hni, List.length_append]; rfl
  · exact fun w hok => RowsC.append (Q.it w fun x hx => hok x (by simp [hx])) (RowsC.one ⟨_, rfl, hK.rx fun x hx => hok x (by simp [hx]), hz, ha⟩)
  · exact fun w hok => Q.wh w fun x hx => hok x (by simp [hx])
  · exact fun w hok => Q.gr w fun x hx => hok x (by simp [hx])
  · have S6 := S5.drop 1
    rw [← List.append_assoc K1] at S6
    exact S6
theorem PS.stoRk6 (S : PS w0 w b L H) (n : Nat) {e : TypeId} {g c m : Nat} {gs : List Value} {x0 x1 x2 x3 x4 x5 v0 v1 v2 v3 v4 v5 : Value} (hl : gs.length = m * 6) (hn : H[n]? = some (It.row e 6 (some ⟨g, 0, none⟩) (m + 1) c (gs ++ [x0, x1, x2, x3, x4, x5]))) {k : World → Prop}
    (hk : ∀ w', PS w0 w' b L (H.set n (It.row e 6 (some ⟨g, 0, none⟩) (m + 1) c (gs ++ [v0, v1, v2, v3, v4, v5]))) → k w') :
    STO ((⟨g, 0, none⟩ : Addr).add (m * 6)) v0 (fun w => STO (((⟨g, 0, none⟩ : Addr).add (m * 6)).add 1) v1 (fun w => STO (((⟨g, 0, none⟩ : Addr).add (m * 6)).add 2) v2 (fun w => STO (((⟨g, 0, none⟩ : Addr).add (m * 6)).add 3) v3 (fun w => STO (((⟨g, 0, none⟩ : Addr).add (m * 6)).add 4) v4 (fun w => STO (((⟨g, 0, none⟩ : Addr).add (m * 6)).add 5) v5 k w) w) w) w) w) w := by
  have hlt := (List.getElem?_eq_some_iff.1 hn).1
  have gg : ∀ {x : It}, (H.set n x)[n]? = some x := List.getElem?_set_self hlt
  have e1 : ∀ (i : Nat) (l : List Value) (v : Value), (gs ++ l).set (m * 6 + i) v = gs ++ l.set i v := fun i l v => by
    rw [List.set_append, if_neg (by omega), ← hl, Nat.add_sub_cancel_left]
  simp only [addr_add_blk, Nat.zero_add]
  refine S.stoR n hn (j := m * 6) (by omega) fun w1 S1 => ?_
  rw [show m * 6 = m * 6 + 0 by omega, e1] at S1
  refine S1.stoR n gg (j := m * 6 + 1) (by omega) fun w2 S2 => ?_
  rw [List.set_set, e1] at S2
  refine S2.stoR n gg (j := m * 6 + 2) (by omega) fun w3 S3 => ?_
  rw [List.set_set, e1] at S3
  refine S3.stoR n gg (j := m * 6 + 3) (by omega) fun w4 S4 => ?_
  rw [List.set_set, e1] at S4
  refine S4.stoR n gg (j := m * 6 + 4) (by omega) fun w5 S5 => ?_
  rw [List.set_set, e1] at S5
  refine S5.stoR n gg (j := m * 6 + 5) (by omega) fun w6 S6 => ?_
  rw [List.set_set, e1] at S6
  exact hk w6 S6
theorem pc2_P {m : Nat} {R : RS Ex} (h : pt m (.E 1) L = some R) (hs : SmT L) (hn : gr.length + L.length ≤ 10000) (E : Env2 w0) (Q : QSem it wh gr od l q K) (S : PS w0 w b L (q.its b4 b2 b b3 ++ (K ++ H))) :
    Calls Tryz.prog f.query_parser_query_c2 #[.pointer (some ⟨b4, 0, none⟩), .pointer (some ⟨b2, 0, none⟩)] w (RetP (fun v w' => v = .tuple #[] ∧ ∃ x L' q' K', R = .ok x L' ∧ QSem it wh (gr ++ [x]) od l q' K' ∧ PS w0 w' b L' (q'.its b4 b2 b b3 ++ (K' ++ H))) (BadP w0 H R)) := by
  apply X.query_parser_query_c2_calls
  unfold X.query_parser_query_c2
  have hng := Q.ng
  have hX : XPt f.query_parser_expr [.int .i64 1] L R := pexpr_ok hs h
  have fin : ∀ {x : Ex} {L' : List Tk} {a : Option Addr} {cap : Nat} {K1 : List It} {g c1 b' : Nat} {cs : Array Value} {t : TypeId} {w' : World} (hR : R = .ok x L') (hK : XK x a cap K1) (S' : PS w0 w' b L' (It.cells b' cs t :: ((⟨q.ai, q.ni, q.ci, q.rs, q.aw, q.nw, q.cw, some ⟨g, 0, none⟩, q.ng + 1, c1, q.gs ++ exHead x a cap, q.ao, q.no, q.co, q.os, q.lim⟩ : QS).its b4 b2 b b3 ++ (K1 ++ (K ++ H))))),
      Value.tuple #[] = .tuple #[] ∧ ∃ x L' q' K', R = .ok x L' ∧ QSem it wh (gr ++ [x]) od l q' K' ∧ PS w0 w' b L' (q'.its b4 b2 b b3 ++ (K' ++ H)) := fun {x L' a cap K1 g c1 b' cs t w'} hR hK S' => by
    refine ⟨rfl, x, L', ⟨q.ai, q.ni, q.ci, q.rs, q.aw, q.nw, q.cw, some ⟨g, 0, none⟩, q.ng + 1, c1, q.gs ++ exHead x a cap, q.ao, q.no, q.co, q.os, q.lim⟩, K1 ++ K, hR, ⟨Q.ni, Q.nw, ?_, Q.no, fun w hok => Q.it w fun x hx => hok x (by simp [hx]), fun w hok => Q.wh w fun x hx => hok x (by simp [hx]), fun w hok => RowsC.append (Q.gr w fun x hx => hok x (by simp [hx])) (RowsC.one (hK.rx fun x hx => hok x (by simp [hx]))), Q.od, Q.lim⟩, ?_⟩
    rotate_left
    · have S6 := S'.drop 1
      rw [← List.append_assoc K1] at S6
      exact S6
    · show q.ng + 1 = _
      rw [hng, List.length_append]; rfl
  have app : ∀ {x : Ex} {L' : List Tk} {a : Option Addr} {cap : Nat} {K1 : List It} {b' : Nat} {w4 : World} {a1 : Option Addr} {c1 : Nat} (hR : R = .ok x L') (hK : XK x a cap K1) (S4 : PS w0 w4 b L' (It.cells b' #[.int .i64 0, .string E0, .int .i64 0, .int .i64 0, .string E0, .slice none 0 0] ty.api_Expr :: ((⟨q.ai, q.ni, q.ci, q.rs, q.aw, q.nw, q.cw, a1, q.ng + 1, c1, q.gs ++ exHead zeroX none 0, q.ao, q.no, q.co, q.os, q.lim⟩ : QS).its b4 b2 b b3).set 3 (It.cells b4 #[.slice q.ai q.ni q.ci, .slice q.aw q.nw q.cw, .slice q.ag q.ng q.cg, .slice q.ao q.no q.co, .int .i64 q.lim] ty.api_Query) ++ (K1 ++ (K ++ H)))),
      ∃ g, a1 = some ⟨g, 0, none⟩ := fun {x L' a cap K1 b' w4 a1 c1} hR hK S4 => by
    have hrow := S4.rw 2 rfl
    rcases hrow with ⟨_, ⟨_, h0, _⟩ | ⟨g, cur, rfl, _⟩⟩
    · cases h0
    · exact ⟨g, rfl⟩
  have hgl : q.gs.length = q.ng * 6 := by
    obtain ⟨x, c, h1, h2, S'⟩ := S
    have hr : Row w ty.api_Expr 6 q.ag q.ng q.cg q.gs := S'.get 3 rfl
    exact hr.1
  refine S.draw fun w1 S1 => ⟨_, _, _, S1.cell 3 rfl rfl, _, S1.cell 4 rfl rfl, (hX E S1).mono ?_, S1.newB fun b16 w19 S19 => ⟨S19.cell 5 rfl rfl, S19.cell 4 rfl rfl, (hX E S19).mono ?_⟩⟩
  · rintro _ w2 (⟨_, rfl, x, L', a, cap, K1, hR, hK, rfl, S2⟩ | ⟨ch, rfl, hB⟩)
    rotate_left
    · exact .inr ⟨_, rfl, hB.sub (A := q.its b4 b2 b b3 ++ K) fun _ => id⟩
    have S2 := PS.front (q.its b4 b2 b b3) S2
    refine .inl ⟨_, _, _, _, _, _, _, _, rfl, S2.cell 3 rfl rfl, S2.newB fun b12 w3 S3 => ⟨S3.cell 4 rfl rfl, ?_⟩⟩
    refine S3.app 2 rfl tExs rfl (by omega) (by omega) (S3.rdc 0 rfl) (mm := 1) rfl (ex_one zeroX none 0) (by omega) fun a1 c1 w4 S4 => ?_
    obtain ⟨g, rfl⟩ := app hR hK S4
    exact ⟨_, _, _, rfl, ⟨by omega, by omega⟩, PTR_i ⟨S4.stoRk6 2 hgl rfl fun w10 S10 => S10.sto 4 rfl (cs' := #[.slice q.ai q.ni q.ci, .slice q.aw q.nw q.cw, .slice (some ⟨g, 0, none⟩) (q.ng + 1) c1, .slice q.ao q.no q.co, .int .i64 q.lim]) (by simp) rfl fun w11 S11 => fin hR hK S11,
      S4.sto 4 rfl (cs' := #[.slice q.ai q.ni q.ci, .slice q.aw q.nw q.cw, .slice (some ⟨g, 0, none⟩) (q.ng + 1) c1, .slice q.ao q.no q.co, .int .i64 q.lim]) (by simp) rfl fun w12 S12 => S12.stoRk6 2 hgl rfl fun w18 S18 => fin hR hK S18⟩⟩
  · rintro _ w20 (⟨_, rfl, x, L', a, cap, K1, hR, hK, rfl, S2⟩ | ⟨ch, rfl, hB⟩)
    rotate_left
    · exact .inr ⟨_, rfl, hB.sub (A := _ :: (q.its b4 b2 b b3 ++ K)) fun _ => id⟩
    have S2 := PS.front (It.cells b16 #[.int .i64 0, .string E0, .int .i64 0, .int .i64 0, .string E0, .slice none 0 0] ty.api_Expr :: q.its b4 b2 b b3) S2
    refine .inl ⟨_, _, _, _, _, _, _, _, rfl, S2.cell 4 rfl rfl, ?_⟩
    refine PS.app S2 2 rfl tExs rfl (by omega) (by omega) (S2.rdc 0 rfl) (mm := 1) rfl (ex_one zeroX none 0) (by omega) fun a1 c1 w4 S4 => ?_
    obtain ⟨g, rfl⟩ := app hR hK S4
    exact ⟨_, _, _, rfl, ⟨by omega, by omega⟩, PTR_i ⟨S4.stoRk6 2 hgl rfl fun w10 S10 => S10.sto 4 rfl (cs' := #[.slice q.ai q.ni q.ci, .slice q.aw q.nw q.cw, .slice (some ⟨g, 0, none⟩) (q.ng + 1) c1, .slice q.ao q.no q.co, .int .i64 q.lim]) (by simp) rfl fun w11 S11 => fin hR hK S11,
      S4.sto 4 rfl (cs' := #[.slice q.ai q.ni q.ci, .slice q.aw q.nw q.cw, .slice (some ⟨g, 0, none⟩) (q.ng + 1) c1, .slice q.ao q.no q.co, .int .i64 q.lim]) (by simp) rfl fun w12 S12 => S12.stoRk6 2 hgl rfl fun w18 S18 => fin hR hK S18⟩⟩
theorem idx_i64 {α : Type} (l : List α) (p : α → Bool) (hl : l.length ≤ 100000) : i64 (idxV (l.findIdx? p)) := by
  cases h : l.findIdx? p with
  | none => decide
  | some i =>
    have := (List.findIdx?_eq_some_iff_findIdx_eq.1 h).1
    unfold idxV i64
    simp only
    omega
theorem pc3_P {R : RS (Int × Bool)} (h : keyM it L = some R) (hs : SmT L) (hi : it.length ≤ 10000) (hn : od.length + L.length ≤ 10000) (E : Env2 w0) (Q : QSem it wh gr od l q K) (S : PS w0 w b L (q.its b4 b2 b b3 ++ (K ++ H))) :
    Calls Tryz.prog f.query_parser_query_c3 #[.pointer (some ⟨b4, 0, none⟩), .pointer (some ⟨b2, 0, none⟩)] w (RetP (fun v w' => v = .tuple #[] ∧ ∃ k L' q' K', R = .ok k L' ∧ QSem it wh gr (od ++ [k]) l q' K' ∧ PS w0 w' b L' (q'.its b4 b2 b b3 ++ (K' ++ H))) (BadP w0 H R)) := by
  have hni := Q.ni
  have hno := Q.no
  have pl : ∀ {w' : World} {L' : List Tk} (n : Nat) {H' : List It} (s : ByteArray) (S : PS w0 w' b L' H') (hn : H'[n]? = some (itemsI q.ai q.ni q.ci q.rs)) (hk : ∀ it ∈ K, it ∈ H') {Q' : Ending → World → Prop} (hQ : ∀ w'', PS w0 w'' b L' H' → Q' (.returned (.int .i64 (placeI it s))) w''), Calls Tryz.prog f.query_place #[.slice q.ai q.ni q.ci, .string s] w' Q' := by
    intro w' L' n H' s S hn hk Q' hQ
    have hr := (S.rw n hn).rd
    rw [hni]
    refine (query_place_ok (l := it) hr (Q.it w' fun x hx => S.ok x (hk x hx)) (by omega) s).mono ?_
    rintro _ w'' ⟨_, rfl, rfl, B⟩
    exact hQ w'' (S.grown B)
  have hmem : ∀ (A : List It), ∀ it ∈ K, it ∈ A ++ (K ++ H) := fun A it hi => by simp [hi]
  apply X.query_parser_query_c3_calls
  unfold X.query_parser_query_c3
  refine ⟨fun st w => ∃ b9 s L', st = [.pointer (some ⟨b9, 0, none⟩)] ∧ optT qDesc (fun L => some (.ok (placeI it s, true) L)) (placeI it s, false) L' = some R ∧ PS w0 w b L' (It.cells b9 #[.int .i64 (placeI it s), .bool false] ty.api_Key :: (q.its b4 b2 b b3 ++ (K ++ H))),
    S.draw fun w1 S1 => ⟨_, _, _, S1.cell 3 rfl rfl, _, S1.cell 4 rfl rfl, pname1 E.env hs h S1 (fun s L' w2 _ _ h2 S2 => .inl ⟨_, rfl, S2.cell 3 rfl rfl, pl 0 s S2 rfl (hmem _) fun w3 S3 => .inl ⟨_, rfl, S3.newB fun b9 w4 S4 => S4.sto 0 rfl (cs' := #[.int .i64 (placeI it s), .bool false]) (by simp) rfl fun w5 S5 => S5.sto 0 rfl (cs' := #[.int .i64 (placeI it s), .bool false]) (by simp) rfl fun w6 S6 => ⟨b9, s, L', rfl, h2, S6⟩⟩,
      S2.newB fun b10 w7 S7 => ⟨S7.cell 4 rfl rfl, pl 1 s S7 rfl (fun it hi => List.mem_cons_of_mem _ (hmem _ it hi)) fun w8 S8 => .inl ⟨_, rfl, S8.sto 0 rfl (cs' := #[.int .i64 (placeI it s), .bool false]) (by simp) rfl fun w9 S9 => S9.sto 0 rfl (cs' := #[.int .i64 (placeI it s), .bool false]) (by simp) rfl fun w10 S10 => ⟨b10, s, L', rfl, h2, S10⟩⟩⟩⟩) (fun ch w' hB => .inr ⟨_, rfl, hB.sub (A := q.its b4 b2 b b3 ++ K) fun _ => id⟩),
      S1.newB fun b13 w11 S11 => ⟨S11.cell 5 rfl rfl, S11.cell 4 rfl rfl, pname1 E.env hs h S11 (fun s L' w12 _ _ h2 S12 => .inl ⟨_, rfl, S12.cell 4 rfl rfl, pl 1 s S12 rfl (fun it hi => List.mem_cons_of_mem _ (hmem _ it hi)) fun w13 S13 => .inl ⟨_, rfl, S13.sto 0 rfl (cs' := #[.int .i64 (placeI it s), .bool false]) (by simp) rfl fun w14 S14 => S14.sto 0 rfl (cs' := #[.int .i64 (placeI it s), .bool false]) (by simp) rfl fun w15 S15 => ⟨b13, s, L', rfl, h2, S15⟩⟩⟩) (fun ch w' hB => .inr ⟨_, rfl, hB.sub (A := _ :: (q.its b4 b2 b b3 ++ K)) fun _ => id⟩)⟩⟩, ?_⟩
  rintro k w16 ⟨b9, s, L', hst, h2, S16⟩
  obtain rfl : k = some ⟨b9, 0, none⟩ := by simpa using hst
  cases L' with
  | nil => cases h2
  | cons t L' =>
  rw [optT] at h2
  have fin : ∀ {d : Bool} {M : List Tk} {w17 : World}, R = .ok (placeI it s, d) M → PS w0 w17 b M (It.cells b9 #[.int .i64 (placeI it s), .bool false] ty.api_Key :: (q.its b4 b2 b b3 ++ (K ++ H))) → PTR (some (⟨b9, 0, none⟩ : Addr)) (fun a_28 => STO (a_28.add 1) (.bool d) (fun w18 => ∃ (t13 : Option Addr) (t13l t13c : Nat), w18.cell? ⟨b4, 3, none⟩ = some (.slice t13 t13l t13c) ∧ PTR (some (⟨b9, 0, none⟩ : Addr)) (fun a_30 => ∃ t140 : Int, w18.cell? a_30 = some (.int .i64 t140) ∧ ∃ t141 : Bool, w18.cell? (a_30.add 1) = some (.bool t141) ∧
      NEWB #[.int .i64 t140, .bool t141] ty.api_Key (fun b_33 w19 => OPR Tryz.prog (Builtin.append_ #[25, 25] 25 #[.slice t13 t13l t13c, .slice (some ⟨b_33, 0, none⟩) 1 1]) (fun r_35 w20 => ∃ (t16 : Option Addr) (t16l t16c : Nat), r_35 = .slice t16 t16l t16c ∧ STO ⟨b4, 3, none⟩ (.slice t16 t16l t16c) (fun w21 => (Value.tuple #[] = .tuple #[] ∧ ∃ k L' q' K', R = .ok k L' ∧ QSem it wh gr (od ++ [k]) l q' K' ∧ PS w0 w21 b L' (q'.its b4 b2 b b3 ++ (K' ++ H)))) w20) w19) w18)) w17) := fun {d M w17} hR S17 => by
    refine PTR_i (S17.sto 0 rfl (i := 1) (cs' := #[.int .i64 (placeI it s), .bool d]) (by simp) rfl fun w18 S18 => ⟨_, _, _, S18.cell 4 rfl rfl, PTR_i ⟨_, S18.cell 0 rfl rfl, _, S18.cell 0 rfl rfl, S18.newB fun b28 w19 S19 => ?_⟩⟩)
    refine S19.app 4 rfl tKeys rfl (by omega) (by omega) (S19.rdc 0 rfl) (mm := 1) rfl (by intro u hu; simp at hu; rcases hu with rfl | rfl <;> rfl) (by omega) fun a1 c1 w20 S20 => ⟨_, _, _, rfl, S20.sto 5 rfl (cs' := #[.slice q.ai q.ni q.ci, .slice q.aw q.nw q.cw, .slice q.ag q.ng q.cg, .slice a1 (q.no + 1) c1, .int .i64 q.lim]) (by simp) rfl fun w21 S21 => ⟨rfl, _, M, { q with ao := a1, no := q.no + 1, co := c1, os := q.os ++ [.int .i64 (placeI it s), .bool d] }, K, hR, ⟨Q.ni, Q.nw, Q.ng, ?_, Q.it, Q.wh, Q.gr, RowsC.append Q.od (RowsC.one ⟨rfl, idx_i64 _ _ (by omega)⟩), Q.lim⟩, S21.drop 2⟩⟩
    rw [hno, List.length_append]; rfl
  by_cases hd : isB t qDesc = true
  · rw [if_pos hd] at h2
    exact ⟨_, S16.cell 5 rfl rfl, ptakeY S16 hd fun w17 S17 => .inl ⟨_, rfl, fin (Option.some.inj h2).symm S17⟩⟩
  · rw [if_neg hd] at h2
    exact ⟨_, S16.cell 5 rfl rfl, ptakeN S16 (by simpa using hd) fun w17 S17 => .inl ⟨_, rfl, fin (Option.some.inj h2).symm S17⟩⟩
end
theorem row_max {w : World} {e : TypeId} {sz : Nat} {a : Option Addr} {n c : Nat} {xs : List Value} (h : Row w e sz a n c xs) : n ≤ 9223372036854775807 := by
  rcases h.2 with ⟨_, h0, _⟩ | ⟨_, _, _, _, h1, h2, _⟩
  · omega
  · omega
theorem pquery_P {m : Nat} {L : List Tk} {R : RS Qu} (h : queryM m L = some R) (hs : SmT L) (hL : L.length ≤ 5000) {w0 w : World} {H : List It} {b : Nat} (E : Env2 w0) (S : PS w0 w b L H) :
    Calls Tryz.prog f.query_parser_query #[.pointer (some ⟨b, 0, none⟩)] w (RetP (fun r w' => ∃ Q L' ai aw ag ao ci cw cg co K, R = .ok Q L' ∧ r = .agg ⟨quL Q ai aw ag ao ci cw cg co⟩ ∧ (∀ w'', (∀ x ∈ K, x.ok w'') → QAt w'' Q ai aw ag ao) ∧ PS w0 w' b L' (K ++ H)) (BadP w0 H R)) := by
  rw [queryM] at h
  apply X.query_parser_query_calls
  unfold X.query_parser_query
  refine S.newB fun b2 w1 S1 => S1.newB fun b3 w2 S2 => S2.newB fun b4 w3 S3 => S3.sto5 0 rfl fun w8 S8 => ?_
  obtain ⟨q0, hq0⟩ : ∃ q0 : QS, q0 = ⟨none, 0, 0, [], none, 0, 0, none, 0, 0, [], none, 0, 0, [], -1⟩ := ⟨_, rfl⟩
  have S8 : PS w0 w8 b L (q0.its b4 b2 b b3 ++ ([] ++ H)) := by
    subst hq0
    exact (((S8.perm (List.Perm.cons _ (List.Perm.swap _ _ _))).nil ty.api_Key 2).nil ty.api_Expr 6).nil ty.api_Item 8
  have Q0 : QSem [] [] [] [] (-1) q0 [] := by
    subst hq0
    exact ⟨rfl, rfl, rfl, rfl, fun _ _ => rfl, fun w _ => ⟨[], Rd.nil _ _, rfl⟩, fun _ _ => rfl, rfl, rfl, by decide⟩
  clear hq0
  have bad : ∀ {α : Type} {R' : RS α} {q : QS} {K : List It} {ch : List PanicEntry} {w' : World}, BadP w0 (q.its b4 b2 b b3 ++ (K ++ H)) R' ch w' → (∀ a, R' = .bad a → R = .bad a) → BadP w0 H R ch w' := fun {α R' q K ch w'} hB hR => hB.sub (A := q.its b4 b2 b b3 ++ K) hR
  refine ⟨_, S8.cell 4 rfl rfl, S8.newB fun b6 w9 S9 => pneed1 h S9 (fun L1 w10 hL1 h1 S10 => .inl ⟨rfl, _, S10.cell 4 rfl rfl, ?_⟩) (fun ch w' hB => .inr ⟨_, rfl, bad hB fun _ => id⟩)⟩
  have len1 : ∀ {α : Type} {x : α} {n : Nat} {A B : List Tk}, SufR n A (.ok x B) → B.length ≤ A.length := fun {α x n A B} hsu => by
    obtain ⟨p, e, _⟩ := hsu x B rfl
    rw [e, List.length_append]
    omega
  have hs1 := hs.suf hL1
  have hl1 := len1 hL1
  have he1 : enters Tryz.prog f.query_parser_query_c1 = true := by kernel_rfl
  have he2 : enters Tryz.prog f.query_parser_query_c2 = true := by kernel_rfl
  have he3 : enters Tryz.prog f.query_parser_query_c3 = true := by kernel_rfl
  refine plist_go (H := H) (P := fun D H' => ∃ q K, H' = q.its b4 b2 b b3 ++ (K ++ H) ∧ QSem D [] [] [] (-1) q K ∧ D.length ≤ 10000) he1 (fun L R hh => item_suf hh) ?_ ?_ h1 hs1 (by omega) ⟨q0, [], rfl, Q0, by simp⟩ S10 ?_ (fun ch w' hB => .inr ⟨_, rfl, hB⟩)
  · rintro D _ ⟨q, K, rfl, _⟩
    exact ⟨q.its b4 b2 b b3 ++ K, by rw [List.append_assoc]⟩
  · rintro D _ L R w ⟨q, K, rfl, Q, hD⟩ hsL hN hr S
    refine (pc1_P hr hsL hN E Q S).mono ?_
    rintro _ w' (⟨_, rfl, rfl, i, L', q', K', hR, Q', S'⟩ | ⟨ch, rfl, hB⟩)
    · refine .inl ⟨_, rfl, rfl, i, L', _, hR, ⟨q', K', rfl, Q', ?_⟩, S'⟩
      cases L with
      | nil => cases hr
      | cons u L =>
        simp only [List.length_cons, List.length_append, List.length_nil] at hN ⊢
        omega
    · exact .inr ⟨_, rfl, hB⟩
  rintro it L2 _ w11 hL2 h2 ⟨q, K, rfl, Q, hitl⟩ S11
  have hs2 := hs1.suf hL2
  have hl2 := len1 hL2
  -- where
  refine .inl ⟨rfl, fun _ w => ∃ wh L3 q K, bindR (optT qGroup (needT qBy (listM (pt m (.E 1)) m)) [] L3) (fun gr L4 => bindR (optT qOrder (needT qBy (listM (keyM it) m)) [] L4) fun od L5 => bindR (optT qLimit limM (-1) L5) fun lim L6 => endM ⟨it, wh, gr, od, lim⟩ L6) = some R ∧ SmT L3 ∧ L3.length ≤ 5000 ∧ wh.length ≤ 1 ∧ QSem it wh [] [] (-1) q K ∧ PS w0 w b L3 (q.its b4 b2 b b3 ++ (K ++ H)), ⟨_, S11.cell 4 rfl rfl, ?_⟩, ?_⟩
  · cases L2 with
    | nil => cases h2
    | cons t L2 =>
    rw [optT] at h2
    by_cases ht : isB t qWhere = true
    · rw [if_pos ht, whereM, bind_assoc] at h2
      have hl3 : L2.length ≤ 5000 := by simp only [List.length_cons] at hl2; omega
      refine ptakeY S11 ht fun w12 S12 => .inl ⟨_, rfl, IFB_true ⟨_, S12.cell 4 rfl rfl, XPt.go (fun _ => pexpr_ok hs2.tail) h2 E S12 (fun x L3 a cap K1 w13 hx h3 hK S13 => .inl ⟨_, _, _, _, _, _, _, _, rfl, (PS.front (q.its b4 b2 b b3) S13).newB fun b23 w14 S14 => S14.sto 4 rfl (i := 1) (cs' := #[.slice q.ai q.ni q.ci, .slice (some ⟨b23, 0, none⟩) 1 1, .slice q.ag q.ng q.cg, .slice q.ao q.no q.co, .int .i64 q.lim]) (by simp) rfl fun w15 S15 => ?_⟩) (fun ch w' hB => .inr ⟨_, rfl, bad hB fun _ => id⟩)⟩⟩
      have hx3 := pt_suf _ _ _ _ hx
      refine ⟨[x], L3, { q with aw := some ⟨b23, 0, none⟩, nw := 1, cw := 1 }, It.cells b23 ⟨exHead x a cap⟩ ty.api_Expr :: (K1 ++ K), h3, hs2.tail.suf hx3, Nat.le_trans (len1 hx3) hl3, Nat.le_refl _, ⟨Q.ni, rfl, Q.ng, Q.no, fun w hok => Q.it w fun y hy => hok y (by simp [hy]), fun w hok => ⟨exHead x a cap, Rd.of_block0 (hok (It.cells b23 ⟨exHead x a cap⟩ ty.api_Expr) (by simp)), RowsC.one (hK.rx fun y hy => hok y (by simp [hy]))⟩, fun w hok => Q.gr w fun y hy => hok y (by simp [hy]), Q.od, Q.lim⟩, ?_⟩
      have S16 : PS w0 w15 b L3 (It.cells b23 ⟨exHead x a cap⟩ ty.api_Expr :: (({ q with aw := some ⟨b23, 0, none⟩, nw := 1, cw := 1 } : QS).its b4 b2 b b3 ++ (K1 ++ (K ++ H)))) := S15
      have S17 := S16.perm List.perm_middle.symm
      rw [← List.append_assoc K1] at S17
      exact S17
    · rw [if_neg ht] at h2
      exact ptakeN S11 (by simpa using ht) fun w12 S12 => .inl ⟨_, rfl, IFB_false ⟨[], _, q, K, h2, hs2, by omega, by simp, Q, S12⟩⟩
  clear S11 S10 S8 S3 S2 S1 h2 Q Q0 hs2 hl2 hL2
  rintro w16 ⟨wh, L3, q, K, h3, hs3, hl3, hwh, Q, S16⟩
  -- group
  refine ⟨fun _ w => ∃ gr L4 q K, bindR (optT qOrder (needT qBy (listM (keyM it) m)) [] L4) (fun od L5 => bindR (optT qLimit limM (-1) L5) fun lim L6 => endM ⟨it, wh, gr, od, lim⟩ L6) = some R ∧ SmT L4 ∧ L4.length ≤ 5000 ∧ QSem it wh gr [] (-1) q K ∧ PS w0 w b L4 (q.its b4 b2 b b3 ++ (K ++ H)), ⟨_, S16.cell 4 rfl rfl, ?_⟩, ?_⟩
  · cases L3 with
    | nil => cases h3
    | cons t L3 =>
    rw [optT] at h3
    simp only [List.length_cons] at hl3
    by_cases ht : isB t qGroup = true
    · rw [if_pos ht] at h3
      refine ptakeY S16 ht fun w17 S17 => .inl ⟨_, rfl, IFB_true ⟨_, S17.cell 4 rfl rfl, S17.newB fun b31 w18 S18 => ?_⟩⟩
      have h3' : needT qBy (fun L => bindR (listM (pt m (.E 1)) m L) (fun gr L4 => bindR (optT qOrder (needT qBy (listM (keyM it) m)) [] L4) (fun od L5 => bindR (optT qLimit limM (-1) L5) fun lim L6 => endM ⟨it, wh, gr, od, lim⟩ L6))) L3 = some R := by
        cases L3 with
        | nil => cases h3
        | cons u L3 =>
          rw [needT] at h3 ⊢
          split at h3
          · rename_i hu; rw [if_pos hu]; exact h3
          · rename_i hu; rw [if_neg hu]; exact h3
      refine pneed1 h3' S18 (fun L5 w19 hL5 h5 S19 => .inl ⟨rfl, _, S19.cell 4 rfl rfl, ?_⟩) (fun ch w' hB => .inr ⟨_, rfl, bad hB fun _ => id⟩)
      have hl5 := len1 hL5
      refine plist_go (H := H) (P := fun D H' => ∃ q K, H' = q.its b4 b2 b b3 ++ (K ++ H) ∧ QSem it wh D [] (-1) q K) he2 (fun L R hh => pt_suf _ (.E 1) _ _ hh) ?_ ?_ h5 (hs3.tail.suf hL5) (by omega) ⟨q, K, rfl, Q⟩ S19 ?_ (fun ch w' hB => .inr ⟨_, rfl, hB⟩)
      · rintro D _ ⟨q, K, rfl, _⟩
        exact ⟨q.its b4 b2 b b3 ++ K, by rw [List.append_assoc]⟩
      · rintro D _ L R w ⟨q, K, rfl, Q⟩ hsL hN hr S
        refine (pc2_P hr hsL hN E Q S).mono ?_
        rintro _ w' (⟨_, rfl, rfl, i, L', q', K', hR, Q', S'⟩ | ⟨ch, rfl, hB⟩)
        · exact .inl ⟨_, rfl, rfl, i, L', _, hR, ⟨q', K', rfl, Q'⟩, S'⟩
        · exact .inr ⟨_, rfl, hB⟩
      rintro gr L6 _ w20 hL6 h6 ⟨q, K, rfl, Q⟩ S20
      have hl6 := len1 hL6
      exact .inl ⟨rfl, gr, L6, q, K, h6, (hs3.tail.suf hL5).suf hL6, by omega, Q, S20⟩
    · rw [if_neg ht] at h3
      exact ptakeN S16 (by simpa using ht) fun w17 S17 => .inl ⟨_, rfl, IFB_false ⟨[], _, q, K, h3, hs3, by simp only [List.length_cons]; omega, Q, S17⟩⟩
  clear S16 h3 Q hs3 hl3
  rintro w21 ⟨gr, L4, q, K, h4, hs4, hl4, Q, S21⟩
  -- order
  refine ⟨fun _ w => ∃ od L5 q K, bindR (optT qLimit limM (-1) L5) (fun lim L6 => endM ⟨it, wh, gr, od, lim⟩ L6) = some R ∧ SmT L5 ∧ L5.length ≤ 5000 ∧ QSem it wh gr od (-1) q K ∧ PS w0 w b L5 (q.its b4 b2 b b3 ++ (K ++ H)), ⟨_, S21.cell 4 rfl rfl, ?_⟩, ?_⟩
  · cases L4 with
    | nil => cases h4
    | cons t L4 =>
    rw [optT] at h4
    simp only [List.length_cons] at hl4
    by_cases ht : isB t qOrder = true
    · rw [if_pos ht] at h4
      refine ptakeY S21 ht fun w22 S22 => .inl ⟨_, rfl, IFB_true ⟨_, S22.cell 4 rfl rfl, S22.newB fun b43 w23 S23 => ?_⟩⟩
      have h4' : needT qBy (fun L => bindR (listM (keyM it) m L) (fun od L5 => bindR (optT qLimit limM (-1) L5) fun lim L6 => endM ⟨it, wh, gr, od, lim⟩ L6)) L4 = some R := by
        cases L4 with
        | nil => cases h4
        | cons u L4 =>
          rw [needT] at h4 ⊢
          split at h4
          · rename_i hu; rw [if_pos hu]; exact h4
          · rename_i hu; rw [if_neg hu]; exact h4
      refine pneed1 h4' S23 (fun L5 w24 hL5 h5 S24 => .inl ⟨rfl, _, S24.cell 4 rfl rfl, ?_⟩) (fun ch w' hB => .inr ⟨_, rfl, bad hB fun _ => id⟩)
      have hl5 := len1 hL5
      refine plist_go (H := H) (P := fun D H' => ∃ q K, H' = q.its b4 b2 b b3 ++ (K ++ H) ∧ QSem it wh gr D (-1) q K ∧ it.length ≤ 10000) he3 (fun L R hh => key_suf hh) ?_ ?_ h5 (hs4.tail.suf hL5) (by omega) ⟨q, K, rfl, Q, hitl⟩ S24 ?_ (fun ch w' hB => .inr ⟨_, rfl, hB⟩)
      · rintro D _ ⟨q, K, rfl, _⟩
        exact ⟨q.its b4 b2 b b3 ++ K, by rw [List.append_assoc]⟩
      · rintro D _ L R w ⟨q, K, rfl, Q, hit⟩ hsL hN hr S
        refine (pc3_P hr hsL hit hN E Q S).mono ?_
        rintro _ w' (⟨_, rfl, rfl, i, L', q', K', hR, Q', S'⟩ | ⟨ch, rfl, hB⟩)
        · exact .inl ⟨_, rfl, rfl, i, L', _, hR, ⟨q', K', rfl, Q', hit⟩, S'⟩
        · exact .inr ⟨_, rfl, hB⟩
      rintro od L6 _ w25 hL6 h6 ⟨q, K, rfl, Q, _⟩ S25
      have hl6 := len1 hL6
      exact .inl ⟨rfl, od, L6, q, K, h6, (hs4.tail.suf hL5).suf hL6, by omega, Q, S25⟩
    · rw [if_neg ht] at h4
      exact ptakeN S21 (by simpa using ht) fun w22 S22 => .inl ⟨_, rfl, IFB_false ⟨[], _, q, K, h4, hs4, by simp only [List.length_cons]; omega, Q, S22⟩⟩
  clear S21 h4 Q hs4 hl4
  rintro w26 ⟨od, L5, q, K, h5, hs5, hl5, Q, S26⟩
  -- limit
  refine ⟨fun _ w => ∃ lim L6 q K, endM ⟨it, wh, gr, od, lim⟩ L6 = some R ∧ QSem it wh gr od lim q K ∧ PS w0 w b L6 (q.its b4 b2 b b3 ++ (K ++ H)), ⟨_, S26.cell 4 rfl rfl, ?_⟩, ?_⟩
  · cases L5 with
    | nil => cases h5
    | cons t L5 =>
    rw [optT] at h5
    by_cases ht : isB t qLimit = true
    · rw [if_pos ht] at h5
      refine ptakeY S26 ht fun w27 S27 => .inl ⟨_, rfl, IFB_true ⟨_, S27.cell 4 rfl rfl, ?_⟩⟩
      rcases bindR_open h5 with ⟨a, hr, rfl⟩ | ⟨lim, L6, hr, h6⟩
      · refine (plimit_P hr hs5.tail E S27).mono ?_
        rintro _ w28 (⟨_, rfl, n, L', hR, _⟩ | ⟨ch, rfl, a', ha, hc, S'⟩)
        · cases hR
        · cases ha; exact .inr ⟨_, rfl, bad ⟨_, rfl, hc, S'⟩ fun _ => id⟩
      · refine (plimit_P hr hs5.tail E S27).mono ?_
        rintro _ w28 (⟨_, rfl, n, L', hR, hn, rfl, S28⟩ | ⟨ch, rfl, a', ha, _⟩)
        · cases hR
          exact .inl ⟨_, rfl, S28.sto 3 rfl (i := 4) (cs' := #[.slice q.ai q.ni q.ci, .slice q.aw q.nw q.cw, .slice q.ag q.ng q.cg, .slice q.ao q.no q.co, .int .i64 lim]) (by simp) rfl fun w29 S29 => ⟨lim, L6, { q with lim := lim }, K, h6, ⟨Q.ni, Q.nw, Q.ng, Q.no, Q.it, Q.wh, Q.gr, Q.od, rfl, hn⟩, S29⟩⟩
        · cases ha
    · rw [if_neg ht] at h5
      exact ptakeN S26 (by simpa using ht) fun w27 S27 => .inl ⟨_, rfl, IFB_false ⟨-1, t :: L5, q, K, h5, Q, S27⟩⟩
  clear S26 h5 Q hs5 hl5
  rintro w30 ⟨lim, L6, q, K, h6, Q, S30⟩
  cases L6 with
  | nil => cases h6
  | cons t L6 =>
  rw [endM] at h6
  refine ⟨_, S30.cell 4 rfl rfl, (pnext_ok S30).mono ?_⟩
  rintro _ w31 ⟨_, rfl, rfl, S31⟩
  refine .inl ⟨_, _, _, rfl, S31.lit3 fun b65 w35 S35 => ⟨_, S35.cell 0 rfl rfl, IFB_ne (fun h0 => ⟨_, S35.cell 0 rfl rfl, ?_⟩) (fun h0 => ?_)⟩⟩
  · rw [if_neg h0] at h6
    exact ⟨_, (Option.some.inj h6).symm, rfl, ST.tail (A := _ :: (q.its b4 b2 b b3 ++ K)) (by rw [List.cons_append, List.append_assoc]; exact S35.st)⟩
  rw [if_pos h0] at h6
  refine ⟨_, _, _, S35.cell 4 rfl rfl, _, _, _, S35.cell 4 rfl rfl, _, _, _, S35.cell 4 rfl rfl, _, _, _, S35.cell 4 rfl rfl, _, S35.cell 4 rfl rfl, S35.sto5 6 rfl fun w40 S40 => ⟨_, _, _, S40.cell 6 rfl rfl, _, _, _, S40.cell 6 rfl rfl, _, _, _, S40.cell 6 rfl rfl, _, _, _, S40.cell 6 rfl rfl, _, S40.cell 6 rfl rfl, ⟨it, wh, gr, od, lim⟩, t :: L6, q.ai, q.aw, q.ag, q.ao, q.ci, q.cw, q.cg, q.co, itemsI q.ai q.ni q.ci q.rs :: exsI q.ag q.ng q.cg q.gs :: keysI q.ao q.no q.co q.os :: K, (Option.some.inj h6).symm, ?_, ?_, ?_⟩⟩
  · simp only [quL, Q.ni, Q.nw, Q.ng, Q.no, Q.lim.1]
  · intro w'' hok
    have r1 : Row w'' ty.api_Item 8 q.ai q.ni q.ci q.rs := hok (itemsI q.ai q.ni q.ci q.rs) (by simp)
    have r2 : Row w'' ty.api_Expr 6 q.ag q.ng q.cg q.gs := hok (exsI q.ag q.ng q.cg q.gs) (by simp)
    have r3 : Row w'' ty.api_Key 2 q.ao q.no q.co q.os := hok (keysI q.ao q.no q.co q.os) (by simp)
    have hk : ∀ x ∈ K, x.ok w'' := fun x hx => hok x (by simp [hx])
    have m1 := row_max r1
    have m2 := row_max r2
    have m3 := row_max r3
    rw [Q.ni] at m1
    rw [Q.ng] at m2
    rw [Q.no] at m3
    exact ⟨⟨_, r1.rd, Q.it w'' hk⟩, Q.wh w'' hk, ⟨_, r2.rd, Q.gr w'' hk⟩, ⟨_, r3.rd, Q.od⟩, m1, by show wh.length ≤ _; omega, m2, m3, Q.lim.2⟩
  · have S41 := S40.drop 1
    exact S41.sub (.cons_cons _ (.cons_cons _ (.cons_cons _ (.cons _ (.cons _ (.cons _ (.refl _)))))))
def qEnd (l : List UInt8) (n : Nat) : Nat := if quoteN (l.drop n) = 0 then 0 else quoteN (l.drop n) + n
section
variable {w : World} {s : ByteArray}
theorem pclosed_ok (hs : s.size ≤ 9223372036854775800) (h0 : 0 < s.size) : Calls Tryz.prog f.query_closed #[.string s] w (Ret fun r w' => r = .int .i64 ((qEnd (bl s) 1 : Nat) : Int) ∧ w' = w) := by
  apply R.query_closed_calls
  unfold R.query_closed
  have hbl := bl_length s
  refine ⟨fun st w' => ∃ n : Nat, st = [.int .i64 (n : Int)] ∧ n ≤ s.size ∧ qEnd (bl s) n = qEnd (bl s) 1 ∧ w' = w, fun st _ => match st with | [.int _ t] => s.size - t.toNat | _ => 0, ⟨1, rfl, by omega, rfl, rfl⟩, ?_⟩
  rintro _ w1 ⟨n, hst, hn, hq, rfl⟩
  cases hst
  refine IFB_dec (fun hlt => ⟨⟨by omega, hlt⟩, ?_⟩) (fun hge => ⟨?_, rfl⟩)
  · have hnl : n < (bl s).length := by omega
    have hd : (bl s).drop n = (bl s)[n] :: (bl s).drop (n + 1) := List.drop_eq_getElem_cons hnl
    have hw : IntKind.i64.wrap ((n : Int) + 1) = ((n + 1 : Nat) : Int) := wrap_succ (by omega)
    rw [Int.toNat_natCast, sget_at (by omega), hw]
    refine IFB_ne (fun h39 => ⟨⟨n + 1, rfl, by omega, ?_, rfl⟩, by show s.size - ((n + 1 : Nat) : Int).toNat < s.size - ((n : Nat) : Int).toNat; omega⟩) (fun h39 => ?_)
    · rw [← hq, qEnd, qEnd, hd, quoteN_other (by omega)]
      by_cases hz : quoteN ((bl s).drop (n + 1)) = 0
      · rw [if_pos hz, if_pos hz, if_pos rfl]
      · rw [if_neg hz, if_neg hz, if_neg (by omega)]; omega
    · have h39 : (bl s)[n].toNat = 39 := by omega
      refine IFB_eq (fun he => ⟨?_, rfl⟩) (fun hne => ⟨⟨by omega, by omega⟩, ?_⟩)
      · have hnil : (bl s).drop (n + 1) = [] := List.drop_eq_nil_of_le (by omega)
        rw [← hq, qEnd, hd, hnil, quoteN_end h39, if_neg (by omega), Nat.add_comm]
      · have hn2 : n + 1 < (bl s).length := by omega
        have hd2 : (bl s).drop (n + 1) = (bl s)[n + 1] :: (bl s).drop (n + 2) := List.drop_eq_getElem_cons hn2
        have hw2 : IntKind.i64.wrap (((n + 1 : Nat) : Int) + 1) = ((n + 2 : Nat) : Int) := wrap_succ (by omega)
        rw [Int.toNat_natCast, sget_at (by omega), hw2]
        refine IFB_ne (fun h2 => ⟨?_, rfl⟩) (fun h2 => ⟨⟨n + 2, rfl, by omega, ?_, rfl⟩, by show s.size - ((n + 2 : Nat) : Int).toNat < s.size - ((n : Nat) : Int).toNat; omega⟩)
        · rw [← hq, qEnd, hd, hd2, quoteN_one h39 (by omega), if_neg (by omega), Nat.add_comm]
        · rw [← hq, qEnd, qEnd, hd, hd2, quoteN_two h39 (by omega)]
          by_cases hz : quoteN ((bl s).drop (n + 2)) = 0
          · rw [if_pos hz, if_pos hz, if_pos rfl]
          · rw [if_neg hz, if_neg hz, if_neg (by omega)]; omega
  · rw [← hq, qEnd, List.drop_eq_nil_of_le (by omega)]
    rfl
theorem pfirstG_ok (h0 : 0 < s.size) (hs : s.size ≤ 9223372036854775800) : Calls Tryz.prog f.query_first #[.string s] w (Ret fun r w' => r = .tuple #[.int .i64 (sortG (bl s)), .int .i64 (((lenT (bl s)).1 : Nat) : Int)] ∧ w' = w) := by
  apply R.query_first_calls
  unfold R.query_first
  obtain ⟨c, r, hcr⟩ : ∃ c r, bl s = c :: r := by
    cases h : bl s with
    | nil => have := bl_length s; rw [h] at this; simp at this; omega
    | cons c r => exact ⟨c, r, rfl⟩
  have hlen : s.size = r.length + 1 := by rw [← bl_length, hcr]; simp
  have g0 : sget s 0 = c := by rw [sget_eq, hcr]; rfl
  have e : ((sget s 0).toNat : Int).toNat.toUInt8 = c := by rw [g0]; simp
  refine ⟨⟨by omega, by omega⟩, (Tryz.strings_IndexByte lettersS ((sget s 0).toNat : Int) w).mono ?_⟩
  rintro _ w1 ⟨rfl, rfl⟩
  refine ⟨_, rfl, ?_⟩
  rw [e, set_let]
  unfold lenT sortG
  rw [hcr]
  refine IFB_of (fun h1 => call0 (pspan_ok set_word hs) ⟨_, rfl, ?_, rfl⟩) (fun h1 => (Tryz.strings_IndexByte digS ((sget s 0).toNat : Int) w1).mono ?_)
  · have hw : wordCh c = true := by simp [wordCh, h1]
    simp only [h1, if_true, hcr, runN, hw]
  rintro _ w3 ⟨rfl, rfl⟩
  refine ⟨_, rfl, ?_⟩
  rw [e, set_dig]
  refine IFB_of (fun h2 => call0 (pspan_ok set_dig hs) ⟨_, rfl, ?_, rfl⟩) (fun h2 => IFB_eq (fun h39 => ?_) (fun h39 => call0 (phas_ok _ (by omega)) ⟨_, rfl, ?_⟩))
  · simp only [h1, h2, if_true, hcr, Bool.false_eq_true, if_false, runN]
  · have h39 : c.toNat = 39 := by rw [g0] at h39; omega
    refine call0 (pclosed_ok hs h0) ⟨_, rfl, ?_, rfl⟩
    simp only [h1, h2, h39, if_true, Bool.false_eq_true, if_false]
    rw [hcr, qEnd]
    show Value.tuple #[.int .i64 3, .int .i64 ((if quoteN r = 0 then 0 else quoteN r + 1 : Nat) : Int)] = _
    by_cases hz : quoteN r = 0
    · rw [if_pos hz, if_pos hz]
    · rw [if_neg hz, if_neg hz]
  have h39 : c.toNat ≠ 39 := by rw [g0] at h39; omega
  have hx : (decide ((⟨#[60, 61]⟩ : ByteArray).size ≤ s.size) && decide (s.extract 0 (⟨#[60, 61]⟩ : ByteArray).size = ⟨#[60, 61]⟩)) = decide (c.toNat = 60 ∧ 1 ≤ r.length ∧ (r.getD 0 0).toNat = 61) := by
    rw [Bool.eq_iff_iff, Bool.and_eq_true, decide_eq_true_eq, decide_eq_true_eq, decide_eq_true_eq, extract_eq, hcr]
    show (2 ≤ s.size ∧ sof (((c :: r).drop 0).take (2 - 0)) = ⟨#[60, 61]⟩) ↔ _
    rw [List.drop_zero, Nat.sub_zero]
    constructor
    · rintro ⟨_, h⟩
      have := congrArg bl h
      rw [bl_sof] at this
      have this : (c :: r).take 2 = [60, 61] := this
      cases r with
      | nil => simp at this
      | cons d r =>
        simp at this
        obtain ⟨rfl, rfl⟩ := this
        simp
    · rintro ⟨h1, h2, h3⟩
      cases r with
      | nil => simp at h2
      | cons d r =>
        simp only [List.getD_cons_zero] at h3
        have hc : c = 60 := UInt8.toNat_inj.1 (by rw [h1]; rfl)
        have hd : d = 61 := UInt8.toNat_inj.1 (by rw [h3]; rfl)
        subst hc hd
        refine ⟨by rw [hlen]; simp, rfl⟩
  rw [hx]
  refine IFB_dec (fun h3 => ⟨?_, rfl⟩) (fun h3 => (Tryz.strings_IndexByte signS ((sget s 0).toNat : Int) w3).mono ?_)
  · simp only [h1, h2, h39, h3, Bool.false_eq_true, if_false, and_self, if_true]
    rfl
  rintro _ w7 ⟨rfl, rfl⟩
  refine ⟨_, rfl, ?_⟩
  rw [e, set_sign]
  refine IFB_of (fun h4 => ⟨?_, rfl⟩) (fun h4 => ⟨?_, rfl⟩)
  · simp only [h1, h2, h39, h3, h4, Bool.false_eq_true, if_false, if_true]
    rfl
  · simp only [h1, h2, h39, h3, h4, Bool.false_eq_true, if_false]
    rfl
end
theorem ptokG_c1 {w0 w : World} {s : ByteArray} {T : List Tk} {L b : Nat} {I : List Tk → List It → Prop} {J : List It → Prop} (hT : Lx (bl s) 0 T) (hs : s.size ≤ 9223372036854775800) (hy : Yld w0 L T (fun t vs => vs = [tkV t]) I J) {HN B : List It} (hI : I [] B) (S : ST w0 w (It.cells b #[.string s] ty.string :: (HN ++ B))) :
    Calls Tryz.prog f.query_tokens_c1 #[.func (.yield L) #[] #[], .pointer (some ⟨b, 0, none⟩)] w (Ret fun _ w' => ∃ B', ST w0 w' (HN ++ B') ∧ (I T B' ∨ J B')) := by
  apply R.query_tokens_c1_calls
  unfold R.query_tokens_c1
  have hbl := bl_length s
  refine ⟨fun st w => ∃ (n : Nat) (D rest : List Tk) (B' : List It), st = [.int .i64 (n : Int)] ∧ n ≤ s.size ∧ Lx ((bl s).drop n) n rest ∧ T = D ++ rest ∧ I D B' ∧ ST w0 w (It.cells b #[.string s] ty.string :: (HN ++ B')), fun st _ => match st with | [.int _ t] => s.size - t.toNat | _ => 0, ⟨0, [], T, B, rfl, by omega, hT, rfl, hI, S⟩, ?_⟩
  rintro at_ w1 ⟨n, D, rest, B1, hst, hn, hk, hTD, hI1, S1⟩
  cases hst
  obtain ⟨l, hl⟩ : ∃ l, l = (bl s).drop n := ⟨_, rfl⟩
  have hll : l.length = s.size - n := by rw [hl, List.length_drop]; omega
  have hle := runN_le blankCh l
  rw [← hl] at hk
  have hk := hk.skip
  obtain ⟨m, hm⟩ : ∃ m, m = runN blankCh l := ⟨_, rfl⟩
  have hhead : ∀ {c r}, l.drop m = c :: r → blankCh c = false := fun h => runN_head (by rw [← hm]; exact h)
  rw [← hm] at hk hle
  refine ⟨_, S1.cell 0 rfl rfl, ⟨by omega, by omega, by omega⟩, ?_⟩
  have hse : (s.extract n s.size).size = s.size - n := by rw [← bl_length, bl_extract]; simp [bl_length]
  have hbe : bl (s.extract n s.size) = l := by rw [bl_extract, ← hl, List.take_of_length_le (by omega)]
  rw [Int.toNat_natCast]
  refine call0 (pspan_ok (s := s.extract n s.size) (am := ⟨#[32, 10]⟩) set_blank (by omega)) ⟨_, rfl, _, S1.cell 0 rfl rfl, ?_⟩
  rw [hbe, ← hm]
  have ew : IntKind.i64.wrap ((n : Int) + (m : Int)) = ((n + m : Nat) : Int) := by rw [wrap_i64 (by omega) (by omega)]; omega
  rw [ew]
  have hyl : ∀ {x : Tk} {rest' : List Tk} {w2 : World}, rest = x :: rest' → ST w0 w2 (It.cells b #[.string s] ty.string :: (HN ++ B1)) → YLD Tryz.prog L #[tkV x] (fun y w' => ∃ B', ST w0 w' (It.cells b #[.string s] ty.string :: (HN ++ B')) ∧ ((y = true ∧ I (D ++ [x]) B') ∨ (y = false ∧ J B'))) w2 := fun hr S2 => hy D _ _ [tkV _] (It.cells b #[.string s] ty.string :: HN) B1 _ (by rw [hTD, hr]) hI1 S2 rfl
  refine IFB_eq (fun he => ?_) (fun hne => ?_)
  · have hnil : l.drop m = [] := List.drop_eq_nil_of_le (by omega)
    rw [hnil] at hk
    obtain rfl : rest = [(((n + m : Nat) : Int), 0, E0)] := by cases hk; rfl
    refine (hyl rfl S1).mono ?_
    rintro y w3 ⟨B', S3, ⟨_, hI3⟩ | ⟨_, hJ⟩⟩
    · exact ⟨B', S3.drop 1, .inl (by rw [hTD]; exact hI3)⟩
    · exact ⟨B', S3.drop 1, .inr hJ⟩
  · have hml : m < l.length := by omega
    have hse2 : (s.extract (n + m) s.size).size = s.size - (n + m) := by rw [← bl_length, bl_extract]; simp [bl_length]
    have hdd : l.drop m = (bl s).drop (n + m) := by rw [hl, List.drop_drop]
    have hbe2 : bl (s.extract (n + m) s.size) = l.drop m := by rw [bl_extract, ← hdd, List.take_of_length_le (by rw [List.length_drop]; omega)]
    obtain ⟨q, hqq⟩ : ∃ q, q = lenT (l.drop m) := ⟨_, rfl⟩
    have hql : q.1 ≤ s.size - (n + m) := by
      have := lenT_le (l.drop m)
      rw [← hqq, List.length_drop] at this
      omega
    refine ⟨_, S1.cell 0 rfl rfl, ⟨by omega, by omega, by omega⟩, ?_⟩
    rw [Int.toNat_natCast]
    refine call0 (pfirstG_ok (s := s.extract (n + m) s.size) (by omega) (by omega)) ⟨_, _, rfl, _, S1.cell 0 rfl rfl, ?_⟩
    rw [hbe2, ← hqq]
    have ew2 : IntKind.i64.wrap (((n + m : Nat) : Int) + (q.1 : Int)) = ((n + m + q.1 : Nat) : Int) := by rw [wrap_i64 (by omega) (by omega)]; omega
    rw [ew2, Int.toNat_natCast]
    refine ⟨⟨by omega, by omega, by omega⟩, ?_⟩
    have hex : s.extract (n + m) (n + m + q.1) = sof ((l.drop m).take q.1) := by rw [extract_eq, hdd, Nat.add_sub_cancel_left]
    rw [hex]
    obtain ⟨c, r, hcr⟩ : ∃ c r, l.drop m = c :: r := by
      cases h : l.drop m with
      | nil => have := congrArg List.length h; simp only [List.length_drop, List.length_nil] at this; omega
      | cons c r => exact ⟨c, r, rfl⟩
    have hb := hhead hcr
    rw [hcr] at hk hqq ⊢
    by_cases hz : q.1 = 0
    · have hr : rest = [(((n + m : Nat) : Int), sortG (c :: r), E0)] := by
        cases hk with
        | blank h _ => rw [hb] at h; cases h
        | tok _ h _ => exact absurd (by rw [← hqq]; exact hz) h
        | bad _ _ => rfl
      rw [hz, List.take_zero]
      refine (hyl hr S1).mono ?_
      rintro y w5 ⟨B', S5, ⟨rfl, hI5⟩ | ⟨rfl, hJ⟩⟩
      · exact IFB_not (IFB_true (IFB_eq (fun _ => ⟨B', S5.drop 1, .inl (by rw [hTD, hr]; exact hI5)⟩) (fun h => absurd rfl h)))
      · exact IFB_not (IFB_false ⟨B', S5.drop 1, .inr hJ⟩)
    · obtain ⟨T', hr, hk'⟩ : ∃ T', rest = (((n + m : Nat) : Int), sortG (c :: r), sof ((c :: r).take q.1)) :: T' ∧ Lx ((c :: r).drop q.1) (n + m + q.1) T' := by
        cases hk with
        | blank h _ => rw [hb] at h; cases h
        | tok _ h hk2 => exact ⟨_, by rw [sort_len h, hqq], by rw [hqq]; exact hk2⟩
        | bad _ h => exact absurd (by rw [hqq]; exact h) hz
      refine (hyl hr S1).mono ?_
      rintro y w5 ⟨B', S5, ⟨rfl, hI5⟩ | ⟨rfl, hJ⟩⟩
      · refine IFB_not (IFB_true (IFB_eq (fun h => absurd h (by omega)) (fun _ => ⟨⟨n + m + q.1, D ++ [_], T', B', rfl, by omega, ?_, by rw [hTD, hr]; simp, hI5, S5⟩, by simp only [Int.toNat_natCast]; omega⟩)))
        rw [← hcr, hdd, List.drop_drop] at hk'
        exact hk'
      · exact IFB_not (IFB_false ⟨B', S5.drop 1, .inr hJ⟩)
theorem read_idle (p q r : Addr) (w : World) :
    CallsD Tryz.prog 99 #[.pointer (some p), .pointer (some q), .pointer (some r)] .returning w fun e u' w' => e = .returned (.tuple #[]) ∧ u' = .returning ∧ w' = w := by
  refine callsD_of_wpS Tryz.func99 rfl fun c₀ cs hu => ?_
  apply wpS_seq
  apply wpS_region
  simp [wpOpsS, go_sem, recoverD, hu, Tryz.ntmps99, Exit.thenS]
  refine wpS_of_wp ?_
  go_wp2
  cases c₀
  simp_all [bodyPostS, results, Tryz.results99]
theorem pread_ok {w0 w : World} {H : List It} (E : Env w0) {x : Option Addr} {c : Nat} (S : ST w0 w (It.rd x (tksL T1) :: H)) (hc : T1.length ≤ c) (hc2 : c ≤ 9223372036854775807) : Calls Tryz.prog 60 #[.slice x T1.length c] w (Ret fun v w' => ∃ a cap K a1 c1 ag cg ao co, mulR a cap K ∧ v = .tuple #[.agg ⟨quL Q1 a1 none ag ao c1 0 cg co⟩, .int .i64 0, .bool true] ∧ ST w0 w' (QL a cap K a1 c1 ag cg ao co ++ H)) := by
  have hmf : ∀ (fn : Fn) (first cap : Array Value) (w : World), (Instr.makeFunc fn first cap).run Tryz.prog w = .ok (.func fn first cap) w := fun _ _ _ _ => rfl
  have key : NEWB #[.slice none 0 0, .slice none 0 0, .slice none 0 0, .slice none 0 0, .int .i64 0] ty.api_Query (fun b1 w1 => NEWB #[.int .i64 0] ty.int (fun b2 w2 => NEWB #[.bool false] ty.bool (fun b3 w3 => NEWB #[.slice x T1.length c] ty.query_parser (fun b4 w4 => ST w0 w4 [It.cells b4 #[.slice x T1.length c] ty.query_parser, It.cells b3 #[.bool false] ty.bool, It.cells b2 #[.int .i64 0] ty.int, zqb b1] ∧ ST w0 w4 (It.cells b4 #[.slice x T1.length c] ty.query_parser :: It.cells b3 #[.bool false] ty.bool :: It.cells b2 #[.int .i64 0] ty.int :: zqb b1 :: It.rd x (tksL T1) :: H)) w3) w2) w1) w :=
    S.newB fun b1 w1 _ _ S1 => S1.newB fun b2 w2 _ _ S2 => S2.newB fun b3 w3 _ _ S3 => S3.newB fun b4 w4 _ _ S4 => ⟨S4.sub (.cons_cons _ (.cons_cons _ (.cons_cons _ (.cons_cons _ (List.nil_sublist _))))), S4⟩
  unfold NEWB at key
  simp only [World.size_alloc] at key
  obtain ⟨_, S4⟩ := key
  have P4 : PS w0 _ _ T1 _ := ⟨x, c, hc, hc2, S4.pull 4 rfl |>.pull 1 rfl⟩
  generalize hn : T1.length = n at *
  go_enter_defers Tryz.func60, Tryz.ntmps60
  go_wp2_with (fail)
  refine (pquery_ok pplain_one pconst_one E P4).mono ?_
  rintro _ w5 ⟨_, rfl, a, cap, K, a1, c1, ag, cg, ao, co, hR, rfl, P5⟩
  have st1 : STOREC (quL Q1 a1 none ag ao c1 0 cg co) ⟨w.heap.size, 0, none⟩ 0 (fun w6 => PS w0 w6 (w.heap.size + 1 + 1 + 1) [kEnd] (It.cells w.heap.size ⟨quL Q1 a1 none ag ao c1 0 cg co⟩ ty.api_Query :: It.cells (w.heap.size + 1) #[.int .i64 0] ty.int :: It.cells (w.heap.size + 1 + 1) #[.bool false] ty.bool :: (QL a cap K a1 c1 ag cg ao co ++ H))) w5 := by
    have P6 := (PS.front [It.cells (w.heap.size + 1 + 1) #[.bool false] ty.bool, It.cells (w.heap.size + 1) #[.int .i64 0] ty.int, zqb w.heap.size] P5)
    exact PS.sto5 ((P6.perm (List.Perm.swap _ _ _)).perm ((List.Perm.cons _ (List.Perm.swap _ _ _)).trans (List.Perm.swap _ _ _))) 0 rfl fun w6 S6 => S6.perm (List.Perm.cons _ (List.Perm.refl _))
  obtain ⟨w6, S6, hr6⟩ := STOREC_run (P := Tryz.prog) _ _ _ _ _ st1
  obtain ⟨_, z2, S7⟩ := S6.sto 1 rfl (i := 0) (v := .int .i64 0) (cs' := #[.int .i64 0]) (by simp) rfl fun w7 S7 => S7
  have c2 := S6.cell 1 rfl (i := 0) rfl
  obtain ⟨_, z3, S8⟩ := S7.sto 2 rfl (i := 0) (v := .bool true) (cs' := #[.bool true]) (by simp) rfl fun w8 S8 => S8
  have c3 := S7.cell 2 rfl (i := 0) rfl
  go_wp2_with (fail)
  generalize (w6.setCell ⟨w.heap.size + 1, 0, none⟩ (.int .i64 0)).setCell ⟨w.heap.size + 1 + 1, 0, none⟩ (.bool true) = w8 at S8 ⊢
  have d0 : w8.cell? ⟨w.heap.size, 0, none⟩ = some (.slice a1 1 c1) := S8.cell 0 rfl rfl
  have d1 : w8.cell? ⟨w.heap.size, 1, none⟩ = some (.slice none 0 0) := S8.cell 0 rfl rfl
  have d2 : w8.cell? ⟨w.heap.size, 2, none⟩ = some (.slice ag 1 cg) := S8.cell 0 rfl rfl
  have d3 : w8.cell? ⟨w.heap.size, 3, none⟩ = some (.slice ao 1 co) := S8.cell 0 rfl rfl
  have d4 : w8.cell? ⟨w.heap.size, 4, none⟩ = some (.int .i64 (-1)) := S8.cell 0 rfl rfl
  have d5 : w8.cell? ⟨w.heap.size + 1, 0, none⟩ = some (.int .i64 0) := S8.cell 1 rfl rfl
  have d6 : w8.cell? ⟨w.heap.size + 1 + 1, 0, none⟩ = some (.bool true) := S8.cell 2 rfl rfl
  have S9 : ST w0 w8 (QL a cap K a1 c1 ag cg ao co ++ H) := by
    obtain ⟨_, _, _, _, S9⟩ := S8.drop 3
    exact S9.drop 2
  refine leaves_cons (f := 99) (args := #[.pointer (some ⟨w.heap.size, 0, none⟩), .pointer (some ⟨w.heap.size + 1, 0, none⟩), .pointer (some ⟨w.heap.size + 1 + 1, 0, none⟩)]) (by simp) (by simp [go_sem]) ?_
  refine (read_idle _ _ _ _).mono ?_
  rintro e u' w'' ⟨rfl, rfl, rfl⟩
  simp [Leaves, settle, results, Tryz.results60, go_sem, d0, d1, d2, d3, d4, d5, d6]
  exact ⟨_, rfl, a, cap, K, hR, a1, c1, ag, cg, ao, co, rfl, S9⟩
theorem assert_wrong (a : Int) (w : World) : (Instr.typeAssert (.iface 142 (.agg #[.int .i64 a])) 20 142 true).run Tryz.prog w = .ok (.tuple #[.agg #[.int .i64 a], .bool true]) w := by kernel_rfl
theorem not_nil (a : Int) (w : World) : (binOp .eql 20 (.iface 142 (.agg #[.int .i64 a])) .nilIface).run Tryz.prog w = .ok (.bool false) w := by kernel_rfl
def r7 : Code := .region 7
  #[{ dst := some 12, op := .build 27 #[], type := 27, pos := "query.go:372", after := #[], guard := none },
    { dst := some 13, op := .fieldAddr 142 (.tmp 4) 0, type := 0, pos := "query.go:372", after := #[{ on := 3, ground := .gcOnly .lateStores }], guard := none },
    { dst := some 14, op := .load 3 (.tmp 13), type := 3, pos := "query.go:372", after := #[{ on := 1, ground := .data }, { on := 3, ground := .gcOnly .lateStores }], guard := none },
    { dst := none, op := .store 27 (.tmp 0) (.tmp 12), type := 0, pos := "query.go:372", after := #[{ on := 0, ground := .data }, { on := 0, ground := .phase }, { on := 1, ground := .textOnly .lateStores }, { on := 2, ground := .textOnly .lateStores }], guard := none },
    { dst := none, op := .store 3 (.tmp 1) (.tmp 14), type := 0, pos := "query.go:372", after := #[{ on := 2, ground := .data }, { on := 3, ground := .chain }, { on := 0, ground := .phase }, { on := 1, ground := .phase }, { on := 2, ground := .phase }, { on := 3, ground := .phase }], guard := none },
    { dst := none, op := .store 4 (.tmp 2) (.const (.bool false)), type := 0, pos := "query.go:372", after := #[{ on := 4, ground := .chain }, { on := 0, ground := .phase }, { on := 1, ground := .phase }, { on := 2, ground := .phase }, { on := 3, ground := .phase }, { on := 4, ground := .phase }], guard := none }]
  true
def wrongK (bp bq br N : Nat) (Post : World → Prop) (w0 : World) : Prop :=
  DRAW (fun w1 => ∃ t : Int, w1.cell? ⟨N, 0, none⟩ = some (.int .i64 t) ∧ STO ⟨bp, 0, none⟩ (.slice none 0 0) (fun w2 => STO ⟨bp, 1, none⟩ (.slice none 0 0) (fun w3 => STO ⟨bp, 2, none⟩ (.slice none 0 0) (fun w4 => STO ⟨bp, 3, none⟩ (.slice none 0 0) (fun w5 => STO ⟨bp, 4, none⟩ (.int .i64 0) (fun w6 =>
    w6.cell? ⟨N, 0, none⟩ = some (.int .i64 t) ∧ STO ⟨bq, 0, none⟩ (.int .i64 t) (fun w7 => STO ⟨br, 0, none⟩ (.bool false) (fun w8 => Post w8) w7) w6) w5) w4) w3) w2) w1) w0
theorem den_r7 {bp bq br N : Nat} {Post : World → Prop} {w : World} (h : wrongK bp bq br N Post w) : den Tryz.prog 15 [] [] r7 none (fun e _ _ w' => match e with | .normal => Post w' | _ => False) [(0, .pointer (some ⟨bp, 0, none⟩)), (1, .pointer (some ⟨bq, 0, none⟩)), (2, .pointer (some ⟨br, 0, none⟩)), (4, .pointer (some ⟨N, 0, none⟩))] [] w := Eq.mpr (by kernel_rfl) h
theorem res99 (tm : Array Value) (w : World) : (results Tryz.f99 tm).run Tryz.prog w = .ok (.tuple #[]) w := by kernel_rfl
theorem agrees4 {tm : Array Value} {v0 v1 v2 v4 : Value} (h0 : tm[0]? = some v0) (h1 : tm[1]? = some v1) (h2 : tm[2]? = some v2) (h4 : tm[4]? = some v4) : Agrees [(0, v0), (1, v1), (2, v2), (4, v4)] ⟨tm, []⟩ := by
  intro i v hv
  simp only [look_cons] at hv
  by_cases e0 : 0 = i
  · rw [if_pos e0] at hv; cases hv; rw [← e0]; exact h0
  rw [if_neg e0] at hv
  by_cases e1 : 1 = i
  · rw [if_pos e1] at hv; cases hv; rw [← e1]; exact h1
  rw [if_neg e1] at hv
  by_cases e2 : 2 = i
  · rw [if_pos e2] at hv; cases hv; rw [← e2]; exact h2
  rw [if_neg e2] at hv
  by_cases e4 : 4 = i
  · rw [if_pos e4] at hv; cases hv; rw [← e4]; exact h4
  rw [if_neg e4] at hv
  cases hv
set_option maxHeartbeats 4000000 in
theorem read_wrong {bp bq br : Nat} {a : Int} {w : World} {Post : World → Prop} (h : NEWB #[.int .i64 a] 142 (fun N w1 => wrongK bp bq br N Post w1) w) :
    CallsD Tryz.prog 99 #[.pointer (some ⟨bp, 0, none⟩), .pointer (some ⟨bq, 0, none⟩), .pointer (some ⟨br, 0, none⟩)] (.panicking (wrE a)) w fun e u' w' => e = .returned (.tuple #[]) ∧ u' = .panicking [{ v := .iface 142 (.agg #[.int .i64 a]), recovered := true }] ∧ Post w' := by
  refine callsD_of_wpS Tryz.func99 rfl fun c₀ cs hu => ?_
  apply wpS_seq
  apply wpS_region
  simp [wpOpsS, go_sem, recoverD, hu, wrE, Tryz.ntmps99, Exit.thenS]
  refine wpS_of_wp ?_
  have h0 := not_nil a w
  have h1 := assert_wrong a w
  go_wp2
  refine wpIn_wide.1 (wpIn_mono (den_sound (n := 15) (L := []) (C := []) mixed r7 none 0 _ [(0, .pointer (some ⟨bp, 0, none⟩)), (1, .pointer (some ⟨bq, 0, none⟩)), (2, .pointer (some ⟨br, 0, none⟩)), (4, .pointer (some ⟨w.heap.size, 0, none⟩))] [] _ _ ?_ ?_ rfl (den_r7 h)) ?_)
  · exact agrees4 (by simp) (by simp) (by simp) (by simp)
  · simp
  · rintro e ⟨tm, df⟩ w' ⟨hst, fr, ms, hg, hd, hk⟩
    cases e with
    | normal =>
      have hdf : df = [] := hst.defers rfl
      subst hdf
      exact ⟨rfl, _, rfl, _, res99 tm w', rfl, rfl, hk⟩
    | _ => exact hk.elim
def zeroQ : Qu := ⟨[], [], [], [], 0⟩
def ReadR (w0 : World) (H : List It) (R : RS Qu) (v : Value) (w' : World) : Prop :=
  (∃ a, R = .bad a ∧ v = .tuple #[.agg ⟨quL zeroQ none none none none 0 0 0 0⟩, .int .i64 a, .bool false] ∧ ST w0 w' H) ∨
      ∃ Q L' ai aw ag ao ci cw cg co K, R = .ok Q L' ∧ v = .tuple #[.agg ⟨quL Q ai aw ag ao ci cw cg co⟩, .int .i64 0, .bool true] ∧ (∀ w'', (∀ y ∈ K, y.ok w'') → QAt w'' Q ai aw ag ao) ∧ ST w0 w' (K ++ H)
theorem pread_G {w0 w : World} {H : List It} (E : Env2 w0) {T : List Tk} {x : Option Addr} {c : Nat} (S : ST w0 w (It.rd x (tksL T) :: H)) (hc : T.length ≤ c) (hc2 : c ≤ 9223372036854775807) {f : Nat} {R : RS Qu} (h : queryM f T = some R) (hs : SmT T) (hL : T.length ≤ 5000) :
    Calls Tryz.prog 60 #[.slice x T.length c] w (Ret (ReadR w0 H R)) := by
  have hmf : ∀ (fn : Fn) (first cap : Array Value) (w : World), (Instr.makeFunc fn first cap).run Tryz.prog w = .ok (.func fn first cap) w := fun _ _ _ _ => rfl
  have key : NEWB #[.slice none 0 0, .slice none 0 0, .slice none 0 0, .slice none 0 0, .int .i64 0] ty.api_Query (fun b1 w1 => NEWB #[.int .i64 0] ty.int (fun b2 w2 => NEWB #[.bool false] ty.bool (fun b3 w3 => NEWB #[.slice x T.length c] ty.query_parser (fun b4 w4 => ST w0 w4 (It.cells b4 #[.slice x T.length c] ty.query_parser :: It.cells b3 #[.bool false] ty.bool :: It.cells b2 #[.int .i64 0] ty.int :: zqb b1 :: It.rd x (tksL T) :: H)) w3) w2) w1) w :=
    S.newB fun b1 w1 _ _ S1 => S1.newB fun b2 w2 _ _ S2 => S2.newB fun b3 w3 _ _ S3 => S3.newB fun b4 w4 _ _ S4 => S4
  unfold NEWB at key
  simp only [World.size_alloc] at key
  have P4 : PS w0 _ _ T _ := ⟨x, c, hc, hc2, key.pull 4 rfl |>.pull 1 rfl⟩
  have hq := pquery_P h hs hL E P4
  clear P4 key S
  generalize hn : T.length = n at *
  go_enter_defers Tryz.func60, Tryz.ntmps60
  go_wp2_with (fail)
  refine hq.mono ?_
  rintro _ w5 (⟨_, rfl, Q, L', ai, aw, ag, ao, ci, cw, cg, co, K, hR, rfl, hQ, P5⟩ | ⟨ch, rfl, a, ha, rfl, S5⟩)
  · have st1 : STOREC (quL Q ai aw ag ao ci cw cg co) ⟨w.heap.size, 0, none⟩ 0 (fun w6 => ST w0 w6 (It.cells w.heap.size ⟨quL Q ai aw ag ao ci cw cg co⟩ ty.api_Query :: It.cells (w.heap.size + 1) #[.int .i64 0] ty.int :: It.cells (w.heap.size + 1 + 1) #[.bool false] ty.bool :: (K ++ H))) w5 := by
      have P6 := (PS.front [It.cells (w.heap.size + 1 + 1) #[.bool false] ty.bool, It.cells (w.heap.size + 1) #[.int .i64 0] ty.int, zqb w.heap.size] P5).st
      exact ST.sto5 ((P6.perm (List.Perm.swap _ _ _)).perm ((List.Perm.cons _ (List.Perm.swap _ _ _)).trans (List.Perm.swap _ _ _))) 0 rfl fun w6 S6 => S6.perm (List.Perm.cons _ (List.Perm.refl _))
    obtain ⟨w6, S6, hr6⟩ := STOREC_run (P := Tryz.prog) _ _ _ _ _ st1
    obtain ⟨_, z2, S7⟩ := S6.sto 1 rfl (i := 0) (v := .int .i64 0) (cs' := #[.int .i64 0]) (by simp) rfl fun w7 S7 => S7
    have c2 := S6.cell 1 rfl (i := 0) rfl
    obtain ⟨_, z3, S8⟩ := S7.sto 2 rfl (i := 0) (v := .bool true) (cs' := #[.bool true]) (by simp) rfl fun w8 S8 => S8
    have c3 := S7.cell 2 rfl (i := 0) rfl
    go_wp2_with (fail)
    generalize (w6.setCell ⟨w.heap.size + 1, 0, none⟩ (.int .i64 0)).setCell ⟨w.heap.size + 1 + 1, 0, none⟩ (.bool true) = w8 at S8 ⊢
    have d0 : w8.cell? ⟨w.heap.size, 0, none⟩ = some (.slice ai Q.it.length ci) := S8.cell 0 rfl rfl
    have d1 : w8.cell? ⟨w.heap.size, 1, none⟩ = some (.slice aw Q.wh.length cw) := S8.cell 0 rfl rfl
    have d2 : w8.cell? ⟨w.heap.size, 2, none⟩ = some (.slice ag Q.gr.length cg) := S8.cell 0 rfl rfl
    have d3 : w8.cell? ⟨w.heap.size, 3, none⟩ = some (.slice ao Q.od.length co) := S8.cell 0 rfl rfl
    have d4 : w8.cell? ⟨w.heap.size, 4, none⟩ = some (.int .i64 Q.lim) := S8.cell 0 rfl rfl
    have d5 : w8.cell? ⟨w.heap.size + 1, 0, none⟩ = some (.int .i64 0) := S8.cell 1 rfl rfl
    have d6 : w8.cell? ⟨w.heap.size + 1 + 1, 0, none⟩ = some (.bool true) := S8.cell 2 rfl rfl
    have S9 := S8.drop 3
    refine leaves_cons (f := 99) (args := #[.pointer (some ⟨w.heap.size, 0, none⟩), .pointer (some ⟨w.heap.size + 1, 0, none⟩), .pointer (some ⟨w.heap.size + 1 + 1, 0, none⟩)]) (by simp) (by simp [go_sem]) ?_
    refine (read_idle _ _ _ _).mono ?_
    rintro e u' w'' ⟨rfl, rfl, rfl⟩
    simp [Leaves, settle, results, Tryz.results60, go_sem, d0, d1, d2, d3, d4, d5, d6]
    exact ⟨_, rfl, .inr ⟨Q, L', ai, aw, ag, ao, ci, cw, cg, co, K, hR, rfl, hQ, S9⟩⟩
  · have S5 : ST w0 w5 (It.cells (w.heap.size + 1 + 1) #[.bool false] ty.bool :: It.cells (w.heap.size + 1) #[.int .i64 0] ty.int :: zqb w.heap.size :: H) := S5
    have hw : NEWB #[.int .i64 a] 142 (fun N w1 => wrongK w.heap.size (w.heap.size + 1) (w.heap.size + 1 + 1) N (fun w8 => ∃ N, ST w0 w8 (It.cells N #[.int .i64 a] 142 :: It.cells (w.heap.size + 1 + 1) #[.bool false] ty.bool :: It.cells (w.heap.size + 1) #[.int .i64 a] ty.int :: zqb w.heap.size :: H)) w1) w5 :=
      S5.newB fun N w1 _ _ S6 => S6.draw fun w2 _ S7 => ⟨_, S7.cell 0 rfl rfl, S7.sto5 3 rfl fun w6 S8 => ⟨S8.cell 0 rfl rfl, S8.sto 2 rfl (cs' := #[.int .i64 a]) (by simp) rfl fun w7 S9 => S9.sto 1 rfl (cs' := #[.bool false]) (by simp) rfl fun w8 S10 => ⟨N, S10⟩⟩⟩
    show Leaves Tryz.prog Tryz.f60 _ _ _ _ _
    refine leaves_cons (f := 99) (args := #[.pointer (some ⟨w.heap.size, 0, none⟩), .pointer (some ⟨w.heap.size + 1, 0, none⟩), .pointer (some ⟨w.heap.size + 1 + 1, 0, none⟩)]) (by simp) (by simp [go_sem]) ?_
    refine (read_wrong hw).mono ?_
    rintro e u' w8 ⟨rfl, rfl, N, S8⟩
    have d0 : w8.cell? ⟨w.heap.size, 0, none⟩ = some (.slice none 0 0) := S8.cell 3 rfl rfl
    have d1 : w8.cell? ⟨w.heap.size, 1, none⟩ = some (.slice none 0 0) := S8.cell 3 rfl rfl
    have d2 : w8.cell? ⟨w.heap.size, 2, none⟩ = some (.slice none 0 0) := S8.cell 3 rfl rfl
    have d3 : w8.cell? ⟨w.heap.size, 3, none⟩ = some (.slice none 0 0) := S8.cell 3 rfl rfl
    have d4 : w8.cell? ⟨w.heap.size, 4, none⟩ = some (.int .i64 0) := S8.cell 3 rfl rfl
    have d5 : w8.cell? ⟨w.heap.size + 1, 0, none⟩ = some (.int .i64 a) := S8.cell 2 rfl rfl
    have d6 : w8.cell? ⟨w.heap.size + 1 + 1, 0, none⟩ = some (.bool false) := S8.cell 1 rfl rfl
    have S9 := S8.drop 4
    simp [Leaves, settle, results, Tryz.results60, go_sem, d0, d1, d2, d3, d4, d5, d6]
    exact ⟨_, rfl, .inl ⟨a, ha, rfl, S9⟩⟩
def txt1 : ByteArray := ⟨#[115, 101, 108, 101, 99, 116, 32, 115, 117, 109, 40, 32, 97, 42, 40, 98, 43, 49, 41, 32, 41, 32, 97, 115, 32, 115, 32, 103, 114, 111, 117, 112, 32, 98, 121, 32, 99, 32, 111, 114, 100, 101, 114, 32, 98, 121, 32, 115, 32, 100, 101, 115, 99]⟩
def out1 : ByteArray := ⟨#[115, 101, 108, 101, 99, 116, 32, 115, 117, 109, 40, 97, 32, 42, 32, 40, 98, 32, 43, 32, 49, 41, 41, 32, 97, 115, 32, 115, 32, 103, 114, 111, 117, 112, 32, 98, 121, 32, 99, 32, 111, 114, 100, 101, 114, 32, 98, 121, 32, 115, 32, 100, 101, 115, 99]⟩
theorem toks1 : toksP 60 (bl txt1) 0 = some T1 := by kernel_rfl
theorem show1 : showQ Q1 = .tuple #[.string out1, .int .i64 0] := by kernel_rfl
abbrev ptkI (a : Option Addr) (c : Nat) (T : List Tk) : It := It.row ty.query_token 3 a T.length c (tksL T)
theorem tPks : slT Tryz.prog ty.L_query_token = some (ty.query_token, 3, 32, zTk) := by kernel_rfl
theorem T1_end : ∀ x ∈ T1, x.2.2 = E0 → ¬ x.1 < (txt1.size : Int) := by decide
theorem pparse1 {w : World} (E : Env w) : Calls Tryz.prog f.query_Parse #[.string txt1] w (Ret fun v w' => ∃ ai ag ao ci cg co, v = .tuple #[.agg ⟨quL Q1 ai none ag ao ci 0 cg co⟩, .int .i64 0, .int .i64 0] ∧ QAt w' Q1 ai none ag ao ∧ Below w.heap.size w w') := by
  apply R.query_Parse_calls
  unfold R.query_Parse
  refine (ST.start w).newB fun b2 w1 _ _ S1 => S1.newB fun b3 w2 _ _ S2 => S2.newB fun b4 w3 _ _ S3 => S3.newB fun b5 w4 _ _ S4 => ⟨_, S4.cell 3 rfl rfl, IFB_dec (fun h => absurd h (by decide)) (fun _ => S4.newB fun b14 w12 _ _ S12 => ⟨_, S12.cell 4 rfl rfl, ptokens_ok.mono ?_⟩)⟩
  rintro _ w13 ⟨_, rfl, bt, rfl, P13⟩
  have S13 := (S12.nil ty.query_token 3).join P13
  refine ⟨_, _, _, rfl, by kernel_rfl, fun rr hst hpe hy => ?_⟩
  have S14 := S13.range rr
  obtain ⟨L, hL⟩ : ∃ L, L = w13.heap.size + 1 := ⟨_, rfl⟩
  obtain ⟨m, hm⟩ : ∃ m, m = w13.heap.size := ⟨_, rfl⟩
  rw [← hL] at S14 hy ⊢
  rw [← hm] at S14 ⊢
  have S15 : ST w ((w13.alloc (.deferred (some []))).alloc (.loop rr)) (It.cells bt #[.string txt1] ty.string :: ([It.obj m (.deferred (some []))] ++ [ptkI none 0 [], It.cells b14 #[.slice none 0 0] ty.L_query_token, It.obj L (.loop rr), It.cells b5 #[.int .i64 0] ty.api_Errno, It.cells b4 #[.int .i64 0] ty.int, zqb b3, It.cells b2 #[.string txt1] ty.string])) :=
    (((S14.pull 4 rfl).pull 4 rfl).pull 3 rfl).pull 4 rfl
  refine (ptokens_c1 (I := fun D B => ∃ a c, B = [ptkI a c D, It.cells b14 #[.slice a D.length c] ty.L_query_token, It.obj L (.loop rr), It.cells b5 #[.int .i64 0] ty.api_Errno, It.cells b4 #[.int .i64 0] ty.int, zqb b3, It.cells b2 #[.string txt1] ty.string]) (J := fun _ => False) toks1 (by decide) ?_ ⟨none, 0, rfl⟩ S15).mono ?_
  · rintro D x rest vs HN _ w14 htot ⟨a, c, rfl⟩ S rfl
    have S := ST.mid (B := []) [ptkI a c D, It.cells b14 #[.slice a D.length c] ty.L_query_token, It.obj L (.loop rr), It.cells b5 #[.int .i64 0] ty.api_Errno, It.cells b4 #[.int .i64 0] ty.int, zqb b3, It.cells b2 #[.string txt1] ty.string] S
    have hxm : x ∈ T1 := by rw [htot]; simp
    have hD : D.length ≤ 21 := by
      have := congrArg List.length htot
      simp only [List.length_append, List.length_cons] at this
      have h21 : T1.length = 21 := rfl
      omega
    refine hy _ _ _ _ w14 (S.get 2 rfl) ?_
    refine S.lit3 fun b22 w18 _ S => S.begr 3 rfl fun w19 S => ⟨_, S.cell 0 rfl rfl, ?_⟩
    have app : ∀ {k : Bool → World → Prop}, (∀ w', (∃ B', ST w w' (HN ++ B') ∧ ∃ a c, B' = [ptkI a c (D ++ [x]), It.cells b14 #[.slice a (D ++ [x]).length c] ty.L_query_token, It.obj L (.loop rr), It.cells b5 #[.int .i64 0] ty.api_Errno, It.cells b4 #[.int .i64 0] ty.int, zqb b3, It.cells b2 #[.string txt1] ty.string]) → k true w') →
        ∃ (t32 : Option Addr) (t32l t32c : Nat), w19.cell? ⟨b14, 0, none⟩ = some (.slice t32 t32l t32c) ∧ ∃ t330 : Int, w19.cell? ⟨b22, 0, none⟩ = some (.int .i64 t330) ∧ ∃ t331 : Int, w19.cell? ⟨b22, 1, none⟩ = some (.int .i64 t331) ∧ ∃ t332 : ByteArray, w19.cell? ⟨b22, 2, none⟩ = some (.string t332) ∧
          NEWB #[.int .i64 t330, .int .i64 t331, .string t332] 103 (fun b31 w28 => OPR Tryz.prog (Builtin.append_ #[98, 98] 98 #[.slice t32 t32l t32c, .slice (some ⟨b31, 0, none⟩) 1 1]) (fun r w29 => ∃ (t35 : Option Addr) (t35l t35c : Nat), r = .slice t35 t35l t35c ∧ STO ⟨b14, 0, none⟩ (.slice t35 t35l t35c) (fun w30 => ENDR rr L k none w30) w29) w28) w19 := fun hk => by
      refine ⟨_, _, _, S.cell 2 rfl rfl, _, S.cell 0 rfl rfl, _, S.cell 0 rfl rfl, _, S.cell 0 rfl rfl, S.newB fun b31 w28 _ _ S28 => ?_⟩
      refine S28.app 2 rfl tPks rfl (by omega) (by omega) (S28.rdc 0 rfl) (mm := 1) rfl (by intro u hu; simp at hu; rcases hu with rfl | rfl | rfl <;> rfl) (by omega) fun a' c' w29 S29 => ⟨_, _, _, rfl, S29.sto 3 rfl (cs' := #[.slice a' (D.length + 1) c']) (by simp) rfl fun w30 S30 => S30.endr0 4 hst hpe rfl fun w' S' => hk w' ⟨[ptkI a' c' (D ++ [x]), It.cells b14 #[.slice a' (D ++ [x]).length c'] ty.L_query_token, It.obj L (.loop rr), It.cells b5 #[.int .i64 0] ty.api_Errno, It.cells b4 #[.int .i64 0] ty.int, zqb b3, It.cells b2 #[.string txt1] ty.string], ?_, a', c', rfl⟩⟩
      have S9 := S'.drop 2
      have e : ptkI a' c' (D ++ [x]) = It.row ty.query_token 3 a' (D.length + 1) c' (tksL D ++ tkC x) := by
        show It.row ty.query_token 3 a' (D ++ [x]).length c' (tksL (D ++ [x])) = _
        rw [List.length_append, List.length_singleton]
        simp [tksL]
      rw [e, List.length_append, List.length_singleton]
      exact ST.unmid (B := []) [It.row ty.query_token 3 a' (D.length + 1) c' (tksL D ++ tkC x), It.cells b14 #[.slice a' (D.length + 1) c'] ty.L_query_token, It.obj L (.loop rr), It.cells b5 #[.int .i64 0] ty.api_Errno, It.cells b4 #[.int .i64 0] ty.int, zqb b3, It.cells b2 #[.string txt1] ty.string] S9
    rw [bytesEq_iff]
    refine IFB_dec (fun he => ⟨_, S.cell 0 rfl rfl, _, S.cell 7 rfl rfl, IFB_dec (fun hlt => absurd hlt (T1_end x hxm he)) (fun _ => app fun w' ⟨B', h1, h2⟩ => ⟨B', h1, .inl ⟨rfl, h2⟩⟩)⟩) (fun _ => app fun w' ⟨B', h1, h2⟩ => ⟨B', h1, .inl ⟨rfl, h2⟩⟩)
  · rintro _ w35 ⟨_, rfl, B', S35, ⟨a, c, rfl⟩ | h⟩
    rotate_left
    · cases h
    have S35 := ST.mid (B := []) [ptkI a c T1, It.cells b14 #[.slice a T1.length c] ty.L_query_token, It.obj L (.loop rr), It.cells b5 #[.int .i64 0] ty.api_Errno, It.cells b4 #[.int .i64 0] ty.int, zqb b3, It.cells b2 #[.string txt1] ty.string] S35
    refine ⟨⟨_, rfl⟩, S35.endl0 2 hst hpe rfl fun w36 S36 => .inl ⟨rfl, _, _, _, S36.cell 1 rfl rfl, ?_⟩⟩
    have hrow := S36.rw 0 rfl
    have hcap : T1.length ≤ c ∧ c ≤ 9223372036854775807 := by
      rcases hrow.2 with ⟨_, h0, _⟩ | ⟨_, _, _, _, h1, h2, _⟩
      · cases h0
      · exact ⟨h1, h2⟩
    refine (pread_ok E (S36.toRd 0 rfl) hcap.1 hcap.2).mono ?_
    rintro _ w37 ⟨_, rfl, x, cap, K, a1, c1, ag, cg, ao, co, hR, rfl, S37⟩
    refine ⟨_, _, _, _, _, _, _, _, _, _, _, _, _, _, _, rfl, S37.newB fun b58 w38 _ _ S38 => S38.sto5 0 rfl fun w42 S42 => IFB_not (IFB_true ?_)⟩
    have q42 : ∀ {w' : World} {H : List It}, ST w w' (quI b58 Q1 a1 none ag ao c1 0 cg co :: (QL x cap K a1 c1 ag cg ao co ++ H)) → QAt w' Q1 a1 none ag ao := fun S => qat1 hR (fun it hi => S.ok it (by simp [hi])) (S.rd 1 rfl) (S.rd 2 rfl) (S.rd 3 rfl)
    have S42 : ST w w42 (quI b58 Q1 a1 none ag ao c1 0 cg co :: (QL x cap K a1 c1 ag cg ao co ++ [It.cells b14 #[.slice a T1.length c] ty.L_query_token, It.obj L (.loop { rr with state := .exhausted, pending := none }), It.cells b5 #[.int .i64 0] ty.api_Errno, It.cells b4 #[.int .i64 0] ty.int, zqb b3, It.cells b2 #[.string txt1] ty.string, It.obj m (.deferred (some []))])) := S42
    refine stQ S42 0 rfl (S42.call (query_Show_ok (E.grown S42.bel) (q42 S42)) fun w50 _ S50 => ?_)
    rw [show1]
    refine ⟨_, _, rfl, IFB_ne (fun h => absurd rfl h) (fun _ => stQ S50 0 rfl ?_)⟩
    have S51 : ST w w50 (zqb b3 :: It.cells b4 #[.int .i64 0] ty.int :: It.cells b5 #[.int .i64 0] ty.api_Errno :: It.obj m (.deferred (some [])) :: quI b58 Q1 a1 none ag ao c1 0 cg co :: (QL x cap K a1 c1 ag cg ao co ++ [])) := by
      have S := ST.mid (B := []) (X := quI b58 Q1 a1 none ag ao c1 0 cg co :: QL x cap K a1 c1 ag cg ao co) [It.cells b14 #[.slice a T1.length c] ty.L_query_token, It.obj L (.loop { rr with state := .exhausted, pending := none }), It.cells b5 #[.int .i64 0] ty.api_Errno, It.cells b4 #[.int .i64 0] ty.int, zqb b3, It.cells b2 #[.string txt1] ty.string, It.obj m (.deferred (some []))] (by simpa using S50)
      have S := S.drop 2
      exact ((((S.pull 4 rfl).pull 1 rfl).pull 2 rfl).pull 3 rfl).sub (.cons_cons _ (.cons_cons _ (.cons_cons _ (.cons_cons _ (.cons _ (.refl _))))))
    refine S51.sto5 0 rfl fun w62 S62 => S62.sto 1 rfl (cs' := #[.int .i64 0]) (by simp) rfl fun w63 S63 => S63.sto 2 rfl (cs' := #[.int .i64 0]) (by simp) rfl fun w64 S64 => ⟨S64.get 3 rfl, ?_⟩
    have S65 := S64.put 3 rfl (.deferred none)
    refine ⟨_, _, _, S65.cell 0 rfl rfl, _, _, _, S65.cell 0 rfl rfl, _, _, _, S65.cell 0 rfl rfl, _, _, _, S65.cell 0 rfl rfl, _, S65.cell 0 rfl rfl, _, S65.cell 1 rfl rfl, _, S65.cell 2 rfl rfl, a1, ag, ao, c1, cg, co, rfl, ?_, S65.bel⟩
    exact qat1 hR (fun it hi => S65.ok it (by simp [hi])) (S65.rd 5 rfl) (S65.rd 6 rfl) (S65.rd 7 rfl)
theorem law11_shown_ok {w : World} (E : Env w) : Calls Tryz.prog f.law11_shown #[] w (Ret fun r w' => r = .bool true ∧ Below w.heap.size w w') := by
  apply R.law11_shown_calls
  unfold R.law11_shown
  refine (pparse1 E).mono ?_
  rintro _ w1 ⟨_, rfl, ai, ag, ao, ci, cg, co, rfl, Q, B1⟩
  refine ⟨_, _, _, _, _, _, _, _, _, _, _, _, _, _, _, rfl, (ST.start w1).newB fun b9 w2 _ _ S2 => S2.sto5 0 rfl fun w7 S7 => ?_⟩
  have S7 : ST w1 w7 [quI b9 Q1 ai none ag ao ci 0 cg co] := S7
  refine stQ S7 0 rfl (S7.call (query_Show_ok ((E.grown B1).grown S7.bel) (Q.grown S7.bel)) fun w8 _ S8 => ?_)
  rw [show1]
  exact ⟨_, _, rfl, IFB_true (IFB_true ⟨by rw [bytesEq_iff]; exact congrArg Value.bool (decide_eq_true rfl), below_j B1 S8.bel⟩)⟩
inductive ParseIs (s : ByteArray) : Option Qu → Int → Int → Prop
  | long : 4096 < s.size → ParseIs s none 0 111
  | tok {T : List Tk} {t : Tk} : s.size ≤ 4096 → Lx (bl s) 0 T → t ∈ T → t.2.2 = E0 → t.1 < s.size → ParseIs s none t.1 110
  | bad {T : List Tk} {a : Int} : s.size ≤ 4096 → Lx (bl s) 0 T → Fin T → (Ev fun f => queryM f T = some (.bad a)) → ParseIs s none a 110
  | form {T : List Tk} {q : Qu} {L : List Tk} : s.size ≤ 4096 → Lx (bl s) 0 T → Fin T → (Ev fun f => queryM f T = some (.ok q L)) → rightQ q = false → ParseIs s none 0 110
  | ok {T : List Tk} {q : Qu} {L : List Tk} : s.size ≤ 4096 → Lx (bl s) 0 T → Fin T → (Ev fun f => queryM f T = some (.ok q L)) → rightQ q = true → ParseIs s (some q) 0 0
theorem qatZ (w : World) : QAt w zeroQ none none none none :=
  ⟨⟨[], Rd.nil _ _, rfl⟩, ⟨[], Rd.nil _ _, rfl⟩, ⟨[], Rd.nil _ _, rfl⟩, ⟨[], Rd.nil _ _, rfl⟩, by decide, by decide, by decide, by decide, by decide⟩
theorem Lx.len {l : List UInt8} {n : Nat} {T : List Tk} (h : Lx l n T) : T.length ≤ l.length + 1 := by
  induction h with
  | fin n => simp
  | blank _ _ ih => simp only [List.length_cons]; omega
  | tok _ hz _ ih =>
    rw [List.length_drop] at ih
    simp only [List.length_cons] at ih ⊢
    omega
  | bad _ _ => simp
theorem Lx.fin_of {l : List UInt8} {n : Nat} {T : List Tk} (h : Lx l n T) : (∀ x ∈ T, ¬ (x.2.2 = E0 ∧ x.1 < ((n + l.length : Nat) : Int))) → Fin T := by
  induction h with
  | fin n => intro _; exact .one _
  | @blank c r n T hb h ih =>
    intro hno
    refine ih fun x hx => ?_
    have := hno x hx
    rw [List.length_cons] at this
    rw [show n + 1 + r.length = n + (r.length + 1) by omega]
    exact this
  | @tok c r n T hb hz h ih =>
    intro hno
    have hl := lenT_le (c :: r)
    refine .cons (lenT_sort hz) (take_ne hz) (ih fun x hx => ?_)
    have := hno x (by simp [hx])
    rw [List.length_drop, show n + (lenT (c :: r)).1 + ((c :: r).length - (lenT (c :: r)).1) = n + (c :: r).length by omega]
    exact this
  | @bad c r n hb hz =>
    intro hno
    exact absurd ⟨rfl, by show ((n : Nat) : Int) < _; simp only [List.length_cons]; omega⟩ (hno _ (List.mem_singleton.2 rfl))
theorem pparse_G {w : World} (E : Env2 w) {s : ByteArray} (hs : s.size ≤ 9223372036854775800) : Calls Tryz.prog f.query_Parse #[.string s] w (Ret fun v w' => ∃ o a e ai aw ag ao ci cw cg co, ParseIs s o a e ∧ v = .tuple #[.agg ⟨quL (o.getD zeroQ) ai aw ag ao ci cw cg co⟩, .int .i64 a, .int .i64 e] ∧ QAt w' (o.getD zeroQ) ai aw ag ao ∧ Below w.heap.size w w') := by
  apply R.query_Parse_calls
  unfold R.query_Parse
  have hbl := bl_length s
  refine (ST.start w).newB fun b2 w1 _ _ S1 => S1.newB fun b3 w2 _ _ S2 => S2.newB fun b4 w3 _ _ S3 => S3.newB fun b5 w4 _ _ S4 => ⟨_, S4.cell 3 rfl rfl, IFB_dec (fun h => ?_) (fun hlong => S4.newB fun b14 w12 _ _ S12 => ⟨_, S12.cell 4 rfl rfl, ptokens_ok.mono ?_⟩)⟩
  · exact S4.sto5 2 rfl fun w9 S9 => S9.sto 1 rfl (cs' := #[.int .i64 0]) (by simp) rfl fun w10 S10 => S10.sto 0 rfl (cs' := #[.int .i64 111]) (by simp) rfl fun w11 S11 => ⟨_, _, _, S11.cell 2 rfl rfl, _, _, _, S11.cell 2 rfl rfl, _, _, _, S11.cell 2 rfl rfl, _, _, _, S11.cell 2 rfl rfl, _, S11.cell 2 rfl rfl, _, S11.cell 1 rfl rfl, _, S11.cell 0 rfl rfl,
      none, 0, 111, none, none, none, none, 0, 0, 0, 0, .long (by omega), rfl, qatZ _, S11.bel⟩
  have hsz : s.size ≤ 4096 := by omega
  obtain ⟨T, hT⟩ := lx_ex _ (bl s) 0 (Nat.le_refl _)
  have hTl := hT.len
  have hTs := hT.small
  rw [hbl] at hTl hTs
  rintro _ w13 ⟨_, rfl, bt, rfl, P13⟩
  have S13 := (S12.nil ty.query_token 3).join P13
  refine ⟨_, _, _, rfl, by kernel_rfl, fun rr hst hpe hy => ?_⟩
  have S14 := S13.range rr
  obtain ⟨L, hL⟩ : ∃ L, L = w13.heap.size + 1 := ⟨_, rfl⟩
  obtain ⟨m, hm⟩ : ∃ m, m = w13.heap.size := ⟨_, rfl⟩
  rw [← hL] at S14 hy ⊢
  rw [← hm] at S14 ⊢
  have S15 : ST w ((w13.alloc (.deferred (some []))).alloc (.loop rr)) (It.cells bt #[.string s] ty.string :: ([It.obj m (.deferred (some []))] ++ [ptkI none 0 [], It.cells b14 #[.slice none 0 0] ty.L_query_token, It.obj L (.loop rr), It.cells b5 #[.int .i64 0] ty.api_Errno, It.cells b4 #[.int .i64 0] ty.int, zqb b3, It.cells b2 #[.string s] ty.string])) :=
    (((S14.pull 4 rfl).pull 4 rfl).pull 3 rfl).pull 4 rfl
  refine (ptokG_c1 (I := fun D B => (∀ x ∈ D, ¬ (x.2.2 = E0 ∧ x.1 < (s.size : Int))) ∧ ∃ a c, B = [ptkI a c D, It.cells b14 #[.slice a D.length c] ty.L_query_token, It.obj L (.loop rr), It.cells b5 #[.int .i64 0] ty.api_Errno, It.cells b4 #[.int .i64 0] ty.int, zqb b3, It.cells b2 #[.string s] ty.string])
    (J := fun B => ∃ t ∈ T, t.2.2 = E0 ∧ t.1 < (s.size : Int) ∧ ∃ a c D, B = [ptkI a c D, It.cells b14 #[.slice a D.length c] ty.L_query_token, It.obj L (.loop { rr with state := .done, pending := some .ret }), It.cells b5 #[.int .i64 110] ty.api_Errno, It.cells b4 #[.int .i64 t.1] ty.int, zqb b3, It.cells b2 #[.string s] ty.string]) hT hs ?_ ⟨by simp, none, 0, rfl⟩ S15).mono ?_
  · rintro D x rest vs HN _ w14 htot ⟨hno, a, c, rfl⟩ S rfl
    have S := ST.mid (B := []) [ptkI a c D, It.cells b14 #[.slice a D.length c] ty.L_query_token, It.obj L (.loop rr), It.cells b5 #[.int .i64 0] ty.api_Errno, It.cells b4 #[.int .i64 0] ty.int, zqb b3, It.cells b2 #[.string s] ty.string] S
    have hxm : x ∈ T := by rw [htot]; simp
    have hD : D.length ≤ 5000 := by
      have := congrArg List.length htot
      simp only [List.length_append, List.length_cons] at this
      omega
    refine hy _ _ _ _ w14 (S.get 2 rfl) ?_
    refine S.lit3 fun b22 w18 _ S => S.begr 3 rfl fun w19 S => ⟨_, S.cell 0 rfl rfl, ?_⟩
    have app : ∀ {k : Bool → World → Prop}, (∀ w', (∃ B', ST w w' (HN ++ B') ∧ ∃ a c, B' = [ptkI a c (D ++ [x]), It.cells b14 #[.slice a (D ++ [x]).length c] ty.L_query_token, It.obj L (.loop rr), It.cells b5 #[.int .i64 0] ty.api_Errno, It.cells b4 #[.int .i64 0] ty.int, zqb b3, It.cells b2 #[.string s] ty.string]) → k true w') →
        ∃ (t32 : Option Addr) (t32l t32c : Nat), w19.cell? ⟨b14, 0, none⟩ = some (.slice t32 t32l t32c) ∧ ∃ t330 : Int, w19.cell? ⟨b22, 0, none⟩ = some (.int .i64 t330) ∧ ∃ t331 : Int, w19.cell? ⟨b22, 1, none⟩ = some (.int .i64 t331) ∧ ∃ t332 : ByteArray, w19.cell? ⟨b22, 2, none⟩ = some (.string t332) ∧
          NEWB #[.int .i64 t330, .int .i64 t331, .string t332] 103 (fun b31 w28 => OPR Tryz.prog (Builtin.append_ #[98, 98] 98 #[.slice t32 t32l t32c, .slice (some ⟨b31, 0, none⟩) 1 1]) (fun r w29 => ∃ (t35 : Option Addr) (t35l t35c : Nat), r = .slice t35 t35l t35c ∧ STO ⟨b14, 0, none⟩ (.slice t35 t35l t35c) (fun w30 => ENDR rr L k none w30) w29) w28) w19 := fun hk => by
      refine ⟨_, _, _, S.cell 2 rfl rfl, _, S.cell 0 rfl rfl, _, S.cell 0 rfl rfl, _, S.cell 0 rfl rfl, S.newB fun b31 w28 _ _ S28 => ?_⟩
      refine S28.app 2 rfl tPks rfl (by omega) (by omega) (S28.rdc 0 rfl) (mm := 1) rfl (by intro u hu; simp at hu; rcases hu with rfl | rfl | rfl <;> rfl) (by omega) fun a' c' w29 S29 => ⟨_, _, _, rfl, S29.sto 3 rfl (cs' := #[.slice a' (D.length + 1) c']) (by simp) rfl fun w30 S30 => S30.endr0 4 hst hpe rfl fun w' S' => hk w' ⟨[ptkI a' c' (D ++ [x]), It.cells b14 #[.slice a' (D ++ [x]).length c'] ty.L_query_token, It.obj L (.loop rr), It.cells b5 #[.int .i64 0] ty.api_Errno, It.cells b4 #[.int .i64 0] ty.int, zqb b3, It.cells b2 #[.string s] ty.string], ?_, a', c', rfl⟩⟩
      have S9 := S'.drop 2
      have e : ptkI a' c' (D ++ [x]) = It.row ty.query_token 3 a' (D.length + 1) c' (tksL D ++ tkC x) := by
        show It.row ty.query_token 3 a' (D ++ [x]).length c' (tksL (D ++ [x])) = _
        rw [List.length_append, List.length_singleton]
        simp [tksL]
      rw [e, List.length_append, List.length_singleton]
      exact ST.unmid (B := []) [It.row ty.query_token 3 a' (D.length + 1) c' (tksL D ++ tkC x), It.cells b14 #[.slice a' (D.length + 1) c'] ty.L_query_token, It.obj L (.loop rr), It.cells b5 #[.int .i64 0] ty.api_Errno, It.cells b4 #[.int .i64 0] ty.int, zqb b3, It.cells b2 #[.string s] ty.string] S9
    have good : ¬ (x.2.2 = E0 ∧ x.1 < (s.size : Int)) → ∀ y ∈ D ++ [x], ¬ (y.2.2 = E0 ∧ y.1 < (s.size : Int)) := fun hx y hy => by
      rcases List.mem_append.1 hy with h | h
      · exact hno y h
      · rw [List.mem_singleton.1 h]; exact hx
    rw [bytesEq_iff]
    refine IFB_dec (fun he => ⟨_, S.cell 0 rfl rfl, _, S.cell 7 rfl rfl, IFB_dec (fun hlt => ?_) (fun hge => app fun w' ⟨B', h1, h2⟩ => ⟨B', h1, .inl ⟨rfl, good (fun h => hge h.2), h2⟩⟩)⟩) (fun hne => app fun w' ⟨B', h1, h2⟩ => ⟨B', h1, .inl ⟨rfl, good (fun h => hne h.1), h2⟩⟩)
    refine S.draw fun w20 _ S20 => ⟨_, S20.cell 0 rfl rfl, S20.sto5 6 rfl fun w25 S25 => ⟨S25.cell 0 rfl rfl, S25.sto 5 rfl (cs' := #[.int .i64 x.1]) (by simp) rfl fun w26 S26 => S26.sto 4 rfl (cs' := #[.int .i64 110]) (by simp) rfl fun w27 S27 => S27.endr1 3 rfl fun w' S' => ⟨_, ST.unmid (B := []) [ptkI a c D, It.cells b14 #[.slice a D.length c] ty.L_query_token, It.obj L (.loop { rr with state := .done, pending := some .ret }), It.cells b5 #[.int .i64 110] ty.api_Errno, It.cells b4 #[.int .i64 x.1] ty.int, zqb b3, It.cells b2 #[.string s] ty.string] (S'.drop 1), .inr ⟨rfl, x, hxm, he, hlt, a, c, D, by rw [List.append_nil]⟩⟩⟩⟩
  rintro _ w35 ⟨_, rfl, B', S35, ⟨hno, a, c, rfl⟩ | ⟨t, htm, ht1, ht2, a, c, D, rfl⟩⟩
  rotate_left
  · have S35 := ST.mid (B := []) [ptkI a c D, It.cells b14 #[.slice a D.length c] ty.L_query_token, It.obj L (.loop { rr with state := .done, pending := some .ret }), It.cells b5 #[.int .i64 110] ty.api_Errno, It.cells b4 #[.int .i64 t.1] ty.int, zqb b3, It.cells b2 #[.string s] ty.string] S35
    refine ⟨⟨_, rfl⟩, S35.endl1 2 rfl fun w36 S36 => .inr ⟨rfl, S36.get 7 rfl, ?_⟩⟩
    have S65 := S36.put 7 rfl (.deferred none)
    exact ⟨_, _, _, S65.cell 5 rfl rfl, _, _, _, S65.cell 5 rfl rfl, _, _, _, S65.cell 5 rfl rfl, _, _, _, S65.cell 5 rfl rfl, _, S65.cell 5 rfl rfl, _, S65.cell 4 rfl rfl, _, S65.cell 3 rfl rfl, none, t.1, 110, none, none, none, none, 0, 0, 0, 0, .tok hsz hT htm ht1 ht2, rfl, qatZ _, S65.bel⟩
  have hF : Fin T := hT.fin_of (by rw [Nat.zero_add, hbl]; exact hno)
  obtain ⟨R, hR, _⟩ := query_tot (hF.good (P := fun _ => True) fun _ _ => trivial)
  obtain ⟨f, hf⟩ := hR.one
  have S35 := ST.mid (B := []) [ptkI a c T, It.cells b14 #[.slice a T.length c] ty.L_query_token, It.obj L (.loop rr), It.cells b5 #[.int .i64 0] ty.api_Errno, It.cells b4 #[.int .i64 0] ty.int, zqb b3, It.cells b2 #[.string s] ty.string] S35
  refine ⟨⟨_, rfl⟩, S35.endl0 2 hst hpe rfl fun w36 S36 => .inl ⟨rfl, _, _, _, S36.cell 1 rfl rfl, ?_⟩⟩
  have hrow := S36.rw 0 rfl
  have hcap : T.length ≤ c ∧ c ≤ 9223372036854775807 := by
    rcases hrow.2 with ⟨_, h0, _⟩ | ⟨_, _, _, _, h1, h2, _⟩
    · exfalso
      cases hF <;> simp at h0
    · exact ⟨h1, h2⟩
  refine (pread_G E (S36.toRd 0 rfl) hcap.1 hcap.2 hf (fun t ht => Nat.le_trans (hTs t ht) hsz) (by omega)).mono ?_
  rintro _ w37 ⟨_, rfl, ⟨a', rfl, rfl, S37⟩ | ⟨Q, L', ai, aw, ag, ao, ci, cw, cg, co, K, rfl, rfl, hQ, S37⟩⟩
  · refine ⟨_, _, _, _, _, _, _, _, _, _, _, _, _, _, _, rfl, S37.newB fun b58 w38 _ _ S38 => S38.sto5 0 rfl fun w42 S42 => IFB_not (IFB_false ?_)⟩
    refine S42.sto5 5 rfl fun w62 S62 => S62.sto 4 rfl (cs' := #[.int .i64 a']) (by simp) rfl fun w63 S63 => S63.sto 3 rfl (cs' := #[.int .i64 110]) (by simp) rfl fun w64 S64 => ⟨S64.get 7 rfl, ?_⟩
    have S65 := S64.put 7 rfl (.deferred none)
    exact ⟨_, _, _, S65.cell 5 rfl rfl, _, _, _, S65.cell 5 rfl rfl, _, _, _, S65.cell 5 rfl rfl, _, _, _, S65.cell 5 rfl rfl, _, S65.cell 5 rfl rfl, _, S65.cell 4 rfl rfl, _, S65.cell 3 rfl rfl, none, a', 110, none, none, none, none, 0, 0, 0, 0, .bad hsz hT hF hR, rfl, qatZ _, S65.bel⟩
  have S37 : ST w w37 ([It.cells b14 #[.slice a T.length c] ty.L_query_token, It.obj L (.loop { rr with state := .exhausted, pending := none }), It.cells b5 #[.int .i64 0] ty.api_Errno, It.cells b4 #[.int .i64 0] ty.int, zqb b3, It.cells b2 #[.string s] ty.string, It.obj m (.deferred (some []))] ++ K) := by
    have S37 : ST w w37 (K ++ [It.cells b14 #[.slice a T.length c] ty.L_query_token, It.obj L (.loop { rr with state := .exhausted, pending := none }), It.cells b5 #[.int .i64 0] ty.api_Errno, It.cells b4 #[.int .i64 0] ty.int, zqb b3, It.cells b2 #[.string s] ty.string, It.obj m (.deferred (some []))]) := S37
    exact S37.perm List.perm_append_comm
  refine ⟨_, _, _, _, _, _, _, _, _, _, _, _, _, _, _, rfl, S37.newB fun b58 w38 _ _ S38 => S38.sto5 0 rfl fun w42 S42 => IFB_not (IFB_true ?_)⟩
  have S42 : ST w w42 (quI b58 Q ai aw ag ao ci cw cg co :: It.cells b14 #[.slice a T.length c] ty.L_query_token :: It.obj L (.loop { rr with state := .exhausted, pending := none }) :: It.cells b5 #[.int .i64 0] ty.api_Errno :: It.cells b4 #[.int .i64 0] ty.int :: zqb b3 :: It.cells b2 #[.string s] ty.string :: It.obj m (.deferred (some [])) :: K) := S42
  have hk : ∀ {w' : World} {A : List It}, ST w w' (A ++ K) → QAt w' Q ai aw ag ao := fun {w' A} S => hQ w' fun y hy => S.ok y (by simp [hy])
  refine stQ S42 0 rfl (S42.call (query_Show_ok (E.env.grown S42.bel) (hk (A := [_, _, _, _, _, _, _, _]) S42)) fun w50 _ S50 => ?_)
  by_cases hr : rightQ Q = true
  · rw [showQ, if_pos hr]
    refine ⟨_, _, rfl, IFB_ne (fun h => absurd rfl h) (fun _ => stQ S50 0 rfl ?_)⟩
    refine S50.sto5 5 rfl fun w62 S62 => S62.sto 4 rfl (cs' := #[.int .i64 0]) (by simp) rfl fun w63 S63 => S63.sto 3 rfl (cs' := #[.int .i64 0]) (by simp) rfl fun w64 S64 => ⟨S64.get 7 rfl, ?_⟩
    have S65 := S64.put 7 rfl (.deferred none)
    exact ⟨_, _, _, S65.cell 5 rfl rfl, _, _, _, S65.cell 5 rfl rfl, _, _, _, S65.cell 5 rfl rfl, _, _, _, S65.cell 5 rfl rfl, _, S65.cell 5 rfl rfl, _, S65.cell 4 rfl rfl, _, S65.cell 3 rfl rfl, some Q, 0, 0, ai, aw, ag, ao, ci, cw, cg, co, .ok hsz hT hF hR hr, rfl, hk (A := [_, _, _, _, _, _, _, _]) S65, S65.bel⟩
  · rw [showQ, if_neg hr]
    refine ⟨_, _, rfl, IFB_ne (fun _ => ?_) (fun h => absurd h (by decide))⟩
    refine S50.sto5 5 rfl fun w62 S62 => S62.sto 4 rfl (cs' := #[.int .i64 0]) (by simp) rfl fun w63 S63 => S63.sto 3 rfl (cs' := #[.int .i64 110]) (by simp) rfl fun w64 S64 => ⟨S64.get 7 rfl, ?_⟩
    have S65 := S64.put 7 rfl (.deferred none)
    exact ⟨_, _, _, S65.cell 5 rfl rfl, _, _, _, S65.cell 5 rfl rfl, _, _, _, S65.cell 5 rfl rfl, _, _, _, S65.cell 5 rfl rfl, _, S65.cell 5 rfl rfl, _, S65.cell 4 rfl rfl, _, S65.cell 3 rfl rfl, none, 0, 110, none, none, none, none, 0, 0, 0, 0, .form hsz hT hF hR (by simpa using hr), rfl, qatZ _, S65.bel⟩
section
variable {w : World} {q u : Qu} {ai aw ag ao bi bw bg bo : Option Addr} {ci cw cg co di dw dg d_o : Nat}
theorem quP_of (h : rightQ q = true) (Q : QAt w q ai aw ag ao) : QuP q := by
  obtain ⟨ri, _, hCi⟩ := Q.it
  obtain ⟨rw_, _, hCw⟩ := Q.wh
  obtain ⟨rg, _, hCg⟩ := Q.gr
  refine ⟨(rightQ_small h).1, fun i hi => ?_, rows_fit hCw, rows_fit hCg, Q.lim⟩
  obtain ⟨j, hj, rfl⟩ := List.mem_iff_getElem.1 hi
  obtain ⟨c, _, hx, _⟩ := RowsC.get (n := 8) (fun x c h => ItC.len h) hCi j hj
  exact hx.fit
end
end Go.Proofs.YtbpdfpfgijhokaaGreatDoor
namespace Go.Proofs.YtbpdfpfgijhokaaGreatDoor
set_option maxRecDepth 100000
open Go.Dn Go.Proofs
set_option linter.unusedVariables false
theorem Lx.ne {l : List UInt8} {n : Nat} {T : List Tk} (h : Lx l n T) : ∃ t T', T = t :: T' := by
  induction h with
  | fin n => exact ⟨_, _, rfl⟩
  | blank _ _ ih => exact ih
  | tok _ _ _ _ => exact ⟨_, _, rfl⟩
  | bad _ _ => exact ⟨_, _, rfl⟩
def powT : List Tk → Int
  | [] => 0
  | t :: _ => if isB t qIs = true then 4 else (powF t).1
theorem powT_tab (L : List Tk) : powT L = 0 ∨ powT L = 1 ∨ powT L = 2 ∨ powT L = 4 ∨ powT L = 5 ∨ powT L = 6 ∨ powT L = 7 := by
  cases L with
  | nil => exact .inl rfl
  | cons t L =>
    have := powF_tab t
    rw [powT]
    split
    · simp
    · omega
section
variable {f : Nat} {lv own : Int} {x : Ex} {t u : Tk} {L R : List Tk} {O : RS Ex}
theorem ptE_not (h : lv ≤ 3) (ht : isB t qNot = true) : pt (f + 1) (.E lv) (t :: L) = bindR (pt f (.E 3) L) fun k L' => pt f (.L lv (.mk 14 E0 V0 [k]) 3) L' := by rw [pt, if_pos ⟨h, ht⟩]
theorem ptE_M (ht : isB t qNot = false) : pt (f + 1) (.E lv) (t :: L) = bindR (pt f .M (t :: L)) fun x L' => pt f (.L lv x 9) L' := by rw [pt, if_neg (by rw [ht]; simp)]
theorem ptL_stop (hR : ∃ t T', R = t :: T') (h : powT R < lv ∨ powT R = 0) : pt (f + 1) (.L lv x own) R = some (.ok x R) := by
  obtain ⟨t, L, rfl⟩ := hR
  rw [pt]
  rw [powT] at h
  by_cases hi : isB t qIs = true
  · rw [if_pos hi] at h ⊢
    rw [if_pos (.inl (by omega))]
  · rw [if_neg hi] at h ⊢
    rw [if_pos (by omega)]
theorem ptL_null (h1 : lv ≤ 4) (h2 : 5 ≤ own) (ht : isB t qIs = true) (hu : isB u qNull = true) : pt (f + 1) (.L lv x own) (t :: u :: R) = pt f (.L lv (.mk 15 E0 V0 [x]) 4) R := by
  rw [pt, if_pos ht, if_neg (by omega), needT, if_pos hu]
theorem ptL_bin {op : Int} (hr : 1 ≤ rowOf op) (hp : powF t = (rowOf op, op)) (hi : isB t qIs = false) (h1 : lv ≤ rowOf op) (h2 : rowOf op ≤ own) (h3 : ¬ (rowOf op = 5 ∧ own = 5)) :
    pt (f + 1) (.L lv x own) (t :: R) = bindR (pt f (.E (rowOf op + 1)) R) fun y L' => pt f (.L lv (.mk op E0 V0 [x, y]) (rowOf op)) L' := by
  rw [pt, if_neg (by rw [hi]; decide), hp]
  simp only
  rw [if_neg (by omega)]
theorem ptM_A (ht : isB t qMinus = false) : pt (f + 1) .M (t :: L) = pt f .A (t :: L) := by rw [pt, if_neg (by rw [ht]; decide)]
theorem ptM_neg (ht : isB t qMinus = true) (hu : u.2.1 ≠ 2) : pt (f + 1) .M (t :: u :: R) = bindR (pt f .M (u :: R)) fun k L'' => some (.ok (.mk 8 E0 V0 [k]) L'') := by
  rw [ptM_eq f t u R ht, if_neg hu]
theorem ptM_num (ht : isB t qMinus = true) (hu : u.2.1 = 2) : pt (f + 1) .M (t :: u :: R) = some (.ok (negX u.2.2) R) := by
  rw [ptM_eq f t u R ht, if_pos hu]
end
/-! ### digits -/
theorem dec_dig : ∀ u : Nat, ∀ d ∈ Lib.decDigits u, isDig d = true := by
  intro u
  induction u using Nat.strongRecOn with
  | _ u ih =>
    intro d hd
    have one : ∀ n, n < 10 → isDig (UInt8.ofNat (48 + n)) = true := fun n hn => by
      have e : (UInt8.ofNat (48 + n)).toNat = 48 + n := by simp; omega
      simp only [isDig, e, decide_eq_true_eq]
      omega
    by_cases h : u < 10
    · rw [Lib.decDigits_one h, List.mem_singleton] at hd
      rw [hd]
      exact one u h
    · rw [Lib.decDigits, dif_neg h, List.mem_append, List.mem_singleton] at hd
      rcases hd with hd | hd
      · exact ih (u / 10) (by omega) d hd
      · rw [hd]; exact one (u % 10) (by omega)
theorem dec_lead : ∀ u : Nat, 0 < u → ∃ c r, Lib.decDigits u = c :: r ∧ c.toNat ≠ 48 := by
  intro u
  induction u using Nat.strongRecOn with
  | _ u ih =>
    intro hu
    by_cases h : u < 10
    · refine ⟨UInt8.ofNat (48 + u), [], Lib.decDigits_one h, ?_⟩
      have e : (UInt8.ofNat (48 + u)).toNat = 48 + u := by simp; omega
      omega
    · obtain ⟨c, r, e, hc⟩ := ih (u / 10) (by omega) (by omega)
      exact ⟨c, r ++ [UInt8.ofNat (48 + u % 10)], by rw [Lib.decDigits, dif_neg h, e]; rfl, hc⟩
theorem plain_dec (u : Nat) : plainL (Lib.decDigits u) = Lib.decDigits u := by
  by_cases h : 0 < u
  · obtain ⟨c, r, e, hc⟩ := dec_lead u h
    unfold plainL
    rw [e, List.dropWhile_cons, if_neg (by simpa using hc)]
  · have : u = 0 := by omega
    subst this
    rw [Lib.decDigits_one (by omega)]
    rfl
theorem plainB_dec (u : Nat) : plainB (sof (Lib.decDigits u)) = sof (Lib.decDigits u) := by rw [plainB, bl_sof, plain_dec]
/-! ### expressions -/
def Hx (u : Tk) : Prop := aggT u = 0 ∧ isB u qStar = false
def HdX (T : List Tk) : Prop := ∀ u L, T = u :: L → Hx u
theorem HdX.mk {u : Tk} {L : List Tk} (h : Hx u) : HdX (u :: L) := fun v M e => by cases e; exact h
structure TxG (x : Ex) : Prop where
  at_ : 8 ≤ x.lvl → ∀ (rest : List UInt8) (n : Nat) (R : List Tk), Sep rest → Lx rest (n + (bl x.text).length) R → ∃ u T, Lx (bl x.text ++ rest) n (u :: T) ∧ (Ev fun f => pt f .M (u :: T) = some (.ok x R)) ∧ isB u qNot = false ∧ (isNum x.op x.v = false → u.2.1 ≠ 2) ∧ Hx u
  low : x.lvl < 8 → ∀ (lv : Int) (rest : List UInt8) (n : Nat) (R : List Tk) (O : RS Ex), lv ≤ x.lvl → Sep rest → Lx rest (n + (bl x.text).length) R → powT R ≤ x.lvl → (Ev fun f => pt f (.L lv x x.lvl) R = some O) → ∃ T, Lx (bl x.text ++ rest) n T ∧ HdX T ∧ Ev fun f => pt f (.E lv) T = some O
section
variable {x : Ex} {lv need : Int} {rest : List UInt8} {n : Nat} {R : List Tk} {O : RS Ex}
theorem TxG.un (X : TxG x) (h : lv ≤ x.lvl) (hs : Sep rest) (hR : Lx rest (n + (bl x.text).length) R) (hp : powT R ≤ tied x) (hL : Ev fun f => pt f (.L lv x (tied x)) R = some O) : ∃ T, Lx (bl x.text ++ rest) n T ∧ HdX T ∧ Ev fun f => pt f (.E lv) T = some O := by
  by_cases h8 : 8 ≤ x.lvl
  · rw [tied, if_pos h8] at hL
    obtain ⟨u, T, h1, h2, h3, _, h5⟩ := X.at_ h8 rest n R hs hR
    exact ⟨_, h1, .mk h5, (h2.and hL).step fun f ⟨a, b⟩ => by rw [ptE_M h3, a]; exact b⟩
  · rw [tied, if_neg h8] at hL hp
    exact X.low (by omega) lv rest n R O h hs hR hp hL
theorem lx_open {r : List UInt8} {T : List Tk} (h : Lx r (n + 1) T) : Lx (40 :: r) n (((n : Int), 4, qOpen) :: T) := Lx.sign (by decide) (fun h => absurd h (by decide)) h
theorem lx_close {r : List UInt8} {T : List Tk} (h : Lx r (n + 1) T) : Lx (41 :: r) n (((n : Int), 4, qClose) :: T) := Lx.sign (by decide) (fun h => absurd h (by decide)) h
theorem TxG.one (X : TxG x) (hs : Sep rest) (hR : Lx rest (n + (bl x.text).length) R) (hp : powT R = 0) : ∃ T, Lx (bl x.text ++ rest) n T ∧ HdX T ∧ Ev fun f => pt f (.E 1) T = some (.ok x R) :=
  X.un (lvl_one x) hs hR (by rw [hp]; have := tied_one x; omega) (Ev.all fun f => ptL_stop hR.ne (.inr hp))
theorem par_A {k : Tk} {T : List Tk} (h4 : k.2.1 = 4) (hk : k.2.2 = qOpen) {m : Int} (h : Ev fun f => pt f (.E 1) T = some (.ok x ((m, 4, qClose) :: R))) : Ev fun f => pt f .A (k :: T) = some (.ok x R) := by
  obtain ⟨k1, k2, k3⟩ := k
  simp only at h4 hk
  subst h4 hk
  refine h.step fun f h => ?_
  rw [pt, if_neg (by simp), if_neg (by simp), if_neg (by simp [isB]), if_neg (by simp [isB]), if_pos (show isB (k1, 4, qOpen) qOpen = true from rfl), h]
  rfl
theorem par_M {k : Tk} {T : List Tk} (h4 : k.2.1 = 4) (hk : k.2.2 = qOpen) {m : Int} (h : Ev fun f => pt f (.E 1) T = some (.ok x ((m, 4, qClose) :: R))) : Ev fun f => pt f .M (k :: T) = some (.ok x R) :=
  (par_A h4 hk h).step fun f h => (ptM_A (by rw [isB, hk]; simp)).trans h
theorem TxG.par (X : TxG x) (hR : Lx rest (n + ((bl x.text).length + 2)) R) : ∃ T, Lx (40 :: (bl x.text ++ 41 :: rest)) n (((n : Int), 4, qOpen) :: T) ∧ Ev fun f => pt f .M (((n : Int), 4, qOpen) :: T) = some (.ok x R) := by
  have hc : Lx (41 :: rest) (n + 1 + (bl x.text).length) (((n + 1 + (bl x.text).length : Nat), 4, qClose) :: R) := lx_close (by rw [show n + 1 + (bl x.text).length + 1 = n + ((bl x.text).length + 2) by omega]; exact hR)
  obtain ⟨T, h1, _, h2⟩ := X.one (Sep.cl rest) hc rfl
  exact ⟨T, lx_open h1, par_M rfl rfl h2⟩
theorem len_brak (s : ByteArray) : (bl (brak s)).length = (bl s).length + 2 := by
  have := bl_brak (rest := []) s
  rw [List.append_nil] at this
  rw [this]
  simp
theorem TxG.full (X : TxG x) (h : lv ≤ need) (hn : need ≤ 9) (hs : Sep rest) (hR : Lx rest (n + (bl (x.at need)).length) R) (hp : powT R ≤ ownOf x need) (hL : Ev fun f => pt f (.L lv x (ownOf x need)) R = some O) : ∃ T, Lx (bl (x.at need) ++ rest) n T ∧ HdX T ∧ Ev fun f => pt f (.E lv) T = some O := by
  unfold Ex.at wrapT at hR ⊢
  unfold ownOf at hp hL
  by_cases hl : x.lvl < need
  · rw [if_pos hl] at hp hL hR ⊢
    rw [len_brak] at hR
    rw [bl_brak]
    obtain ⟨T, h1, h2⟩ := X.par hR
    exact ⟨_, h1, .mk ⟨rfl, rfl⟩, (h2.and hL).step fun f ⟨a, b⟩ => by rw [ptE_M rfl, a]; exact b⟩
  · rw [if_neg hl] at hp hL hR ⊢
    exact X.un (by omega) hs hR hp hL
theorem TxG.stop (X : TxG x) (hn : need ≤ 9) (hs : Sep rest) (hR : Lx rest (n + (bl (x.at need)).length) R) (hp : powT R < need) : ∃ T, Lx (bl (x.at need) ++ rest) n T ∧ HdX T ∧ Ev fun f => pt f (.E need) T = some (.ok x R) :=
  X.full (Int.le_refl _) hn hs hR (by have := own_ge (x := x) hn; omega) (Ev.all fun f => ptL_stop hR.ne (.inl hp))
end
theorem isB_no {t : Tk} {s : ByteArray} (h : t.2.2 ≠ s) : isB t s = false := by
  rw [isB, decide_eq_false h, Bool.and_false]
theorem isB_kind {t : Tk} {s : ByteArray} (h1 : t.2.1 ≠ 1) (h4 : t.2.1 ≠ 4) : isB t s = false := by
  rw [isB, decide_eq_false (by omega), Bool.false_and]
theorem show_txg {v : Val} (h : rightB v = true) (hv : ValOk v) : TxG (.mk 2 E0 v []) := by
  have ht : bl (Ex.mk 2 E0 v []).text = showL v := by
    unfold Ex.text nodeT
    rw [if_neg (by decide), if_pos rfl, bl_sof]
  have hl : 8 ≤ (Ex.mk 2 E0 v []).lvl := by
    show 8 ≤ lvlOf 2 v
    unfold lvlOf
    split
    · omega
    · show 8 ≤ rowOf 2; decide
  have hc := show_cases h _ rfl
  have cv : ∀ {s : ByteArray}, showL v = bl s → cstX s = .mk 2 E0 v [] := fun e => cstX_of h hv e
  have word : ∀ {c : UInt8} {r : List UInt8} {rest : List UInt8} {n : Nat} {R : List Tk}, showL v = c :: r → isLet c = true → (∀ d ∈ c :: r, wordCh d = true) → Sep rest → Lx rest (n + (c :: r).length) R → (sof (c :: r) = qNull ∨ sof (c :: r) = qTrue ∨ sof (c :: r) = qFalse) →
      ∃ u T, Lx ((c :: r) ++ rest) n (u :: T) ∧ (Ev fun f => pt f .M (u :: T) = some (.ok (.mk 2 E0 v []) R)) ∧ isB u qNot = false ∧ (isNum 2 v = false → u.2.1 ≠ 2) ∧ Hx u := by
    intro c r rest n R e hlt hw hs hR hk
    refine ⟨_, _, Lx.word hlt hw hs.word hR, ?_, ?_, fun _ => by simp, ?_, ?_⟩
    · have hm : isB ((n : Int), 1, sof (c :: r)) qMinus = false := isB_no (by rcases hk with k | k | k <;> (simp only [k]; decide))
      refine Ev.step (Ev.all fun f => ?_) fun f h => (ptM_A hm).trans h
      have h3 : isB ((n : Int), 1, sof (c :: r)) qNull = true ∨ isB ((n : Int), 1, sof (c :: r)) qTrue = true ∨ isB ((n : Int), 1, sof (c :: r)) qFalse = true := by
        rcases hk with k | k | k
        · left; rw [k]; rfl
        · right; left; rw [k]; rfl
        · right; right; rw [k]; rfl
      rw [pt, if_neg (by simp), if_neg (by simp), if_pos h3]
      simp only
      rw [cv (by rw [bl_sof]; exact e)]
    · exact isB_no (by rcases hk with k | k | k <;> (simp only [k]; decide))
    · rw [aggT, if_pos rfl]; rcases hk with k | k | k <;> (simp only [k]; decide)
    · exact isB_no (by rcases hk with k | k | k <;> (simp only [k]; decide))
  refine ⟨fun _ rest n R hs hR => ?_, fun h8 => absurd h8 (by omega)⟩
  rw [ht] at hR ⊢
  rcases hc with ⟨_, e⟩ | ⟨e1, e⟩ | ⟨_, e⟩ | ⟨_, e⟩ | ⟨_, _, e⟩
  · rw [e] at hR ⊢
    exact word e (by decide) (by decide) hs hR (.inl rfl)
  · have hnum : isNum 2 v = true := by
      rw [isNum, decide_eq_true ⟨rfl, by rw [e1]⟩]
    rw [e] at hR ⊢
    unfold Lib.itoa at e hR ⊢
    split at e
    · rename_i hneg
      rw [if_pos hneg] at hR ⊢
      obtain ⟨c, r, ec, _⟩ := vdec_head v.2.1.natAbs
      have hd := dec_dig v.2.1.natAbs
      have hp := plainB_dec v.2.1.natAbs
      have hld := dec_lead v.2.1.natAbs (by omega)
      rw [ec] at hR hd hp e hld ⊢
      refine ⟨((n : Int), 4, qMinus), ((n + 1 : Nat), 2, sof (c :: r)) :: R, ?_, Ev.all fun f => ?_, rfl, fun h0 => (by have h0 : isNum 2 v = false := h0; rw [h0] at hnum; cases hnum), rfl, rfl⟩
      · have g := Lx.num (n := n + 1) hd hs.dig (by rw [show n + 1 + (c :: r).length = n + (45 :: c :: r).length by simp only [List.length_cons]; omega]; exact hR)
        exact Lx.sign (c := 45) (by decide) (fun h => absurd h (by decide)) g
      · rw [ptM_num rfl rfl]
        simp only
        rw [negX, hp, if_neg]
        · rw [cv]
          rw [bl_append, bl_sof]
          exact e
        · intro h0
          obtain ⟨c', r', h1, h2⟩ := hld
          have := congrArg bl h0
          rw [bl_sof] at this
          rw [this] at h1
          have h1 : [(48 : UInt8)] = c' :: r' := h1
          simp only [List.cons.injEq] at h1
          rw [← h1.1] at h2
          exact h2 rfl
    · rename_i hpos
      rw [if_neg hpos] at hR ⊢
      obtain ⟨c, r, ec, _⟩ := vdec_head v.2.1.toNat
      have hd := dec_dig v.2.1.toNat
      have hp := plainB_dec v.2.1.toNat
      rw [ec] at hR hd hp e ⊢
      refine ⟨((n : Int), 2, sof (c :: r)), R, Lx.num hd hs.dig hR, Ev.step (Ev.all fun f => ?_) fun f h => (ptM_A (isB_kind (by simp) (by simp))).trans h, isB_kind (by simp) (by simp), fun h0 => (by have h0 : isNum 2 v = false := h0; rw [h0] at hnum; cases hnum), rfl, isB_kind (by simp) (by simp)⟩
      rw [pt, if_pos rfl]
      simp only
      rw [hp, cv (by rw [bl_sof]; exact e)]
  · rw [e] at hR ⊢
    exact word e (by decide) (by decide) hs hR (.inr (.inr rfl))
  · rw [e] at hR ⊢
    exact word e (by decide) (by decide) hs hR (.inr (.inl rfl))
  · rw [e] at hR ⊢
    refine ⟨((n : Int), 3, sof (39 :: quoteL (bl v.2.2) ++ [39])), R, Lx.text (fun d u hd => ?_) hR, Ev.step (Ev.all fun f => ?_) fun f h => (ptM_A (isB_kind (by simp) (by simp))).trans h, isB_kind (by simp) (by simp), fun _ => by simp, rfl, isB_kind (by simp) (by simp)⟩
    · rcases hs with rfl | ⟨c', r', rfl, h⟩
      · cases hd
      · cases hd
        rcases h with rfl | rfl | rfl <;> decide
    · rw [pt, if_neg (by simp), if_pos rfl]
      simp only
      rw [cv (by rw [bl_sof]; exact e)]
theorem op_lx {op : Int} (h : 3 ≤ op ∧ op ≤ 13 ∧ op ≠ 8) {s : List UInt8} {n : Nat} {T : List Tk} (hT : Lx s (n + (bl (signOf op)).length + 2) T) : ∃ u, Lx (32 :: (bl (signOf op) ++ 32 :: s)) n (u :: T) ∧ powF u = (rowOf op, op) ∧ isB u qIs = false := by
  have hn : op = 3 ∨ op = 4 ∨ op = 5 ∨ op = 6 ∨ op = 7 ∨ op = 9 ∨ op = 10 ∨ op = 11 ∨ op = 12 ∨ op = 13 := by omega
  have sg : ∀ {c : UInt8}, signCh c = true → bl (signOf op) = [c] → Lx (32 :: (bl (signOf op) ++ 32 :: s)) n ((((n + 1 : Nat) : Int), 4, sof [c]) :: T) := fun {c} hc e => by
    rw [e] at hT ⊢
    refine Lx.sp (Lx.sign hc (fun _ d u h => ?_) (Lx.sp ?_))
    · cases h; decide
    · rw [show n + 1 + 1 + 1 = n + [c].length + 2 by simp]
      exact hT
  have wd : ∀ {c : UInt8} {r : List UInt8}, isLet c = true → (∀ d ∈ c :: r, wordCh d = true) → bl (signOf op) = c :: r → Lx (32 :: (bl (signOf op) ++ 32 :: s)) n ((((n + 1 : Nat) : Int), 1, sof (c :: r)) :: T) := fun {c r} hc hw e => by
    rw [e] at hT ⊢
    refine Lx.sp (Lx.word hc hw (fun d u h => by cases h; decide) (Lx.sp ?_))
    rw [show n + 1 + (c :: r).length + 1 = n + (c :: r).length + 2 by omega]
    exact hT
  rcases hn with rfl | rfl | rfl | rfl | rfl | rfl | rfl | rfl | rfl | rfl
  · exact ⟨_, sg (c := 43) (by decide) rfl, rfl, rfl⟩
  · exact ⟨_, sg (c := 45) (by decide) rfl, rfl, rfl⟩
  · exact ⟨_, sg (c := 42) (by decide) rfl, rfl, rfl⟩
  · exact ⟨_, sg (c := 47) (by decide) rfl, rfl, rfl⟩
  · exact ⟨_, sg (c := 37) (by decide) rfl, rfl, rfl⟩
  · exact ⟨_, sg (c := 61) (by decide) rfl, rfl, rfl⟩
  · exact ⟨_, sg (c := 60) (by decide) rfl, rfl, rfl⟩
  · refine ⟨_, Lx.sp (Lx.le (Lx.sp (T := T) ?_)), rfl, rfl⟩
    rw [show n + 1 + 2 + 1 = n + (bl (signOf 11)).length + 2 from rfl]
    exact hT
  · exact ⟨_, wd (c := 97) (r := [110, 100]) (by decide) (by decide) rfl, rfl, rfl⟩
  · exact ⟨_, wd (c := 111) (r := [114]) (by decide) (by decide) rfl, rfl, rfl⟩
theorem txg_all : ∀ (x : Ex) (d : Nat), x.nice d → x.fit → TxG x := by
  intro x
  induction x using Ex.ind with
  | h op nm v ks ih =>
    intro d hx hf
    cases d with
    | zero => have := hx.1; simp [Ex.okA] at this
    | succ d =>
      obtain ⟨ho, hk⟩ := nice_kid hx
      obtain ⟨_, hnm, hv, hrv⟩ := okN_iff.1 ho
      simp only [Ex.op, Ex.nm, Ex.v] at hnm hv hrv
      unfold Ex.fit at hf
      have hfk := fitL_iff.1 hf.2
      rcases okN_kids ho with ⟨hop, rfl⟩ | ⟨hop, k, rfl⟩ | ⟨hop, k, k', rfl⟩
      · rcases hop with rfl | rfl
        · have hv : v = V0 := hv.resolve_left (by decide)
          subst hv
          obtain ⟨c, r, hb, hl, hw, hkey⟩ := name_bl (hx.2 nm (by simp [Ex.names]))
          have ht : bl (Ex.mk 1 nm V0 []).text = c :: r := by
            unfold Ex.text nodeT
            rw [if_pos rfl, hb]
          have hnb : nm = sof (c :: r) := by rw [← hb, sof_bl]
          have nk : ∀ k, (keyWords.any fun y => decide (y = k)) = true → sof (c :: r) ≠ k := fun k hk h => by
            obtain ⟨y, hy, e⟩ := List.any_eq_true.1 hk
            exact hkey y hy (by rw [of_decide_eq_true e, hnb, h])
          have hkb : isKeyB (sof (c :: r)) = false := by
            rw [isKeyB]
            apply Bool.eq_false_iff.2
            intro h
            obtain ⟨k, hk, h2⟩ := List.any_eq_true.1 h
            exact hkey k hk (by rw [of_decide_eq_true h2, ← hnb])
          have nm0 : ∀ {n : Int} {k : ByteArray}, (keyWords.any fun y => decide (y = k)) = true → isB (n, 1, sof (c :: r)) k = false := fun hk => isB_no (nk _ hk)
          have nc : ∀ {n : Int} {e : UInt8}, isLet e = false → isB (n, 1, sof (c :: r)) (sof [e]) = false := fun {n e} he => isB_no fun h => by
            have := congrArg bl h
            rw [bl_sof, bl_sof] at this
            simp only [List.cons.injEq] at this
            rw [← this.1] at he
            rw [hl] at he
            cases he
          refine ⟨fun _ rest n R hs hR => ?_, fun h8 => absurd h8 (by show ¬ lvlOf 1 V0 < 8; decide)⟩
          rw [ht] at hR ⊢
          refine ⟨_, _, Lx.word hl hw hs.word hR, Ev.step (Ev.all fun f => ?_) fun f h => (ptM_A (nc (e := 45) (by decide))).trans h, nm0 (by decide), fun _ => by simp, ?_, nc (e := 42) (by decide)⟩
          rotate_left
          · rw [aggT, if_pos rfl, gatB, if_neg (nk _ (by decide)), if_neg (nk _ (by decide)), if_neg (nk _ (by decide)), if_neg (nk _ (by decide))]
          rw [pt, if_neg (by simp), if_neg (by simp), if_neg (by rw [nm0 (by decide), nm0 (by decide), nm0 (by decide)]; decide), if_neg (by rw [nm0 (by decide)]; decide), if_neg (by rw [show qOpen = sof [40] from rfl, nc (by decide)]; decide), nameT, if_pos ⟨rfl, hkb⟩, colX, ← hnb]
        · have hn : nm = E0 := hnm.resolve_left (by decide)
          subst hn
          exact show_txg hrv ⟨hf.1.2.2.1.1, hf.1.2.2.1.2⟩
      · have X := ih k (by simp) d (hk k (by simp)) (hfk k (by simp))
        have hn : nm = E0 := hnm.resolve_left (by omega)
        have hv : v = V0 := hv.resolve_left (by omega)
        subst hn hv
        rcases hop with rfl | rfl | rfl | rfl
        · have hl : (Ex.mk 8 E0 V0 [k]).lvl = 8 := by show lvlOf 8 V0 = 8; decide
          have ht : bl (nodeT 8 E0 V0 (Ex.texts [k])) = 45 :: (if isNum k.op k.v = true then 40 :: (bl k.text ++ [41]) else bl (k.at 8)) := by
            unfold nodeT
            rw [if_neg (by decide), if_neg (by decide), if_neg (by decide), if_neg (by decide), if_neg (by decide), if_pos rfl]
            show bl (if isNum k.op k.v = true then _ else _) = _
            split
            · rw [bl_append, bl_append, kidT0, at_one]; rfl
            · rw [bl_append, kidT0]; rfl
          refine ⟨fun _ rest n R hs hR => ?_, fun h8 => absurd h8 (by omega)⟩
          have fin : ∀ {u : Tk} {T : List Tk} {l : List UInt8}, Lx (l ++ rest) (n + 1) (u :: T) → u.2.1 ≠ 2 → (Ev fun f => pt f .M (u :: T) = some (.ok k R)) → ∃ u' T', Lx (45 :: l ++ rest) n (u' :: T') ∧ (Ev fun f => pt f .M (u' :: T') = some (.ok (.mk 8 E0 V0 [k]) R)) ∧ isB u' qNot = false ∧ (isNum 8 V0 = false → u'.2.1 ≠ 2) ∧ Hx u' :=
            fun {u T l} h1 h2 h3 => ⟨((n : Int), 4, qMinus), u :: T, Lx.sign (c := 45) (by decide) (fun h => absurd h (by decide)) h1, h3.step fun f h => (by rw [ptM_neg rfl h2, h]; rfl), rfl, fun _ => (by simp), rfl, rfl⟩
          change Lx rest (n + (bl (nodeT 8 E0 V0 (Ex.texts [k]))).length) R at hR
          show ∃ u T, Lx (bl (nodeT 8 E0 V0 (Ex.texts [k])) ++ rest) n (u :: T) ∧ _
          rw [ht] at hR ⊢
          by_cases hnum : isNum k.op k.v = true
          · rw [if_pos hnum] at hR ⊢
            have e : (40 :: (bl k.text ++ [41])) ++ rest = 40 :: (bl k.text ++ 41 :: rest) := by simp
            obtain ⟨T, h1, h2⟩ := X.par (n := n + 1) (rest := rest) (R := R) (by
              have e2 : n + 1 + ((bl k.text).length + 2) = n + (45 :: 40 :: (bl k.text ++ [41])).length := by simp only [List.length_cons, List.length_append, List.length_nil]; omega
              rw [e2]; exact hR)
            exact fin (by rw [e]; exact h1) (by simp) h2
          · rw [if_neg hnum] at hR ⊢
            have hnf : isNum k.op k.v = false := by simpa using hnum
            unfold Ex.at wrapT at hR ⊢
            by_cases h8 : k.lvl < 8
            · rw [if_pos h8] at hR ⊢
              rw [List.length_cons, len_brak] at hR
              obtain ⟨T, h1, h2⟩ := X.par (n := n + 1) (rest := rest) (R := R) (by
                rw [show n + 1 + ((bl k.text).length + 2) = n + ((bl k.text).length + 2 + 1) by omega]; exact hR)
              exact fin (by rw [bl_brak]; exact h1) (by simp) h2
            · rw [if_neg h8] at hR ⊢
              obtain ⟨u, T, h1, h2, h3, h4, _⟩ := X.at_ (by omega) rest (n + 1) R hs (by
                rw [List.length_cons] at hR
                rw [show n + 1 + (bl k.text).length = n + ((bl k.text).length + 1) by omega]; exact hR)
              exact fin h1 (h4 hnf) h2
        · have hl : (Ex.mk 14 E0 V0 [k]).lvl = 3 := by show lvlOf 14 V0 = 3; decide
          have ht : bl (nodeT 14 E0 V0 (Ex.texts [k])) = notW ++ bl (k.at 3) := by
            unfold nodeT
            rw [if_neg (by decide), if_neg (by decide), if_neg (by decide), if_pos rfl, bl_append, kidT0]; rfl
          refine ⟨fun h8 => absurd h8 (by omega), fun _ lv rest n R O hlv hs hR hp hL => ?_⟩
          rw [hl] at hlv hp hL
          change Lx rest (n + (bl (nodeT 14 E0 V0 (Ex.texts [k]))).length) R at hR
          show ∃ T, Lx (bl (nodeT 14 E0 V0 (Ex.texts [k])) ++ rest) n T ∧ _
          rw [ht] at hR ⊢
          have := powT_tab R
          obtain ⟨T, h1, _, h2⟩ := X.stop (need := 3) (n := n + 4) (rest := rest) (R := R) (by decide) hs (by
            rw [List.length_append] at hR
            rw [show n + 4 + (bl (k.at 3)).length = n + (notW.length + (bl (k.at 3)).length) by show _ = n + (4 + _); omega]; exact hR) (by omega)
          refine ⟨((n : Int), 1, qNot) :: T, ?_, .mk ⟨rfl, rfl⟩, (h2.and hL).step fun f ⟨a, b⟩ => by rw [ptE_not hlv rfl, a]; exact b⟩
          have g := Lx.word (c := 110) (r := [111, 116]) (rest := 32 :: (bl (k.at 3) ++ rest)) (n := n) (by decide) (by decide) (fun d u h => by cases h; decide) (Lx.sp h1)
          rw [List.append_assoc]
          exact g
        · have hl : (Ex.mk 15 E0 V0 [k]).lvl = 4 := by show lvlOf 15 V0 = 4; decide
          have ht : bl (nodeT 15 E0 V0 (Ex.texts [k])) = bl (k.at 5) ++ [32, 105, 115, 32, 110, 117, 108, 108] := by
            unfold nodeT
            rw [if_neg (by decide), if_neg (by decide), if_neg (by decide), if_neg (by decide), if_pos rfl, bl_append, kidT0]; rfl
          refine ⟨fun h8 => absurd h8 (by omega), fun _ lv rest n R O hlv hs hR hp hL => ?_⟩
          rw [hl] at hlv hp hL
          change Lx rest (n + (bl (nodeT 15 E0 V0 (Ex.texts [k]))).length) R at hR
          show ∃ T, Lx (bl (nodeT 15 E0 V0 (Ex.texts [k])) ++ rest) n T ∧ _
          rw [ht] at hR ⊢
          rw [List.append_assoc]
          have ho5 := own_ge (x := k) (need := 5) (by decide)
          obtain ⟨m, hm⟩ : ∃ m, m = n + (bl (k.at 5)).length := ⟨_, rfl⟩
          have hR' : Lx ([32, 105, 115, 32, 110, 117, 108, 108] ++ rest) m (((m + 1 : Nat), 1, qIs) :: ((m + 4 : Nat), 1, qNull) :: R) := by
            refine Lx.sp (Lx.word (c := 105) (r := [115]) (rest := [32, 110, 117, 108, 108] ++ rest) (by decide) (by decide) (fun d u h => by cases h; decide) (Lx.sp (Lx.word (c := 110) (r := [117, 108, 108]) (rest := rest) (n := m + 4) (by decide) (by decide) hs.word ?_)))
            rw [List.length_append, ← Nat.add_assoc, ← hm] at hR
            exact hR
          rw [hm] at hR'
          exact X.full (need := 5) (by omega) (by decide) (Sep.sp _) hR' (by show (4 : Int) ≤ _; omega) (hL.step fun f b => by rw [ptL_null (by omega) ho5 rfl rfl]; exact b)
        · have ht : ∀ rest, bl (nodeT 16 E0 V0 (Ex.texts [k])) ++ rest = lenW ++ 40 :: (bl (k.at 1) ++ 41 :: rest) := by
            intro rest
            unfold nodeT
            rw [if_neg (by decide), if_neg (by decide), if_pos rfl, bl_append, bl_append, kidT0]
            simp [bl, lenW]
          have hlen : (bl (nodeT 16 E0 V0 (Ex.texts [k]))).length = (bl (k.at 1)).length + 5 := by
            have := congrArg List.length (ht [])
            rw [List.append_nil] at this
            rw [this]
            simp [lenW]
          refine ⟨fun _ rest n R hs hR => ?_, fun h8 => absurd h8 (by show ¬ lvlOf 16 V0 < 8; decide)⟩
          change Lx rest (n + (bl (nodeT 16 E0 V0 (Ex.texts [k]))).length) R at hR
          show ∃ u T, Lx (bl (nodeT 16 E0 V0 (Ex.texts [k])) ++ rest) n (u :: T) ∧ _
          rw [hlen] at hR
          rw [ht]
          have hc : Lx (41 :: rest) (n + 4 + (bl (k.at 1)).length) (((n + 4 + (bl (k.at 1)).length : Nat), 4, qClose) :: R) := lx_close (by rw [show n + 4 + (bl (k.at 1)).length + 1 = n + ((bl (k.at 1)).length + 5) by omega]; exact hR)
          obtain ⟨T, h1, _, h2⟩ := X.stop (need := 1) (by decide) (Sep.cl rest) hc (by show (0 : Int) < 1; decide)
          refine ⟨((n : Int), 1, qLen), ((n + 3 : Nat), 4, qOpen) :: T, Lx.word (c := 108) (r := [101, 110]) (rest := 40 :: (bl (k.at 1) ++ 41 :: rest)) (by decide) (by decide) (fun d u h => by cases h; decide) (lx_open h1), ?_, rfl, fun _ => by simp, rfl, rfl⟩
          refine Ev.step (h2.step fun f h => ?_) fun f h => (ptM_A rfl).trans h
          rw [pt, if_neg (by simp), if_neg (by simp), if_neg (by simp [isB]), if_pos (show isB ((n : Int), 1, qLen) qLen = true from rfl), needT, if_pos (show isB (((n + 3 : Nat) : Int), 4, qOpen) qOpen = true from rfl), h]
          rfl
      · have X := ih k (by simp) d (hk k (by simp)) (hfk k (by simp))
        have X' := ih k' (by simp) d (hk k' (by simp)) (hfk k' (by simp))
        have hn : nm = E0 := hnm.resolve_left (by omega)
        have hv : v = V0 := hv.resolve_left (by omega)
        subst hn hv
        have hrow : 1 ≤ rowOf op ∧ rowOf op ≤ 7 := by
          have : op = 3 ∨ op = 4 ∨ op = 5 ∨ op = 6 ∨ op = 7 ∨ op = 9 ∨ op = 10 ∨ op = 11 ∨ op = 12 ∨ op = 13 := by omega
          rcases this with rfl | rfl | rfl | rfl | rfl | rfl | rfl | rfl | rfl | rfl <;> decide
        have hl : (Ex.mk op E0 V0 [k, k']).lvl = rowOf op := by
          show lvlOf op V0 = _
          unfold lvlOf
          rw [if_neg (by omega)]
        have ht : ∀ rest, bl (nodeT op E0 V0 (Ex.texts [k, k'])) ++ rest = bl (k.at (leftNeed op)) ++ 32 :: (bl (signOf op) ++ 32 :: (bl (k'.at (rowOf op + 1)) ++ rest)) := by
          intro rest
          unfold nodeT
          rw [if_neg (by omega), if_neg (by omega), if_neg (by omega), if_neg (by omega), if_neg (by omega), if_neg (by omega), bl_append, bl_append, bl_append, bl_append, kidT0, kidT1]
          simp [bl]
        have hlen : (bl (nodeT op E0 V0 (Ex.texts [k, k']))).length = (bl (k.at (leftNeed op))).length + (bl (signOf op)).length + 2 + (bl (k'.at (rowOf op + 1))).length := by
          have := congrArg List.length (ht [])
          rw [List.append_nil] at this
          rw [this]
          simp only [List.length_append, List.length_cons, List.length_nil]
          omega
        refine ⟨fun h8 => absurd h8 (by omega), fun _ lv rest n R O hlv hs hR hp hL => ?_⟩
        rw [hl] at hlv hp hL
        change Lx rest (n + (bl (nodeT op E0 V0 (Ex.texts [k, k']))).length) R at hR
        show ∃ T, Lx (bl (nodeT op E0 V0 (Ex.texts [k, k'])) ++ rest) n T ∧ _
        rw [hlen] at hR
        rw [ht]
        have hleft : rowOf op ≤ leftNeed op ∧ leftNeed op ≤ 7 ∧ (rowOf op = 5 → leftNeed op = 6) := by
          unfold leftNeed
          split <;> omega
        have hown := own_ge (x := k) (need := leftNeed op) (by omega)
        obtain ⟨T', h1', _, h2'⟩ := X'.stop (need := rowOf op + 1) (n := n + (bl (k.at (leftNeed op))).length + (bl (signOf op)).length + 2) (by omega) hs (by
          rw [show n + (bl (k.at (leftNeed op))).length + (bl (signOf op)).length + 2 + (bl (k'.at (rowOf op + 1))).length = n + ((bl (k.at (leftNeed op))).length + (bl (signOf op)).length + 2 + (bl (k'.at (rowOf op + 1))).length) by omega]
          exact hR) (by omega)
        obtain ⟨u, h3, h4, h5⟩ := op_lx hop h1'
        have hpu : powT (u :: T') = rowOf op := by rw [powT, if_neg (by rw [h5]; decide), h4]
        refine X.full (need := leftNeed op) (by omega) (by omega) (Sep.sp _) h3 (by rw [hpu]; omega) ((h2'.and hL).step fun f ⟨a, b⟩ => ?_)
        rw [ptL_bin hrow.1 h4 h5 hlv (by omega) (by rintro ⟨h1, h2⟩; have := hleft.2.2 h1; omega), a]
        exact b
end Go.Proofs.YtbpdfpfgijhokaaGreatDoor
