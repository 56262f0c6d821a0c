/-
  Texts of this claim, laid one behind the other by a program of mine (install.py): K.La5.
-/
import Derived.Test.YtfgbfodohmeamaaGreatDoorM6
/-
  stackyardlaw19.WalFull; a call on both logs.
-/
namespace Go.Proofs.YtfgbfodohmeamaaGreatDoor
open Go.Dn Go.Proofs
open Go.RowKit (Below)
set_option linter.unusedVariables false
set_option maxRecDepth 100000
theorem dkE_suffix {D : DiskC} {E : List It} : E.Sublist (dkE D E) := by
  unfold dkE
  exact (((((List.sublist_append_right _ _).trans (List.sublist_append_right _ _)).cons _).cons _).cons _).cons _
structure LawQ (n : Nat) (mx : Int) (L : LogP) (D : DiskC) (Y : List UInt8) : Prop where
  ok : LogOk L mx
  ll : L.l.length ≤ 20 * n
  sz : sizeL L ≤ 200 + 12000 * n
  fz : D.fused = false
  q : WQ D (20 + 20 * n) (200 + 12000 * n) (some Y)
  wh : WholeF Y L
theorem LawQ.step {n : Nat} {mx : Int} {L L1 L2 : LogP} {D D' : DiskC} {Y : List UInt8} {x : Op9} {e e1 : Int} (h : LawQ n mx L D Y) (hx : x.term ≤ 9223372036854775807) (hd : x.data.size ≤ 500) (hr : RefOp (stepM L x) L e1 L1)
    (hdo : DoesR D (20 + 20 * n) (200 + 12000 * (n + 1)) Y L x e D' L2) (sm : Sam D D') :
    (e = e1 ∧ (e = 0 ∨ e = 2) ∧ L1 = L2 ∧ ∃ Y', LawQ (n + 1) (mx + 100) L2 D' Y') ∨ (e = 181 ∧ e1 = 0 ∧ L2 = L ∧ (D.room : Int) < 3 * ((200 + 12000 * (n + 1) : Nat) : Int) ∧ LawQ (n + 1) (mx + 100) L D' Y) := by
  have hfz : D'.fused = false := by rw [sm.fused]; exact h.fz
  have hll := h.ll
  have hsz := h.sz
  rcases hdo with ⟨hs, rfl, rfl, rfl⟩ | ⟨L', hs, ⟨rfl, rfl, Y', hw, hq⟩ | ⟨rfl, rfl, hl, hq⟩ | ⟨_, _, hf, _⟩⟩
  · rcases hr with ⟨_, rfl, rfl⟩ | ⟨h1, _⟩
    · exact .inl ⟨rfl, .inr rfl, rfl, Y, h.ok.mono (by omega), by omega, by omega, h.fz, h.q.mono (by omega) (by omega), h.wh⟩
    · rw [hs] at h1; cases h1
  · obtain ⟨g1, g2, g3⟩ := stepM_ok h.ok hx hd hs
    rcases hr with ⟨h1, _⟩ | ⟨h1, rfl⟩
    · rw [hs] at h1; cases h1
    · obtain rfl := Option.some.inj (hs.symm.trans h1)
      exact .inl ⟨rfl, .inl rfl, rfl, Y', g1, by omega, by omega, hfz, hq.mono (by omega) (Nat.le_refl _), hw⟩
  · rcases hr with ⟨h1, _⟩ | ⟨h1, rfl⟩
    · rw [hs] at h1; cases h1
    · exact .inr ⟨rfl, rfl, rfl, hl, h.ok.mono (by omega), by omega, by omega, hfz, (hq h.fz).mono (by omega) (Nat.le_refl _), h.wh⟩
  · rw [h.fz] at hf; cases hf
section
variable {w0 w : World} {H : List It} {W : WalC} {D : DiskC} {G : LogC}
theorem logR_in {P : List It} (S : ST w0 w (P ++ walI W D.b (dkE D (logD G H)))) : LogR w G :=
  ⟨S.ok (It.cells G.b G.cells ty.ref19_Log) (by simp [walI, dkE, logD]), S.ok (It.rd G.la (G.L.l.flatMap entC)) (by simp [walI, dkE, logD])⟩
theorem clone_in {P : List It} (S : ST w0 w (P ++ walI W D.b (dkE D (logD G H)))) (hn : G.L.l.length ≤ 1000000) :
    Calls Tryz.prog f.ref19_Log_Clone #[ptrV G.b] w (Ret fun v w' => ∃ G1, v = ptrV G1.b ∧ G1.L = G.L ∧ ST w0 w' (logI G1 (P ++ walI W D.b (dkE D (logD G H))))) := by
  refine (ref19_Clone_ok (logR_in S) hn).mono ?_
  rintro _ w' ⟨_, rfl, G1, rfl, hL, T⟩
  exact ⟨_, rfl, G1, rfl, hL, S.join T⟩
theorem call_in {x : Op9} {b : Nat} {G2 : LogC} {n : Nat} {mx : Int} {Y : List UInt8} (S : ST w0 w (logD G2 ([It.cells b x.cells ty.law19_Op] ++ walI W D.b (dkE D (logD G H))))) (h : LawQ n mx W.L D Y) (hG : G.L = W.L) (hmx : mx ≤ 2305843009213693952) (hn : n ≤ 200) (hx : x.term ≤ 9223372036854775807) (hd : x.data.size ≤ 500) :
    Calls Tryz.prog f.law19_call #[ptrV W.b, ptrV G.b, .agg x.cells] w (Ret fun u w' => ∃ e D' la lc L2, u = .int .i64 e ∧ Sam D D' ∧ DoesR D (20 + 20 * n) (200 + 12000 * (n + 1)) Y W.L x e D' L2 ∧ ST w0 w' (logD G2 ([It.cells b x.cells ty.law19_Op] ++ walI { W with la := la, lc := lc, L := L2 } D'.b (dkE D' (logD G H))))) := by
  have hYl := h.q.len
  have hll := h.ll
  have hsz := h.sz
  have Sp := S.perm (lift_perm (W := W) (D := D) (H := logD G H) [It.cells G2.b G2.cells ty.ref19_Log, It.rd G2.la (G2.L.l.flatMap entC), It.cells b x.cells ty.law19_Op] D.b)
  refine (law19_call_ok Sp (h.q.mono (Nat.le_refl _) (show 200 + 12000 * n ≤ 200 + 12000 * (n + 1) by omega)) h.wh (by omega) h.ok hmx (by omega) hG (by simp [logD]) (by simp [logD]) x hx hd (by omega) (by omega) (by omega)).mono ?_
  rintro _ w' ⟨_, rfl, e, D', la, lc, L2, rfl, sm, hdo, S'⟩
  exact ⟨_, rfl, e, D', la, lc, L2, rfl, sm, hdo, S'.perm (lift_perm (W := { W with la := la, lc := lc, L := L2 }) (D := D') (H := logD G H) [It.cells G2.b G2.cells ty.ref19_Log, It.rd G2.la (G2.L.l.flatMap entC), It.cells b x.cells ty.law19_Op] D'.b).symm⟩
theorem take_new {P : List It} {G2 : LogC} (S : ST w0 w (logD G2 (P ++ walI W D.b (dkE D (logD G H))))) : ST w0 w (P ++ walI W D.b (dkE D (logD G2 H))) := by
  have S1 := S.perm (lift_perm (W := W) (D := D) (H := logD G H) ([It.cells G2.b G2.cells ty.ref19_Log, It.rd G2.la (G2.L.l.flatMap entC)] ++ P) D.b)
  have S2 : ST w0 w (walI W D.b (dkE D (([It.cells G2.b G2.cells ty.ref19_Log, It.rd G2.la (G2.L.l.flatMap entC)] ++ P) ++ H))) := S1.sub (walI_mono (dkE_mono ((List.Sublist.refl _).append (List.sublist_append_right [It.cells G.b G.cells ty.ref19_Log, It.rd G.la (G.L.l.flatMap entC)] H))))
  have e : (([It.cells G2.b G2.cells ty.ref19_Log, It.rd G2.la (G2.L.l.flatMap entC)] ++ P) ++ H).Perm (P ++ logD G2 H) := by
    rw [List.append_assoc]
    exact List.perm_append_comm_assoc _ _ _
  have e2 : (dkE D (([It.cells G2.b G2.cells ty.ref19_Log, It.rd G2.la (G2.L.l.flatMap entC)] ++ P) ++ H)).Perm (dkE D (P ++ logD G2 H)) := by
    unfold dkE
    exact ((((((e.append_left _).append_left _).cons _).cons _).cons _).cons _)
  exact (S2.perm ((e2.cons _).cons _)).perm (lift_perm P D.b).symm
theorem keep_old {P : List It} {G2 : LogC} (S : ST w0 w (logD G2 (P ++ walI W D.b (dkE D (logD G H))))) : ST w0 w (P ++ walI W D.b (dkE D (logD G H))) := S.drop 2
theorem tells_in {P : List It} (S : ST w0 w (P ++ walI W D.b (dkE D (logD G H)))) (hG : G.L = W.L) {mx : Int} (hL : LogOk W.L mx) (hmx : mx ≤ 2305843009213693952) (hn : W.L.l.length ≤ 100000) :
    Calls Tryz.prog f.law19_tells #[ptrV W.b, ptrV G.b] w (Ret fun v w' => v = .bool true ∧ Below w.heap.size w w') :=
  law19_tells_ok (W := W) (d := D.b) ⟨S.ok (It.cells W.b (W.cells D.b) ty.wal_Wal) (by simp [walI]), (S.ok (rowE W.la W.lc W.L.l) (by simp [walI]) : Row _ _ _ _ _ _ _).rd⟩ (logR_in S) hG hL hmx hn
def newG (b : Nat) : LogC := ⟨b, none, 0, zeroL⟩
theorem start_in {b : Nat} (S : ST w0 w (It.cells b (newG b).cells ty.ref19_Log :: walI W D.b (dkE D H))) : ST w0 w (walI W D.b (dkE D (logD (newG b) H))) := by
  have S1 := (S.add (.refl _ _) (It.rd none (([] : List EntP).flatMap entC)) (Rd.nil w none) (fun k hk => by cases hk)).perm (List.Perm.swap _ _ _)
  exact S1.perm (lift_perm [It.cells b (newG b).cells ty.ref19_Log, It.rd none (([] : List EntP).flatMap entC)] D.b)
theorem WalFull_ok {w : World} (he : NoEnv w) (room : Int) (wr : (Lit.int .i64 room).wf = true) (a : Option Addr) (xs : List ByteArray) (c : Nat) (g : GL w strC strQ a xs c) (y : c * Tryz.prog.bytesOf ty.string ≤ reachBytes) :
    Calls Tryz.prog f.law19_WalFull #[.int .i64 room, .slice a xs.length c] w (Ret fun v w' => v = .bool true ∧ Below w.heap.size w w') := by
  have hrd := g.2.2.2.1
  have hxl : xs.length ≤ 9223372036854775807 := Nat.le_trans (Nat.le_trans g.1 g.2.1) (by decide)
  have strs_at : ∀ {w' : World}, Below w.heap.size w w' → ∀ {i : Nat} (hi : i < xs.length), ∃ p, a = some p ∧ w'.cell? (p.add (i * 1)) = some (.string xs[i]) := fun B i hi => by
    have h := hrd.grown B
    rw [show xs.flatMap strC = xs.map strV from flat1 strV xs] at h
    exact strV_at h hi
  apply R.law19_WalFull_calls
  unfold R.law19_WalFull
  refine (law19_shown_ok w).mono ?_
  rintro _ w1 ⟨_, rfl, rfl, B1⟩
  refine ⟨_, rfl, IFB_dec (fun _ => ⟨rfl, B1⟩) (fun h1 => IFB_dec (fun _ => ⟨rfl, B1⟩) (fun h2 => (law19_opened_ok ((ST.start w).grown B1) room (by omega) (by omega)).mono ?_))⟩
  rintro _ w2 ⟨_, rfl, D0, W0, Y0, rfl, hL0, hroom, hf0, hq0, hw0, S2⟩
  refine ⟨_, _, _, rfl, IFB_false (S2.newB fun b9 w3 _ _ S3 => ?_)⟩
  have S3 := start_in (b := b9) S3
  have hz0 : sizeL zeroL = 100 := rfl
  have Q0 : LawQ 0 0 W0.L D0 Y0 := ⟨by rw [hL0]; exact zero_ok, by rw [hL0]; exact Nat.le_refl _, by rw [hL0, hz0]; omega, hf0, hq0.mono (by omega) (by omega), by rw [hL0]; exact hw0⟩
  refine ⟨fun st w35 => ∃ (i : Nat) (G : LogC) (W : WalC) (D : DiskC) (Y : List UInt8), st = [ptrV G.b] ∧ i ≤ 50 ∧ W.b = W0.b ∧ D.b = D0.b ∧ G.L = W.L ∧ LawQ i (100 * (i : Int)) W.L D Y ∧ ST w w35 (walI W D.b (dkE D (logD G []))), ?_, ?_⟩
  · refine ⟨fun st w4 => ∃ (i : Nat) (G : LogC) (W : WalC) (D : DiskC) (Y : List UInt8), st = [ptrV G.b, .int .i64 (i : Int)] ∧ i ≤ xs.length ∧ i ≤ 50 ∧ W.b = W0.b ∧ D.b = D0.b ∧ G.L = W.L ∧ LawQ i (100 * (i : Int)) W.L D Y ∧ ST w w4 (walI W D.b (dkE D (logD G []))), fun st _ => match st with
      | [_, .int _ i] => xs.length - i.toNat
      | _ => 0, ⟨0, newG b9, W0, D0, Y0, rfl, Nat.zero_le _, by omega, rfl, rfl, hL0.symm, Q0, S3⟩, ?_⟩
    rintro _ _ w4 ⟨i, G, W, D, Y, hst, hi, hi2, hWb, hDb, hG, Q, S4⟩
    cases hst
    have fin : ∃ (j : Nat) (G' : LogC) (W : WalC) (D : DiskC) (Y : List UInt8), [ptrV G.b] = [ptrV G'.b] ∧ j ≤ 50 ∧ W.b = W0.b ∧ D.b = D0.b ∧ G'.L = W.L ∧ LawQ j (100 * (j : Int)) W.L D Y ∧ ST w w4 (walI W D.b (dkE D (logD G' []))) := ⟨i, G, W, D, Y, rfl, hi2, hWb, hDb, hG, Q, S4⟩
    refine IFB_dec (fun hlt => IFB_dec (fun h50 => ?_) (fun _ => fin)) (fun _ => fin)
    have hil : i < xs.length := by omega
    obtain ⟨p, rfl, hc⟩ := strs_at S4.bel hil
    refine ⟨⟨by omega, hlt⟩, _, by rw [Int.toNat_natCast]; exact hc, S4.newB fun b15 w5 _ _ S5 => S5.sto7 0 rfl fun w12 S12 => ?_⟩
    refine ⟨fun st w20 => st = [] ∧ ∃ x : Op9, x.term = 1 ∧ ST w w20 ([It.cells b15 x.cells ty.law19_Op] ++ walI W D.b (dkE D (logD G []))), ?_, ?_⟩
    · refine IFB_eq (fun _ => ?_) (fun _ => ⟨rfl, ⟨1, 0, 1, 1, 0, xs[i], none, 0, 0⟩, rfl, S12⟩)
      obtain ⟨p', hp', hc'⟩ := strs_at S12.bel hil
      cases hp'
      refine ⟨⟨by omega, hlt⟩, xs[i], by rw [Int.toNat_natCast]; exact hc', S12.sto7 0 rfl fun w19 S19 => ⟨rfl, ⟨3, -3, 0, 1, 0, xs[i], none, 0, 0⟩, rfl, S19⟩⟩
    rintro w20 ⟨_, x0, hx0, S20⟩
    refine ⟨_, S20.cell 0 rfl rfl, _, S20.cell 0 rfl rfl, _, S20.cell 0 rfl rfl, _, S20.cell 0 rfl rfl, _, S20.cell 0 rfl rfl, _, S20.cell 0 rfl rfl, _, _, _, S20.cell 0 rfl rfl, (law19_cut_ok S20 x0).mono ?_⟩
    rintro _ w21 ⟨_, rfl, ⟨s, hs, rfl⟩, S21⟩
    obtain ⟨x, hxe⟩ : ∃ x : Op9, x = { x0 with data := s } := ⟨_, rfl⟩
    have hxt : x.term = 1 := by rw [hxe]; exact hx0
    have hxd : x.data.size ≤ 500 := by rw [hxe]; exact hs
    refine ⟨_, _, _, _, _, _, _, _, _, rfl, S21.sto7 0 rfl fun w28 S28 => ?_⟩
    have S28 : ST w w28 ([It.cells b15 x.cells ty.law19_Op] ++ walI W D.b (dkE D (logD G []))) := by rw [hxe]; exact S28
    have hll := Q.ll
    refine (clone_in S28 (by rw [hG]; omega)).mono ?_
    rintro _ w29 ⟨_, rfl, G1, rfl, hG1, S29⟩
    refine ⟨_, rfl, _, S29.cell 2 rfl rfl, _, S29.cell 2 rfl rfl, _, S29.cell 2 rfl rfl, _, S29.cell 2 rfl rfl, _, S29.cell 2 rfl rfl, _, S29.cell 2 rfl rfl, _, _, _, S29.cell 2 rfl rfl, ?_⟩
    refine (law19_model_ok S29 (by rw [hG1, hG]; exact Q.ok) (by omega) (by rw [hG1, hG]; omega) x (by omega)).mono ?_
    rintro _ w30 ⟨_, rfl, e1, la, lc, L1, rfl, hr, S30⟩
    rw [hG1, hG] at hr
    refine ⟨_, rfl, _, S30.cell 2 rfl rfl, _, S30.cell 2 rfl rfl, _, S30.cell 2 rfl rfl, _, S30.cell 2 rfl rfl, _, S30.cell 2 rfl rfl, _, S30.cell 2 rfl rfl, _, _, _, S30.cell 2 rfl rfl, ?_⟩
    rw [← hWb]
    refine (call_in S30 Q hG (by omega) (by omega) (by omega) hxd).mono ?_
    rintro _ w31 ⟨_, rfl, e, D', la2, lc2, L2, rfl, sm, hdo, S31⟩
    refine ⟨_, rfl, ?_⟩
    have nx : ∀ (G3 : LogC) (Y3 : List UInt8) w33, G3.L = L2 → LawQ (i + 1) (100 * (i : Int) + 100) L2 D' Y3 → ST w w33 ([It.cells b15 x.cells ty.law19_Op] ++ walI { W with la := la2, lc := lc2, L := L2 } D'.b (dkE D' (logD G3 []))) →
        Calls Tryz.prog f.law19_tells #[ptrV W.b, ptrV G3.b] w33 (fun e_86 w34 => ∃ t86 : Bool, e_86 = .returned (.bool t86) ∧ IFB (!t86) (Value.bool false = .bool true ∧ Below w.heap.size w w34) ((∃ (j : Nat) (G' : LogC) (W' : WalC) (D : DiskC) (Y : List UInt8), [ptrV G3.b, Value.int .i64 (IntKind.i64.wrap ((i : Int) + 1))] = [ptrV G'.b, .int .i64 (j : Int)] ∧ j ≤ xs.length ∧ j ≤ 50 ∧ W'.b = W.b ∧ D.b = D0.b ∧ G'.L = W'.L ∧ LawQ j (100 * (j : Int)) W'.L D Y ∧ ST w w34 (walI W' D.b (dkE D (logD G' [])))) ∧
          xs.length - (IntKind.i64.wrap ((i : Int) + 1)).toNat < xs.length - ((i : Nat) : Int).toNat)) := fun G3 Y3 w33 hG3 hQ3 S33 => by
      have hll3 := hQ3.ll
      refine (tells_in S33 hG3 hQ3.ok (by omega) (by show L2.l.length ≤ _; omega)).mono ?_
      rintro _ w34 ⟨_, rfl, rfl, B34⟩
      refine ⟨_, rfl, IFB_false ?_⟩
      rw [wrap_succ (by omega)]
      refine ⟨⟨i + 1, G3, { W with la := la2, lc := lc2, L := L2 }, D', Y3, rfl, by omega, by omega, rfl, sm.b.trans hDb, hG3, ?_, (S33.grown B34).drop 1⟩, by simp only [Int.toNat_natCast]; omega⟩
      have e100 : (100 * ((i + 1 : Nat) : Int)) = 100 * (i : Int) + 100 := by push_cast; omega
      rw [e100]
      exact hQ3
    refine ⟨fun st w33 => ∃ (G3 : LogC) (Y3 : List UInt8), st = [ptrV G3.b] ∧ G3.L = L2 ∧ LawQ (i + 1) (100 * (i : Int) + 100) L2 D' Y3 ∧ ST w w33 ([It.cells b15 x.cells ty.law19_Op] ++ walI { W with la := la2, lc := lc2, L := L2 } D'.b (dkE D' (logD G3 []))), ?_, ?_⟩
    · refine ⟨fun st w32 => st = [.bool (decide (e = 0) && decide (e1 = 0))] ∧ w32 = w31, ?_, ?_⟩
      · exact IFB_eq (fun h => ⟨by rw [decide_eq_true h, Bool.true_and]; rfl, rfl⟩) (fun h => ⟨by rw [decide_eq_false h, Bool.false_and], rfl⟩)
      · rintro _ w32 ⟨hst, rfl⟩
        cases hst
        rcases Q.step (by omega) hxd hr hdo sm with ⟨rfl, he02, rfl, Y', hQ'⟩ | ⟨rfl, rfl, rfl, _, hQ'⟩
        · have both : ∀ G3 : LogC, True := fun _ => trivial
          rcases he02 with rfl | rfl
          · exact IFB_true ⟨{ G1 with la := la, lc := lc, L := L1 }, Y', rfl, rfl, hQ', take_new S31⟩
          · refine IFB_false (IFB_ne (fun h => absurd rfl h) (fun _ => ?_))
            have hL1 : L1 = W.L := by
              rcases hr with ⟨_, _, h⟩ | ⟨_, h⟩
              · exact h
              · cases h
            subst hL1
            exact ⟨G, Y', rfl, hG, hQ', keep_old S31⟩
        · exact IFB_false (IFB_ne (fun _ => IFB_ne (fun h => absurd rfl h) (fun _ => ⟨G, Y, rfl, hG, hQ', keep_old S31⟩)) (fun h => absurd h (by decide)))
    · rintro _ w33 ⟨G3, Y3, hst, hG3, hQ3, S33⟩
      cases hst
      exact nx G3 Y3 w33 hG3 hQ3 S33
  · rintro _ w35 ⟨i, G, W, D, Y, hst, hi, hWb, hDb, hG, Q, S35⟩
    cases hst
    rw [← hDb]
    have S35p := S35.perm (wd_perm D D.b)
    refine (crash_ok (ka := none) (kc := 0) S35p Q.q.wd.ok (by omega) 0 [] (fun w' _ => Rd.nil _ _) (Nat.le_refl _)).mono ?_
    rintro _ w36 ⟨_, rfl, gs, D6, rfl, S36, h6⟩
    obtain ⟨X, rfl, hq6, hf6, hroom6⟩ := CrashTo.crash Q.q.wd (files_nd S35p) (files_nd S36) Q.q.crash h6
    have hsz := Q.sz
    have hfs := fresh_size Q.ok (by omega)
    have hll := Q.ll
    have S36 : ST w w36 (dkE D6 (logD G [])) := S36.sub (dkE_mono ((((List.Sublist.refl (logD G [])).cons (rowE W.la W.lc W.L.l)).cons (It.cells W.b (W.cells D.b) ty.wal_Wal)).trans dkE_suffix))
    refine ⟨_, rfl, (wal_Open_ok S36 hq6 (by omega) hf6 (by omega) Q.ok (by omega) (Q.wh.says _) (by omega)).mono ?_⟩
    rintro _ w37 ⟨_, rfl, W7, D7, Y7, rfl, hL7, sm7, hq7, hw7, S37⟩
    refine ⟨_, _, rfl, IFB_true (IFB_eq (fun _ => (tells_in (P := []) S37 (by rw [hL7]; exact hG) (by rw [hL7]; exact Q.ok) (by omega) (by rw [hL7]; omega)).mono ?_) (fun h => absurd rfl h))⟩
    rintro _ w38 ⟨_, rfl, rfl, B38⟩
    exact ⟨_, rfl, rfl, (S37.grown B38).bel⟩
end
end Go.Proofs.YtfgbfodohmeamaaGreatDoor
