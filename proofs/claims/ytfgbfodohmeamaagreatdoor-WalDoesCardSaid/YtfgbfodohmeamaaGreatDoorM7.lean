/-
  Texts of this claim, laid one behind the other by a program of mine (install.py): K.La5, K.La6.
-/
import Derived.Test.YtfgbfodohmeamaaGreatDoorM6
namespace Go.Proofs.YtfgbfodohmeamaaGreatDoor
set_option maxRecDepth 100000
open Go.Dn Go.Proofs
open Go.RowKit (Below)
set_option linter.unusedVariables false
theorem dkE_suffix {D : DiskC} {E : List It} : E.Sublist (dkE D E) := by
  unfold dkE
  exact (((((List.sublist_append_right _ _).trans (List.sublist_append_right _ _)).cons _).cons _).cons _).cons _
structure LawQ (n : Nat) (mx : Int) (L : LogP) (D : DiskC) (Y : List UInt8) : Prop where
  ok : LogOk L mx
  ll : L.l.length ≤ 20 * n
  sz : sizeL L ≤ 200 + 12000 * n
  fz : D.fused = false
  q : WQ D (20 + 20 * n) (200 + 12000 * n) (some Y)
  wh : WholeF Y L
theorem LawQ.step {n : Nat} {mx : Int} {L L1 L2 : LogP} {D D' : DiskC} {Y : List UInt8} {x : Op9} {e e1 : Int} (h : LawQ n mx L D Y) (hx : x.term ≤ 9223372036854775807) (hd : x.data.size ≤ 500) (hr : RefOp (stepM L x) L e1 L1)
    (hdo : DoesR D (20 + 20 * n) (200 + 12000 * (n + 1)) Y L x e D' L2) (sm : Sam D D') :
    (e = e1 ∧ (e = 0 ∨ e = 2) ∧ L1 = L2 ∧ ∃ Y', LawQ (n + 1) (mx + 100) L2 D' Y') ∨ (e = 181 ∧ e1 = 0 ∧ L2 = L ∧ (D.room : Int) < 3 * ((200 + 12000 * (n + 1) : Nat) : Int) ∧ LawQ (n + 1) (mx + 100) L D' Y) := by
  have hfz : D'.fused = false := by rw [sm.fused]; exact h.fz
  have hll := h.ll
  have hsz := h.sz
  rcases hdo with ⟨hs, rfl, rfl, rfl⟩ | ⟨L', hs, ⟨rfl, rfl, Y', hw, hq⟩ | ⟨rfl, rfl, hl, hq⟩ | ⟨_, _, hf, _⟩⟩
  · rcases hr with ⟨_, rfl, rfl⟩ | ⟨h1, _⟩
    · exact .inl ⟨rfl, .inr rfl, rfl, Y, h.ok.mono (by omega), by omega, by omega, h.fz, h.q.mono (by omega) (by omega), h.wh⟩
    · rw [hs] at h1; cases h1
  · obtain ⟨g1, g2, g3⟩ := stepM_ok h.ok hx hd hs
    rcases hr with ⟨h1, _⟩ | ⟨h1, rfl⟩
    · rw [hs] at h1; cases h1
    · obtain rfl := Option.some.inj (hs.symm.trans h1)
      exact .inl ⟨rfl, .inl rfl, rfl, Y', g1, by omega, by omega, hfz, hq.mono (by omega) (Nat.le_refl _), hw⟩
  · rcases hr with ⟨h1, _⟩ | ⟨h1, rfl⟩
    · rw [hs] at h1; cases h1
    · exact .inr ⟨rfl, rfl, rfl, hl, h.ok.mono (by omega), by omega, by omega, hfz, (hq h.fz).mono (by omega) (Nat.le_refl _), h.wh⟩
  · rw [h.fz] at hf; cases hf
section
variable {w0 w : World} {H : List It} {W : WalC} {D : DiskC} {G : LogC}
theorem logR_in {P : List It} (S : ST w0 w (P ++ walI W D.b (dkE D (logD G H)))) : LogR w G :=
  ⟨S.ok (It.cells G.b G.cells ty.ref19_Log) (by simp [walI, dkE, logD]), S.ok (It.rd G.la (G.L.l.flatMap entC)) (by simp [walI, dkE, logD])⟩
theorem clone_in {P : List It} (S : ST w0 w (P ++ walI W D.b (dkE D (logD G H)))) (hn : G.L.l.length ≤ 1000000) :
    Calls Tryz.prog f.ref19_Log_Clone #[ptrV G.b] w (Ret fun v w' => ∃ G1, v = ptrV G1.b ∧ G1.L = G.L ∧ ST w0 w' (logI G1 (P ++ walI W D.b (dkE D (logD G H))))) := by
  refine (ref19_Clone_ok (logR_in S) hn).mono ?_
  rintro _ w' ⟨_, rfl, G1, rfl, hL, T⟩
  exact ⟨_, rfl, G1, rfl, hL, S.join T⟩
theorem call_in {x : Op9} {b : Nat} {G2 : LogC} {n : Nat} {mx : Int} {Y : List UInt8} (S : ST w0 w (logD G2 ([It.cells b x.cells ty.law19_Op] ++ walI W D.b (dkE D (logD G H))))) (h : LawQ n mx W.L D Y) (hG : G.L = W.L) (hmx : mx ≤ 2305843009213693952) (hn : n ≤ 200) (hx : x.term ≤ 9223372036854775807) (hd : x.data.size ≤ 500) :
    Calls Tryz.prog f.law19_call #[ptrV W.b, ptrV G.b, .agg x.cells] w (Ret fun u w' => ∃ e D' la lc L2, u = .int .i64 e ∧ Sam D D' ∧ DoesR D (20 + 20 * n) (200 + 12000 * (n + 1)) Y W.L x e D' L2 ∧ ST w0 w' (logD G2 ([It.cells b x.cells ty.law19_Op] ++ walI { W with la := la, lc := lc, L := L2 } D'.b (dkE D' (logD G H))))) := by
  have hYl := h.q.len
  have hll := h.ll
  have hsz := h.sz
  have Sp := S.perm (lift_perm (W := W) (D := D) (H := logD G H) [It.cells G2.b G2.cells ty.ref19_Log, It.rd G2.la (G2.L.l.flatMap entC), It.cells b x.cells ty.law19_Op] D.b)
  refine (law19_call_ok Sp (h.q.mono (Nat.le_refl _) (show 200 + 12000 * n ≤ 200 + 12000 * (n + 1) by omega)) h.wh (by omega) h.ok hmx (by omega) hG (by simp [logD]) (by simp [logD]) x hx hd (by omega) (by omega) (by omega)).mono ?_
  rintro _ w' ⟨_, rfl, e, D', la, lc, L2, rfl, sm, hdo, S'⟩
  exact ⟨_, rfl, e, D', la, lc, L2, rfl, sm, hdo, S'.perm (lift_perm (W := { W with la := la, lc := lc, L := L2 }) (D := D') (H := logD G H) [It.cells G2.b G2.cells ty.ref19_Log, It.rd G2.la (G2.L.l.flatMap entC), It.cells b x.cells ty.law19_Op] D'.b).symm⟩
theorem take_new {P : List It} {G2 : LogC} (S : ST w0 w (logD G2 (P ++ walI W D.b (dkE D (logD G H))))) : ST w0 w (P ++ walI W D.b (dkE D (logD G2 H))) := by
  have S1 := S.perm (lift_perm (W := W) (D := D) (H := logD G H) ([It.cells G2.b G2.cells ty.ref19_Log, It.rd G2.la (G2.L.l.flatMap entC)] ++ P) D.b)
  have S2 : ST w0 w (walI W D.b (dkE D (([It.cells G2.b G2.cells ty.ref19_Log, It.rd G2.la (G2.L.l.flatMap entC)] ++ P) ++ H))) := S1.sub (walI_mono (dkE_mono ((List.Sublist.refl _).append (List.sublist_append_right [It.cells G.b G.cells ty.ref19_Log, It.rd G.la (G.L.l.flatMap entC)] H))))
  have e : (([It.cells G2.b G2.cells ty.ref19_Log, It.rd G2.la (G2.L.l.flatMap entC)] ++ P) ++ H).Perm (P ++ logD G2 H) := by
    rw [List.append_assoc]
    exact List.perm_append_comm_assoc _ _ _
  have e2 : (dkE D (([It.cells G2.b G2.cells ty.ref19_Log, It.rd G2.la (G2.L.l.flatMap entC)] ++ P) ++ H)).Perm (dkE D (P ++ logD G2 H)) := by
    unfold dkE
    exact ((((((e.append_left _).append_left _).cons _).cons _).cons _).cons _)
  exact (S2.perm ((e2.cons _).cons _)).perm (lift_perm P D.b).symm
theorem tells_in {P : List It} (S : ST w0 w (P ++ walI W D.b (dkE D (logD G H)))) (hG : G.L = W.L) {mx : Int} (hL : LogOk W.L mx) (hmx : mx ≤ 2305843009213693952) (hn : W.L.l.length ≤ 100000) :
    Calls Tryz.prog f.law19_tells #[ptrV W.b, ptrV G.b] w (Ret fun v w' => v = .bool true ∧ Below w.heap.size w w') :=
  law19_tells_ok (W := W) (d := D.b) ⟨S.ok (It.cells W.b (W.cells D.b) ty.wal_Wal) (by simp [walI]), (S.ok (rowE W.la W.lc W.L.l) (by simp [walI]) : Row _ _ _ _ _ _ _).rd⟩ (logR_in S) hG hL hmx hn
def newG (b : Nat) : LogC := ⟨b, none, 0, zeroL⟩
theorem start_in {b : Nat} (S : ST w0 w (It.cells b (newG b).cells ty.ref19_Log :: walI W D.b (dkE D H))) : ST w0 w (walI W D.b (dkE D (logD (newG b) H))) := by
  have S1 := (S.add (.refl _ _) (It.rd none (([] : List EntP).flatMap entC)) (Rd.nil w none) (fun k hk => by cases hk)).perm (List.Perm.swap _ _ _)
  exact S1.perm (lift_perm [It.cells b (newG b).cells ty.ref19_Log, It.rd none (([] : List EntP).flatMap entC)] D.b)
end
structure OpQ9 (w : World) (x : Op9) : Prop where
  term : x.term ≤ 9223372036854775807
  keep : ∃ keeps : List Int, keeps.length = x.kl ∧ x.kl ≤ x.kc ∧ Rd w x.ka (keeps.map intI)
theorem und_op9 : fieldsT Tryz.prog ty.law19_Op = some [(ty.int, 0), (ty.int, 1), (ty.int, 2), (ty.int64, 3), (ty.int64, 4), (ty.string, 5), (ty.L_int, 6)] := by kernel_rfl
theorem cells_op9 : Tryz.prog.cellsOf ty.law19_Op = 7 := by kernel_rfl
theorem cells_int64 : Tryz.prog.cellsOf ty.int64 = 1 := by kernel_rfl
theorem und_int64 : Tryz.prog.underlying ty.int64 = some (.int .i64) := by kernel_rfl
theorem wf_le {z : Int} (h : (Lit.int .i64 z).wf = true) : -9223372036854775808 ≤ z ∧ z ≤ 9223372036854775807 := by
  simpa [Lit.wf, IntKind.min, IntKind.max, IntKind.signed, IntKind.bits] using h
theorem good_stackyardlaw19_Op {w : World} : ∀ m r, r.length = Tryz.prog.cellsOf ty.law19_Op → Go.Dn.Good Tryz.prog w m ty.law19_Op r → ∃ x, r = Op9.C x ∧ OpQ9 w x := by
  intro m r hl h
  obtain ⟨_, n, hf⟩ := h.fields und_op9
  rw [cells_op9] at hl
  match r, hl with
  | [v0, v1, v2, v3, v4, v5, v6], _ =>
    simp only [List.mem_cons, List.not_mem_nil, or_false, forall_eq_or_imp, forall_eq, cells_int, cells_ints, cells_str, cells_int64] at hf
    obtain ⟨h0, h1, h2, h3, h4, h5, h6⟩ := hf
    obtain ⟨x0, e0, q0⟩ := h0.int und_int
    obtain ⟨x1, e1, q1⟩ := h1.int und_int
    obtain ⟨x2, e2, q2⟩ := h2.int und_int
    obtain ⟨x3, e3, q3⟩ := h3.int und_int64
    obtain ⟨x4, e4, q4⟩ := h4.int und_int64
    obtain ⟨x5, e5, q5⟩ := h5.str und_str
    obtain ⟨a, c, xs, e6, g1, g2, g3, g4, g5⟩ := h6.list und_ints (intC .i64) (intQ .i64) (good_int und_int)
    refine ⟨⟨x0, x1, x2, x3, x4, x5, a, xs.length, c⟩, ?_, ⟨(wf_le q3).2, xs, rfl, g1, by rw [show xs.flatMap (intC .i64) = xs.map intI from flat1 intI xs] at g4; exact g4⟩⟩
    simp only [List.drop_zero, List.take_succ_cons, List.take_zero, List.drop_succ_cons, List.cons.injEq, and_true] at e0 e1 e2 e3 e4 e5 e6
    rw [e0, e1, e2, e3, e4, e5, e6]
    rfl
theorem ops_at {w w' : World} {a : Option Addr} {ops : List Op9} (h : Rd w a (ops.flatMap Op9.C)) (B : Below w.heap.size w w') {i : Nat} (hi : i < ops.length) : ∃ q, a = some q ∧ ∀ j v, (ops[i].C)[j]? = some v → w'.cell? ((q.add (i * 7)).add j) = some v :=
  rowW_at Op9.C_len (by omega) (h.grown B) hi
theorem LogOk.tight {L : LogP} {mx m : Int} (h : LogOk L mx) (hl : L.last ≤ m) : LogOk L m := ⟨h.term, h.vote, h.sidx, h.sterm, h.sdata, h.ents, hl⟩
theorem LawQ.tight {n : Nat} {mx m : Int} {L : LogP} {D : DiskC} {Y : List UInt8} (h : LawQ n mx L D Y) (hl : L.last ≤ m) : LawQ n m L D Y := ⟨h.ok.tight hl, h.ll, h.sz, h.fz, h.q, h.wh⟩
section
variable {w0 w : World} {H : List It} {W : WalC} {D : DiskC} {G : LogC}
theorem high_in {P : List It} (S : ST w0 w (P ++ walI W D.b (dkE D (logD G H)))) (hG : G.L = W.L) {mx : Int} (hL : LogOk W.L mx) (hmx : mx ≤ 2305843009213693952) :
    Calls Tryz.prog f.law19_high #[ptrV G.b] w (Ret fun v w' => ∃ r, v = .bool r ∧ (r = false → W.L.last ≤ 1152921504606846976) ∧ Below w.heap.size w w') := by
  refine (law19_high_ok (logR_in S) (by rw [hG]; exact hL.b (by omega))).mono ?_
  rintro _ w' ⟨_, rfl, r, rfl, hr, B⟩
  exact ⟨_, rfl, r, rfl, fun h => by rw [← hG]; exact hr h, B⟩
theorem WalDoes_ok {w : World} (he : NoEnv w) (a : Option Addr) (ops : List Op9) (c : Nat) (g : GL w Op9.C (OpQ9 w) a ops c) (y : c * Tryz.prog.bytesOf ty.law19_Op ≤ reachBytes) :
    Calls Tryz.prog f.law19_WalDoes #[.slice a ops.length c] w (Ret fun v w' => v = .bool true ∧ Below w.heap.size w w') := by
  have hrd := g.2.2.2.1
  have hqs := g.2.2.2.2
  have hxl : ops.length ≤ 9223372036854775807 := Nat.le_trans (Nat.le_trans g.1 g.2.1) (by decide)
  apply R.law19_WalDoes_calls
  unfold R.law19_WalDoes
  refine (law19_shown_ok w).mono ?_
  rintro _ w1 ⟨_, rfl, rfl, B1⟩
  refine ⟨_, rfl, (law19_opened_ok ((ST.start w).grown B1) 16000000 (by omega) (by omega)).mono ?_⟩
  rintro _ w2 ⟨_, rfl, D0, W0, Y0, rfl, hL0, hroom, hf0, hq0, hw0, S2⟩
  refine ⟨_, _, _, rfl, IFB_false (S2.newB fun b9 w3 _ _ S3 => ?_)⟩
  have S3 := start_in (b := b9) S3
  have hz0 : sizeL zeroL = 100 := rfl
  have Q0 : LawQ 0 1152921504606847076 W0.L D0 Y0 := ⟨by rw [hL0]; exact zero_ok.mono (by omega), by rw [hL0]; exact Nat.le_refl _, by rw [hL0, hz0]; omega, hf0, hq0.mono (by omega) (by omega), by rw [hL0]; exact hw0⟩
  refine ⟨fun st w4 => ∃ (i : Nat) (G : LogC) (W : WalC) (D : DiskC) (Y : List UInt8), st = [ptrV D.b, ptrV W.b, ptrV G.b, .int .i64 (i : Int)] ∧ i ≤ ops.length ∧ i ≤ 100 ∧ (D.room : Int) = 16000000 ∧ G.L = W.L ∧ LawQ i 1152921504606847076 W.L D Y ∧ ST w w4 (walI W D.b (dkE D (logD G []))), fun st _ => match st with
    | [_, _, _, .int _ i] => ops.length - i.toNat
    | _ => 0, ⟨0, newG b9, W0, D0, Y0, rfl, Nat.zero_le _, by omega, hroom, hL0.symm, Q0, S3⟩, ?_⟩
  rintro _ _ _ _ w4 ⟨i, G, W, D, Y, hst, hi, hi2, hR, hG, Q, S4⟩
  cases hst
  refine IFB_dec (fun hlt => IFB_dec (fun h100 => ?_) (fun _ => ⟨rfl, S4.bel⟩)) (fun _ => ⟨rfl, S4.bel⟩)
  have hil : i < ops.length := by omega
  refine (high_in (P := []) S4 hG Q.ok (by omega)).mono ?_
  rintro _ w5 ⟨_, rfl, r, rfl, hr, B5⟩
  have S5 := S4.grown B5
  refine ⟨_, rfl, IFB_of (fun _ => ⟨rfl, S5.bel⟩) (fun hrf => ?_)⟩
  have Q := Q.tight (hr hrf)
  obtain ⟨q, rfl, hc⟩ := ops_at hrd S5.bel hil
  have hqi := hqs _ (List.getElem_mem hil)
  refine ⟨⟨by omega, hlt⟩, _, by rw [Int.toNat_natCast]; have := hc 0 _ rfl; rw [addr_add_zero] at this; exact this, _, by rw [Int.toNat_natCast]; exact hc 1 _ rfl, _, by rw [Int.toNat_natCast]; exact hc 2 _ rfl, _, by rw [Int.toNat_natCast]; exact hc 3 _ rfl, _, by rw [Int.toNat_natCast]; exact hc 4 _ rfl, _, by rw [Int.toNat_natCast]; exact hc 5 _ rfl, _, _, _, by rw [Int.toNat_natCast]; exact hc 6 _ rfl, ?_⟩
  refine (law19_cut_ok S5 ops[i]).mono ?_
  rintro _ w6 ⟨_, rfl, ⟨s, hs, rfl⟩, S6⟩
  obtain ⟨x, hxe⟩ : ∃ x : Op9, x = { ops[i] with data := s } := ⟨_, rfl⟩
  have hxt : x.term ≤ 9223372036854775807 := by rw [hxe]; exact hqi.term
  have hxd : x.data.size ≤ 500 := by rw [hxe]; exact hs
  have hxk : ∃ keeps : List Int, keeps.length = x.kl ∧ x.kl ≤ x.kc ∧ Rd w x.ka (keeps.map intI) := by rw [hxe]; exact hqi.keep
  refine ⟨_, _, _, _, _, _, _, _, _, rfl, S6.newB fun b32 w7 _ _ S7 => S7.sto7 0 rfl fun w14 S14 => ?_⟩
  have S14 : ST w w14 ([It.cells b32 x.cells ty.law19_Op] ++ walI W D.b (dkE D (logD G []))) := by rw [hxe]; exact S14
  have hll := Q.ll
  have hsz := Q.sz
  refine ⟨fun st w20 => ∃ (G3 : LogC) (W3 : WalC) (D3 : DiskC) (Y3 : List UInt8), st = [ptrV D3.b, ptrV W3.b, ptrV G3.b] ∧ (D3.room : Int) = 16000000 ∧ G3.L = W3.L ∧ LawQ (i + 1) 1152921504606847076 W3.L D3 Y3 ∧ ST w w20 (walI W3 D3.b (dkE D3 (logD G3 []))), ?_, ?_⟩
  · refine ⟨_, S14.cell 0 rfl rfl, ?_⟩
    show IFB (kind5 x.k == 4) _ _
    refine IFB_eq (fun h4 => ?_) (fun h4 => ?_)
    · refine ⟨_, S14.cell 0 rfl rfl, _, _, _, S14.cell 0 rfl rfl, ?_⟩
      obtain ⟨keeps, hkl, hkc, hk⟩ := hxk
      have S14p : ST w w14 (dkE D (walI W D.b (logD G []))) := (S14.drop 1).perm (wd_perm D D.b)
      rw [← hkl] at hkc ⊢
      refine (crash_ok S14p Q.q.wd.ok (by omega) x.up keeps (fun w' S' => hk.grown S'.bel) hkc).mono ?_
      rintro _ w15 ⟨_, rfl, gs, D6, rfl, S15, h6⟩
      obtain ⟨X, rfl, hq6, hf6, hroom6⟩ := CrashTo.crash Q.q.wd (files_nd S14p) (files_nd S15) Q.q.crash h6
      have hfs := fresh_size Q.ok (by omega)
      have S15 : ST w w15 (dkE D6 (logD G [])) := S15.sub (dkE_mono ((((List.Sublist.refl (logD G [])).cons (rowE W.la W.lc W.L.l)).cons (It.cells W.b (W.cells D.b) ty.wal_Wal)).trans dkE_suffix))
      refine ⟨_, rfl, (wal_Open_ok S15 hq6 (by omega) hf6 (by omega) Q.ok (by omega) (Q.wh.says _) (by omega)).mono ?_⟩
      rintro _ w16 ⟨_, rfl, W7, D7, Y7, rfl, hL7, sm7, hq7, hw7, S16⟩
      refine ⟨_, _, rfl, IFB_ne (fun h => absurd rfl h) (fun _ => ⟨G, W7, D7, Y7, ?_, ?_, by rw [hL7]; exact hG, ⟨by rw [hL7]; exact Q.ok.mono (by omega), by rw [hL7]; omega, by rw [hL7]; omega, by rw [sm7.fused]; exact hf6, hq7.mono (by omega) (by omega), by rw [hL7]; exact hw7⟩, S16⟩)⟩
      · rw [sm7.b]
      · rw [sm7.room, hroom6]; exact hR
    · refine (clone_in S14 (by rw [hG]; omega)).mono ?_
      rintro _ w17 ⟨_, rfl, G1, rfl, hG1, S17⟩
      refine ⟨_, rfl, _, S17.cell 2 rfl rfl, _, S17.cell 2 rfl rfl, _, S17.cell 2 rfl rfl, _, S17.cell 2 rfl rfl, _, S17.cell 2 rfl rfl, _, S17.cell 2 rfl rfl, _, _, _, S17.cell 2 rfl rfl, ?_⟩
      refine (law19_model_ok S17 (by rw [hG1, hG]; exact Q.ok) (by omega) (by rw [hG1, hG]; omega) x hxt).mono ?_
      rintro _ w18 ⟨_, rfl, e1, la, lc, L1, rfl, hrf1, S18⟩
      rw [hG1, hG] at hrf1
      refine ⟨_, rfl, _, S18.cell 2 rfl rfl, _, S18.cell 2 rfl rfl, _, S18.cell 2 rfl rfl, _, S18.cell 2 rfl rfl, _, S18.cell 2 rfl rfl, _, S18.cell 2 rfl rfl, _, _, _, S18.cell 2 rfl rfl, ?_⟩
      refine (call_in S18 Q hG (by omega) (by omega) hxt hxd).mono ?_
      rintro _ w19 ⟨_, rfl, e, D', la2, lc2, L2, rfl, sm, hdo, S19⟩
      refine ⟨_, rfl, ?_⟩
      rcases Q.step hxt hxd hrf1 hdo sm with ⟨rfl, _, rfl, Y', hQ'⟩ | ⟨_, _, _, htight, _⟩
      · refine IFB_ne (fun h => absurd rfl h) (fun _ => ⟨{ G1 with la := la, lc := lc, L := L1 }, { W with la := la2, lc := lc2, L := L1 }, D', Y', ?_, by rw [sm.room]; exact hR, rfl, hQ', (take_new S19).drop 1⟩)
        show [ptrV D.b, _, _] = [ptrV D'.b, _, _]
        rw [sm.b]
      · omega
  · rintro _ _ _ w20 ⟨G3, W3, D3, Y3, hst, hR3, hG3, Q3, S20⟩
    cases hst
    have hll3 := Q3.ll
    refine (tells_in (P := []) S20 hG3 Q3.ok (by omega) (by omega)).mono ?_
    rintro _ w21 ⟨_, rfl, rfl, B21⟩
    refine ⟨_, rfl, IFB_false ?_⟩
    rw [wrap_succ (by omega)]
    exact ⟨⟨i + 1, G3, W3, D3, Y3, rfl, by omega, by omega, hR3, hG3, Q3, S20.grown B21⟩, by show ops.length - ((i + 1 : Nat) : Int).toNat < ops.length - ((i : Nat) : Int).toNat; simp only [Int.toNat_natCast]; omega⟩
end
end Go.Proofs.YtfgbfodohmeamaaGreatDoor
