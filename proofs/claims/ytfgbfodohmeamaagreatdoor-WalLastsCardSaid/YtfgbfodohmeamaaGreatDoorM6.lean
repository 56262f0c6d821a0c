/-
  Texts of this claim, laid one behind the other by a program of mine (install.py): K.Wl7, K.Wp2, K.Wl8, K.Wl9, K.Wl10, K.Wl11, K.Rl1, K.Rl2, K.Rl3, K.La1, K.La2, K.La3, K.Lw4, K.Lw5.
-/
import Derived.Test.YtfgbfodohmeamaaGreatDoorM4
import Derived.Test.YtfgbfodohmeamaaGreatDoorM5
import Derived.Test.YtfgbfodohmeamaaGreatDoorM3
namespace Go.Proofs.YtfgbfodohmeamaaGreatDoor
set_option maxRecDepth 100000
open Go.Dn Go.Proofs
open Go.RowKit (Below)
set_option linter.unusedVariables false
def LayR (D : DiskC) (m B : Nat) (Y r : List UInt8) (e : Int) (D' : DiskC) : Prop :=
  (e = 0 ∧ WQ D' (m + 4) B (some (Y ++ r))) ∨ (e = 181 ∧ D' = D ∧ leftD D < (r.length : Int)) ∨ (e = 183 ∧ D.fused = true ∧ WDk D' (m + 4) B ∧ CrashTo D' fun Z => ∃ k, Z = some (Y ++ r.take k))
section
variable {w0 w : World} {H : List It} {W : WalC} {D : DiskC} {m B : Nat} {a : Option Addr} {c : Nat}
theorem wd_perm (D : DiskC) (d : Nat) : (walI W d (dkE D H)).Perm (dkE D (walI W d H)) := (dkE_perm D [It.cells W.b (W.cells d) ty.wal_Wal, rowE W.la W.lc W.L.l] H).symm
theorem sof_size (l : List UInt8) : (sof l).size = l.length := by rw [← bl_length, bl_sof]
theorem wal_lay_ok (S : ST w0 w (walI W D.b (dkE D H))) {Y : List UInt8} (hq : WQ D m B (some Y)) (hm : m + 10 < 1000000) (r : List UInt8) (hr : Rd w a (r.map byteV)) (hB : Y.length + r.length ≤ B) :
    Calls Tryz.prog f.wal_Wal_lay #[ptrV W.b, .slice a r.length c] w (Ret fun v w' => ∃ e D', v = .int .i64 e ∧ Sam D D' ∧ LayR D m B Y r e D' ∧ ST w0 w' (walI W D'.b (dkE D' H))) := by
  apply R.wal_Wal_lay_calls
  unfold R.wal_Wal_lay
  refine S.draw fun w1 B1 S1 => ⟨_, S1.cell 0 rfl rfl, string_of_bytes tbytes rfl (hr.grown B1) ⟨_, rfl, S1.cell 0 rfl rfl, ?_⟩⟩
  refine (append_ok (S1.perm (wd_perm D D.b)) hq.wd.ok (by omega) nW (sof r) (by decide)).mono ?_
  rintro _ w3 ⟨_, rfl, e1, D1, rfl, S3, h1⟩
  have nd0 := files_nd (S1.perm (wd_perm D D.b))
  have nd1 := files_nd S3
  have S3' := S3.perm (wd_perm D1 D.b).symm
  rcases append_wal hq nd0 (r := sof r) (by rw [sof_size]; exact hB) h1 with ⟨rfl, rfl, hl⟩ | ⟨hf, rfl, rfl⟩ | ⟨rfl, sm, wd, hoff, f, f1, f2, f3, f4, f5⟩
  · refine ⟨_, rfl, IFB_eq (fun h => absurd h (by decide)) (fun _ => ⟨_, D1, rfl, .refl _, .inr (.inl ⟨rfl, rfl, by rw [sof_size] at hl; exact hl⟩), S3'⟩)⟩
  · refine ⟨_, rfl, IFB_eq (fun h => absurd h (by decide)) (fun _ => ⟨_, { D with off := true }, rfl, ⟨rfl, rfl, rfl⟩, .inr (.inr ⟨rfl, hf, hq.wd.off.mono (by omega) (Nat.le_refl _), ?_⟩), S3'⟩)⟩
    exact CrashTo.mono (CrashTo.off hq.crash) fun x hx => ⟨0, by rw [hx]; simp⟩
  · rw [bl_sof] at f3
    refine ⟨_, rfl, IFB_eq (fun _ => ⟨_, S3'.cell 0 rfl rfl, ?_⟩) (fun h => absurd rfl h)⟩
    rw [← sm.b] at S3 ⊢
    refine (sync_ok S3 wd.ok (by omega) nW (by decide)).mono ?_
    rintro _ w4 ⟨_, rfl, e2, D2, rfl, S4, h2⟩
    have S4' := S4.perm (wd_perm D2 D1.b).symm
    refine ⟨_, rfl, ?_⟩
    rcases sync_wal wd hoff f1 f2 f3 f5 nd1 h2 with ⟨hf, rfl, rfl⟩ | ⟨rfl, sm2, q2⟩
    · refine ⟨_, { D1 with off := true }, rfl, ⟨sm.b, sm.room, sm.fused⟩, .inr (.inr ⟨rfl, by rw [← sm.fused]; exact hf, wd.off.mono (by omega) (Nat.le_refl _), CrashTo.off (grown_crash f1 f2 f3 f4 f5)⟩), S4'⟩
    · refine ⟨_, D2, rfl, sm.trans sm2, .inl ⟨rfl, q2.mono (by omega) (Nat.le_refl _)⟩, ?_⟩
      rw [sm2.b]
      exact S4'
theorem c1_ok {bw b3 : Nat} {Z : List It} (S : ST w0 w (dkE D Z)) {m : Nat} (hD : DiskOk D m) (hm : m + 1 < 1000000) (h3 : w.cell? ⟨b3, 0, none⟩ = some (ptrV bw)) (hw : w.cell? ⟨bw, 0, none⟩ = some (ptrV D.b)) :
    Calls Tryz.prog f.wal_Wal_rewrite_c1 #[ptrV b3] w (Ret fun v w' => ∃ e D', v = .int .i64 e ∧ ST w0 w' (dkE D' Z) ∧ SyncR D nF e D') := by
  apply R.wal_Wal_rewrite_c1_calls
  unfold R.wal_Wal_rewrite_c1
  refine ⟨_, h3, _, hw, (sync_ok S hD hm nF (by decide)).mono ?_⟩
  rintro _ w1 ⟨_, rfl, e, D', rfl, S1, h⟩
  exact ⟨_, rfl, e, D', rfl, S1, h⟩
theorem c2_ok {bw b3 : Nat} {Z : List It} (S : ST w0 w (dkE D Z)) {m : Nat} (hD : DiskOk D m) (hm : m + 1 < 1000000) (h3 : w.cell? ⟨b3, 0, none⟩ = some (ptrV bw)) (hw : w.cell? ⟨bw, 0, none⟩ = some (ptrV D.b)) :
    Calls Tryz.prog f.wal_Wal_rewrite_c2 #[ptrV b3] w (Ret fun v w' => ∃ e D', v = .int .i64 e ∧ ST w0 w' (dkE D' Z) ∧ RenameR D nF nW e D') := by
  apply R.wal_Wal_rewrite_c2_calls
  unfold R.wal_Wal_rewrite_c2
  refine ⟨_, h3, _, hw, (rename_ok S hD hm nF nW (by decide) (by decide)).mono ?_⟩
  rintro _ w1 ⟨_, rfl, e, D', rfl, S1, h⟩
  exact ⟨_, rfl, e, D', rfl, S1, h⟩
theorem app_bytes {H : List It} (S : ST w0 w H) (i : Nat) {l : List UInt8} (hi : H[i]? = some (bytesI a c l)) {r : List UInt8} {b : Option Addr} {rc : Nat} (hb : Rd w b (r.map byteV)) (hl : l.length + r.length ≤ 140737488355328) {f : Value → World → Prop}
    (hf : ∀ a' c' w', ST w0 w' (H.set i (bytesI a' c' (l ++ r))) → f (.slice a' (l ++ r).length c') w') :
    OPR Tryz.prog (Builtin.append_ #[ty.L_uint8, ty.L_uint8] ty.L_uint8 #[.slice a l.length c, .slice b r.length rc]) f w :=
  append_bytes (S.rw i hi) hb hl fun a' c' w' hrow K hn => hf a' c' w' (S.chg i hi K _ hrow hn)
theorem NewB.st {w1 : World} {H : List It} {l : List UInt8} (h : NewB w w1 l a c) (S : ST w0 w H) : ST w0 w1 (bytesI a c l :: H) := S.add h.bel _ h.row h.new
def RewR (D : DiskC) (m B : Nat) (X : Option (List UInt8)) (Y : List UInt8) (e : Int) (D' : DiskC) : Prop :=
  (e = 0 ∧ WQ D' (m + 10) B (some Y)) ∨ (e = 181 ∧ (D.room : Int) < 2 * (B : Int) + (Y.length : Int) ∧ (D.fused = false → WQ D' (m + 10) B X)) ∨ (e = 183 ∧ D.fused = true ∧ WDk D' (m + 10) B ∧ CrashTo D' fun Z => Z = X ∨ Z = some Y)
def StepQ (D0 D : DiskC) (m B : Nat) (X : Option (List UInt8)) (Y : List UInt8) (e : Int) (i : Nat) : Prop :=
  Sam D0 D ∧ ((e = 183 ∧ D0.fused = true ∧ WDk D (m + 10) B ∧ CrashTo D fun Z => Z = X ∨ Z = some Y) ∨ (e = 0 ∧ ((i = 0 ∧ ∃ b, FrS D (m + 4) B X b Y 0) ∨ (i = 1 ∧ ∃ b, FrS D (m + 6) B X b Y Y.length) ∨ (i = 2 ∧ ∃ b, ReN D (m + 8) B X b Y) ∨ (i = 3 ∧ WQ D (m + 10) B (some Y)))))
abbrev tyEF : TypeId := 86
theorem Calls.arg {P : Program} {f : FuncId} {a b : Array Value} {w : World} {K : Ending → World → Prop} (h : a = b) (hc : Calls P f b w K) : Calls P f a w K := h ▸ hc
theorem enters_c1 : enters Tryz.prog f.wal_Wal_rewrite_c1 = true := by kernel_rfl
theorem enters_c2 : enters Tryz.prog f.wal_Wal_rewrite_c2 = true := by kernel_rfl
theorem enters_dir : enters Tryz.prog f.disk_Disk_Dir = true := by kernel_rfl
theorem StepQ.skip {D0 D : DiskC} {m B : Nat} {X : Option (List UInt8)} {Y : List UInt8} {e : Int} {i : Nat} (h : StepQ D0 D m B X Y e i) (he : e ≠ 0) (j : Nat) : StepQ D0 D m B X Y e j := by
  obtain ⟨sm, h | ⟨h, _⟩⟩ := h
  · exact ⟨sm, .inl h⟩
  · exact absurd h he
theorem StepQ.done {D0 D : DiskC} {m B : Nat} {X : Option (List UInt8)} {Y : List UInt8} {e : Int} (h : StepQ D0 D m B X Y e 3) : RewR D0 m B X Y e D := by
  obtain ⟨_, h | ⟨h, ⟨h', _⟩ | ⟨h', _⟩ | ⟨h', _⟩ | ⟨_, h'⟩⟩⟩ := h
  · exact .inr (.inr h)
  · omega
  · omega
  · omega
  · exact .inl ⟨h, h'⟩
theorem fresh_take (L : LogP) {i : Nat} (hi : i < L.l.length) : flatR ((freshR L).take (i + 3)) = flatR ((freshR L).take (i + 2)) ++ (Pay.ent L.l[i]).rcd := by
  have hl : i + 2 < (freshR L).length := by simp [freshR]; omega
  rw [List.take_succ_eq_append_getElem hl, flatR_append]
  have : (freshR L)[i + 2] = Pay.ent L.l[i] := by simp [freshR]
  rw [this]
  simp [flatR]
theorem flat_take_le (ps : List Pay) (k : Nat) : (flatR (ps.take k)).length ≤ (flatR ps).length := by
  have e : flatR ps = flatR (ps.take k) ++ flatR (ps.drop k) := by rw [← flatR_append, List.take_append_drop]
  rw [e, List.length_append]
  omega
theorem wal_rewrite_ok (S : ST w0 w (walI W D.b (dkE D H))) {X : Option (List UInt8)} (hq : WQ D m B X) (hm : m + 20 < 1000000) {T : WalC} {td : Nat} (hT : ∀ w', ST w0 w' (walI W D.b (dkE D H)) → WalR w' T td) {mx : Int} (hL : LogOk T.L mx) (hmx : mx ≤ 9223372036854775807)
    (hY : (flatR (freshR T.L)).length ≤ B) (hB : B ≤ 100000000) :
    Calls Tryz.prog f.wal_Wal_rewrite #[ptrV W.b, ptrV T.b] w (Ret fun v w' => ∃ e D', v = .int .i64 e ∧ Sam D D' ∧ RewR D m B X (flatR (freshR T.L)) e D' ∧ ST w0 w' (walI W D'.b (dkE D' H))) := by
  have hpl := (fresh_plays hL hmx).ok
  have hcnt := recs_count (freshR T.L)
  have hcl : (freshR T.L).length = T.L.l.length + 2 := by simp [freshR]
  have hbig : ∀ k, (flatR ((freshR T.L).take k)).length ≤ 100000000 := fun k => by have := flat_take_le (freshR T.L) k; omega
  apply R.wal_Wal_rewrite_calls
  unfold R.wal_Wal_rewrite
  refine S.newB fun b3 w1 _ _ S1 => S1.draw fun w2 _ S2 => ?_
  have r2 := hT w2 (S2.drop 1)
  refine ⟨_, r2.cell rfl, _, r2.cell rfl, _, r2.cell rfl, ?_⟩
  refine (wal_entryRecord_ok w2 4 (T.L.sidx, T.L.sterm, T.L.sdata) (hpl (.snap (T.L.sidx, T.L.sterm, T.L.sdata)) (by simp [freshR]))).mono ?_
  rintro _ w3 ⟨_, rfl, a3, c3, rfl, h3⟩
  have S3 := h3.st S2
  have r3 := hT w3 (S3.drop 2)
  refine ⟨_, _, _, rfl, _, r3.cell rfl, _, r3.cell rfl, ?_⟩
  refine (wal_stateRecord_ok w3 T.L.term T.L.vote (hpl (.state T.L.term T.L.vote) (by simp [freshR])).1 (hpl (.state T.L.term T.L.vote) (by simp [freshR])).2).mono ?_
  rintro _ w4 ⟨_, rfl, a4, c4, rfl, h4⟩
  have S4 := S3.grown h4.bel
  have e2 : recL ((4 : UInt8) :: entB (T.L.sidx, T.L.sterm, T.L.sdata)) ++ (Pay.state T.L.term T.L.vote).rcd = flatR ((freshR T.L).take (0 + 2)) := by simp [freshR, flatR, Pay.rcd, Pay.bytes]
  refine ⟨_, _, _, rfl, app_bytes S4 0 rfl h4.rd (by have := hbig (0 + 2); rw [← e2, List.length_append] at this; omega) fun a5 c5 w5 S5 => ⟨_, _, _, rfl, ?_⟩⟩
  rw [e2] at S5 ⊢
  have r5 := hT w5 (S5.drop 2)
  refine ⟨_, _, _, r5.cell rfl, ?_⟩
  refine ⟨fun st w6 => ∃ (i : Nat) (b : Option Addr) (bc : Nat), st = [.slice b (flatR ((freshR T.L).take (i + 2))).length bc, .int .i64 (i : Int)] ∧ i ≤ T.L.l.length ∧ ST w0 w6 (bytesI b bc (flatR ((freshR T.L).take (i + 2))) :: It.cells b3 #[ptrV W.b] ty.P_wal_Wal :: walI W D.b (dkE D H)), fun st _ => match st with
    | [_, .int _ i] => T.L.l.length - i.toNat
    | _ => 0, ⟨0, _, _, rfl, Nat.zero_le _, S5⟩, ?_⟩
  rintro b _ bc _ w6 ⟨i, _, _, hst, hi, S6⟩
  cases hst
  refine IFB_dec (fun hlt => ?_) (fun hge => ?_)
  · have hil : i < T.L.l.length := by omega
    obtain ⟨q, hq', hc⟩ := rowW_at entC_len (by omega) (hT w6 (S6.drop 2)).rd hil
    rw [hq']
    refine ⟨⟨by omega, hlt⟩, _, by rw [Int.toNat_natCast]; have := hc 0 _ rfl; rw [addr_add_zero] at this; exact this, _, by rw [Int.toNat_natCast]; exact hc 1 _ rfl, _, by rw [Int.toNat_natCast]; exact hc 2 _ rfl, S6.lit3 fun b28 w10 _ S10 => ⟨_, S10.cell 0 rfl rfl, _, S10.cell 0 rfl rfl, _, S10.cell 0 rfl rfl, ?_⟩⟩
    refine (wal_entryRecord_ok w10 2 T.L.l[i] (hpl (.ent T.L.l[i]) (by simp [freshR]))).mono ?_
    rintro _ w11 ⟨_, rfl, a11, c11, rfl, h11⟩
    have e3 := fresh_take T.L hil
    have hb3 := hbig (i + 3)
    have hrc : recL ((2 : UInt8) :: entB T.L.l[i]) = (Pay.ent T.L.l[i]).rcd := rfl
    rw [e3, List.length_append] at hb3
    rw [hrc] at h11 ⊢
    refine ⟨_, _, _, rfl, app_bytes (S10.grown h11.bel) 1 rfl h11.rd (by omega) fun a' c' w12 S12 => ⟨_, _, _, rfl, ?_⟩⟩
    rw [← e3] at S12 ⊢
    rw [wrap_succ (by omega)]
    exact ⟨⟨i + 1, a', c', rfl, by omega, S12.drop 1⟩, by show T.L.l.length - ((i + 1 : Nat) : Int).toNat < T.L.l.length - ((i : Nat) : Int).toNat; simp only [Int.toNat_natCast]; omega⟩
  have hi2 : i = T.L.l.length := by omega
  subst hi2
  have etk : (freshR T.L).take (T.L.l.length + 2) = freshR T.L := List.take_of_length_le (by simp [freshR])
  rw [etk] at S6 ⊢
  obtain ⟨Y, hYe⟩ : ∃ Y, Y = flatR (freshR T.L) := ⟨_, rfl⟩
  rw [← hYe] at S6 hY ⊢
  -- the disk's turn
  have pm : ∀ (D : DiskC), (bytesI b bc Y :: It.cells b3 #[ptrV W.b] ty.P_wal_Wal :: walI W D.b (dkE D H)).Perm (dkE D (bytesI b bc Y :: It.cells b3 #[ptrV W.b] ty.P_wal_Wal :: walI W D.b H)) := fun D => (dkE_perm D [bytesI b bc Y, It.cells b3 #[ptrV W.b] ty.P_wal_Wal, It.cells W.b (W.cells D.b) ty.wal_Wal, rowE W.la W.lc W.L.l] H).symm
  have pm' : ∀ {D D' : DiskC}, D'.b = D.b → ∀ {w' : World}, ST w0 w' (dkE D' (bytesI b bc Y :: It.cells b3 #[ptrV W.b] ty.P_wal_Wal :: walI W D.b H)) → ST w0 w' (bytesI b bc Y :: It.cells b3 #[ptrV W.b] ty.P_wal_Wal :: walI W D'.b (dkE D' H)) := fun {D D'} hb {w'} S => by
    rw [← hb] at S
    exact S.perm (pm D').symm
  refine ⟨_, S6.cell 1 rfl rfl, _, S6.cell 2 rfl rfl, (create_ok (S6.perm (pm D)) hq.wd.ok (by omega) nF (by decide)).mono ?_⟩
  rintro _ w13 ⟨_, rfl, e1, D1, rfl, S13, h1⟩
  refine ⟨_, rfl, ?_⟩
  refine ⟨fun st w17 => ∃ (e : Int) (D2 : DiskC), st = [.int .i64 e] ∧ (e = 181 → (D.room : Int) < 2 * (B : Int) + (Y.length : Int) ∧ Sam D D2 ∧ ∃ b', FrS D2 (m + 2) B X b' [] 0) ∧ (e ≠ 181 → StepQ D D2 m B X Y e 0) ∧ ST w0 w17 (bytesI b bc Y :: It.cells b3 #[ptrV W.b] ty.P_wal_Wal :: walI W D2.b (dkE D2 H)), ?_, ?_⟩
  · rcases create_fr hq (files_nd S13) h1 with ⟨hf, rfl, rfl⟩ | ⟨rfl, sm1, b', fr1⟩
    · refine IFB_eq (fun h => absurd h (by decide)) (fun _ => ⟨_, { D with off := true }, rfl, (fun h => by cases h), fun _ => ⟨⟨rfl, rfl, rfl⟩, .inl ⟨rfl, hf, hq.wd.off.mono (by omega) (Nat.le_refl _), CrashTo.mono (CrashTo.off hq.crash) fun x hx => .inl hx⟩⟩, pm' rfl S13⟩)
    · have S13' := pm' sm1.b S13
      refine IFB_eq (fun _ => S13'.draw fun w14 B14 S14 => ⟨_, S14.cell 1 rfl rfl, _, S14.cell 2 rfl rfl, string_of_bytes tbytes rfl (S14.rd 0 rfl) ⟨_, rfl, S14.cell 2 rfl rfl, S14.cell 1 rfl rfl, ?_⟩⟩) (fun h => absurd rfl h)
      have S14p := S14.perm (pm D1)
      refine (append_ok S14p fr1.q.wd.ok (by omega) nF (sof Y) (by decide)).mono ?_
      rintro _ w16 ⟨_, rfl, e2', D2, rfl, S16, h2⟩
      refine ⟨_, rfl, ?_⟩
      rcases append_fr fr1 (files_nd S14p) (r := sof Y) (by rw [sof_size]; simp; exact hY) h2 with ⟨rfl, rfl, hl⟩ | ⟨hf, rfl, rfl⟩ | ⟨rfl, sm2, fr2⟩
      · refine ⟨_, D2, rfl, fun _ => ⟨?_, sm1, b', fr1⟩, fun h => absurd rfl h, pm' rfl S16⟩
        have := fr1.q.wd.left
        rw [sof_size] at hl
        rw [sm1.room] at this
        omega
      · exact ⟨_, { D1 with off := true }, rfl, (fun h => by cases h), fun _ => ⟨⟨sm1.b, sm1.room, sm1.fused⟩, .inl ⟨rfl, by rw [← sm1.fused]; exact hf, fr1.q.wd.off.mono (by omega) (Nat.le_refl _), CrashTo.mono (CrashTo.off fr1.q.crash) fun x hx => .inl hx⟩⟩, pm' rfl S16⟩
      · rw [bl_sof, List.nil_append] at fr2
        exact ⟨_, D2, rfl, (fun h => by cases h), fun _ => ⟨sm1.trans sm2, .inr ⟨rfl, .inl ⟨rfl, b', fr2.mono (by omega) (Nat.le_refl _)⟩⟩⟩, pm' sm2.b S16⟩
  rintro e w17 ⟨_, D2, hst, hno, hstep, S17⟩
  cases hst
  refine IFB_eq (fun he => ?_) (fun he => ?_)
  · subst he
    obtain ⟨hroom, sm, b', fr⟩ := hno rfl
    refine ⟨_, S17.cell 1 rfl rfl, _, S17.cell 2 rfl rfl, (remove_ok (S17.perm (pm D2)) fr.q.wd.ok (by omega) nF (by decide)).mono ?_⟩
    rintro _ w18 ⟨_, rfl, e3, D3, rfl, S18, h3⟩
    rcases remove_fr fr h3 with ⟨hf, rfl, rfl⟩ | ⟨rfl, sm3, q3⟩
    · exact ⟨_, rfl, _, { D2 with off := true }, rfl, ⟨sm.b, sm.room, sm.fused⟩, .inr (.inl ⟨rfl, hroom, fun h => by rw [← sm.fused] at h; rw [hf] at h; cases h⟩), (pm' rfl S18).drop 2⟩
    · exact ⟨_, rfl, _, D3, rfl, sm.trans sm3, .inr (.inl ⟨rfl, hroom, fun _ => q3.mono (by omega) (Nat.le_refl _)⟩), (pm' sm3.b S18).drop 2⟩
  have hstep := hstep he
  refine ⟨_, S17.cell 1 rfl rfl, _, S17.cell 2 rfl rfl, S17.newB fun b58 w19 _ _ S19 => ?_⟩
  have hD2b := hstep.1.b
  refine ⟨fun st w20 => ∃ (i : Nat) (e : Int) (D3 : DiskC), st = [.int .i64 e, .int .i64 (i : Int)] ∧ i ≤ 3 ∧ StepQ D D3 m B X Y e i ∧ ST w0 w20 (It.cells b58 #[.func (.func f.wal_Wal_rewrite_c1) #[] #[ptrV b3], .func (.func f.wal_Wal_rewrite_c2) #[] #[ptrV b3], .func (.func f.disk_Disk_Dir) #[ptrV D.b] #[]] tyEF :: bytesI b bc Y :: It.cells b3 #[ptrV W.b] ty.P_wal_Wal :: walI W D3.b (dkE D3 H)), fun st _ => match st with
    | [_, .int _ i] => 3 - i.toNat
    | _ => 0, ⟨0, e, D2, rfl, by omega, hstep, ?_⟩, ?_⟩
  · rw [hD2b] at S19 ⊢
    exact S19
  rintro e _ w20 ⟨i, _, D3, hst, hi, hq3, S20⟩
  cases hst
  refine IFB_dec (fun hlt => ?_) (fun hge => ?_)
  · have hi3 : i < 3 := by omega
    have sm := hq3.1
    have pm3 : ∀ (D : DiskC), (It.cells b58 #[.func (.func f.wal_Wal_rewrite_c1) #[] #[ptrV b3], .func (.func f.wal_Wal_rewrite_c2) #[] #[ptrV b3], .func (.func f.disk_Disk_Dir) #[ptrV D.b] #[]] tyEF :: bytesI b bc Y :: It.cells b3 #[ptrV W.b] ty.P_wal_Wal :: walI W D3.b (dkE D3 H)).Perm (dkE D3 (It.cells b58 #[.func (.func f.wal_Wal_rewrite_c1) #[] #[ptrV b3], .func (.func f.wal_Wal_rewrite_c2) #[] #[ptrV b3], .func (.func f.disk_Disk_Dir) #[ptrV D.b] #[]] tyEF :: bytesI b bc Y :: It.cells b3 #[ptrV W.b] ty.P_wal_Wal :: walI W D3.b H)) := fun D => (dkE_perm D3 [It.cells b58 #[.func (.func f.wal_Wal_rewrite_c1) #[] #[ptrV b3], .func (.func f.wal_Wal_rewrite_c2) #[] #[ptrV b3], .func (.func f.disk_Disk_Dir) #[ptrV D.b] #[]] tyEF, bytesI b bc Y, It.cells b3 #[ptrV W.b] ty.P_wal_Wal, It.cells W.b (W.cells D3.b) ty.wal_Wal, rowE W.la W.lc W.L.l] H).symm
    have S20p := S20.perm (pm3 D)
    have nd3 := files_nd S20p
    -- the next state
    have nx : ∀ (e' : Int) (D4 : DiskC) (w' : World), D4.b = D3.b → StepQ D D4 m B X Y e' (i + 1) → ST w0 w' (dkE D4 (It.cells b58 #[.func (.func f.wal_Wal_rewrite_c1) #[] #[ptrV b3], .func (.func f.wal_Wal_rewrite_c2) #[] #[ptrV b3], .func (.func f.disk_Disk_Dir) #[ptrV D.b] #[]] tyEF :: bytesI b bc Y :: It.cells b3 #[ptrV W.b] ty.P_wal_Wal :: walI W D3.b H)) →
        (∃ (j : Nat) (e2 : Int) (D5 : DiskC), [Value.int .i64 e', Value.int .i64 (IntKind.i64.wrap ((i : Int) + 1))] = [.int .i64 e2, .int .i64 (j : Int)] ∧ j ≤ 3 ∧ StepQ D D5 m B X Y e2 j ∧ ST w0 w' (It.cells b58 #[.func (.func f.wal_Wal_rewrite_c1) #[] #[ptrV b3], .func (.func f.wal_Wal_rewrite_c2) #[] #[ptrV b3], .func (.func f.disk_Disk_Dir) #[ptrV D.b] #[]] tyEF :: bytesI b bc Y :: It.cells b3 #[ptrV W.b] ty.P_wal_Wal :: walI W D5.b (dkE D5 H))) ∧ 3 - (IntKind.i64.wrap ((i : Int) + 1)).toNat < 3 - ((i : Nat) : Int).toNat := fun e' D4 w' hb hs S' => by
      rw [wrap_succ (by omega)]
      refine ⟨⟨i + 1, e', D4, rfl, by omega, hs, ?_⟩, by simp only [Int.toNat_natCast]; omega⟩
      rw [← hb] at S'
      exact S'.perm (dkE_perm D4 [It.cells b58 #[.func (.func f.wal_Wal_rewrite_c1) #[] #[ptrV b3], .func (.func f.wal_Wal_rewrite_c2) #[] #[ptrV b3], .func (.func f.disk_Disk_Dir) #[ptrV D.b] #[]] tyEF, bytesI b bc Y, It.cells b3 #[ptrV W.b] ty.P_wal_Wal, It.cells W.b (W.cells D4.b) ty.wal_Wal, rowE W.la W.lc W.L.l] H)
    have hb3 := S20.cell 2 rfl (i := 0) (v := ptrV W.b) rfl
    have hbw := S20.cell 3 rfl (i := 0) (v := ptrV D3.b) rfl
    rcases (by omega : i = 0 ∨ i = 1 ∨ i = 2) with rfl | rfl | rfl
    · refine ⟨⟨by omega, hlt⟩, _, _, _, S20.cell 0 rfl (i := 0) rfl, IFB_eq (fun he0 => ?_) (fun he0 => nx e D3 w20 rfl (hq3.skip he0 _) S20p)⟩
      subst he0
      simp only [enters_c1, cond_true]
      obtain ⟨_, ⟨h, _⟩ | ⟨_, ⟨_, b', fr⟩ | ⟨h, _⟩ | ⟨h, _⟩ | ⟨h, _⟩⟩⟩ := hq3
      · cases h
      · refine (c1_ok (bw := W.b) (b3 := b3) S20p fr.q.wd.ok (by omega) hb3 hbw).mono ?_
        rintro _ w21 ⟨_, rfl, e', D4, rfl, S21, hr⟩
        refine ⟨_, rfl, ?_⟩
        rcases sync_fr fr nd3 hr with ⟨hf, rfl, rfl⟩ | ⟨rfl, sm4, fr4⟩
        · exact nx _ { D3 with off := true } w21 rfl ⟨⟨sm.b, sm.room, sm.fused⟩, .inl ⟨rfl, by rw [← sm.fused]; exact hf, fr.q.wd.off.mono (by omega) (Nat.le_refl _), CrashTo.mono (CrashTo.off fr.q.crash) fun x hx => .inl hx⟩⟩ S21
        · exact nx _ D4 w21 sm4.b ⟨sm.trans sm4, .inr ⟨rfl, .inr (.inl ⟨rfl, b', fr4.mono (by omega) (Nat.le_refl _)⟩)⟩⟩ S21
      · omega
      · omega
      · omega
    · refine ⟨⟨by omega, hlt⟩, _, _, _, S20.cell 0 rfl (i := 1) rfl, IFB_eq (fun he0 => ?_) (fun he0 => nx e D3 w20 rfl (hq3.skip he0 _) S20p)⟩
      subst he0
      simp only [enters_c2, cond_true]
      obtain ⟨_, ⟨h, _⟩ | ⟨_, ⟨h, _⟩ | ⟨_, b', fr⟩ | ⟨h, _⟩ | ⟨h, _⟩⟩⟩ := hq3
      · cases h
      · omega
      · refine (c2_ok (bw := W.b) (b3 := b3) S20p fr.q.wd.ok (by omega) hb3 hbw).mono ?_
        rintro _ w21 ⟨_, rfl, e', D4, rfl, S21, hr⟩
        refine ⟨_, rfl, ?_⟩
        rcases rename_fr fr hr with ⟨hf, rfl, rfl⟩ | ⟨rfl, sm4, fr4⟩
        · exact nx _ { D3 with off := true } w21 rfl ⟨⟨sm.b, sm.room, sm.fused⟩, .inl ⟨rfl, by rw [← sm.fused]; exact hf, fr.q.wd.off.mono (by omega) (Nat.le_refl _), CrashTo.mono (CrashTo.off fr.q.crash) fun x hx => .inl hx⟩⟩ S21
        · exact nx _ D4 w21 sm4.b ⟨sm.trans sm4, .inr ⟨rfl, .inr (.inr (.inl ⟨rfl, b', fr4.wd.mono (by omega) (Nat.le_refl _), fr4.off, fr4.crash, fr4.at_, fr4.file⟩))⟩⟩ S21
      · omega
      · omega
    · refine ⟨⟨by omega, hlt⟩, _, _, _, S20.cell 0 rfl (i := 2) rfl, IFB_eq (fun he0 => ?_) (fun he0 => nx e D3 w20 rfl (hq3.skip he0 _) S20p)⟩
      subst he0
      simp only [enters_dir, cond_true]
      obtain ⟨_, ⟨h, _⟩ | ⟨_, ⟨h, _⟩ | ⟨h, _⟩ | ⟨_, b', fr⟩ | ⟨h, _⟩⟩⟩ := hq3
      · cases h
      · omega
      · omega
      · refine Calls.arg (b := #[ptrV D3.b]) (congrArg (fun x => #[ptrV x]) sm.b.symm) ((dir_ok S20p fr.wd.ok (by omega)).mono ?_)
        rintro _ w21 ⟨_, rfl, e', D4, rfl, S21, hr⟩
        refine ⟨_, rfl, ?_⟩
        rcases dir_fr fr hr with ⟨hf, rfl, rfl⟩ | ⟨rfl, sm4, q4⟩
        · exact nx _ { D3 with off := true } w21 rfl ⟨⟨sm.b, sm.room, sm.fused⟩, .inl ⟨rfl, by rw [← sm.fused]; exact hf, fr.wd.off.mono (by omega) (Nat.le_refl _), CrashTo.off fr.crash⟩⟩ S21
        · exact nx _ D4 w21 sm4.b ⟨sm.trans sm4, .inr ⟨rfl, .inr (.inr (.inr ⟨rfl, q4⟩))⟩⟩ S21
      · omega
  · have : i = 3 := by omega
    subst this
    exact ⟨e, D3, rfl, hq3.1, hq3.done, S20.drop 3⟩
end
end Go.Proofs.YtfgbfodohmeamaaGreatDoor
namespace Go.Proofs.YtfgbfodohmeamaaGreatDoor
set_option maxRecDepth 100000
open Go.Dn Go.Proofs
set_option linter.unusedVariables false
def setP (L : LogP) (t v : Int) : Option LogP := if t < L.term ∨ v < 0 ∨ 7 < v ∨ (t = L.term ∧ L.vote ≠ 0 ∧ v ≠ L.vote) then none else some { L with term := t, vote := v }
def appP (L : LogP) : List EntP → Option LogP
  | [] => some L
  | x :: r => if L.may x then appP { L with l := L.l ++ [x] } r else none
def cutP (L : LogP) (i : Int) : Option LogP := if L.has i then some (L.cut i) else none
def restE (L : LogP) (i t : Int) : List EntP := match L.at i with
  | some x => if x.2.1 = t then L.l.drop (i - L.sidx).toNat else []
  | none => []
def snapP (L : LogP) (s : EntP) : Option LogP := if s.1 ≤ L.sidx ∨ s.2.1 < L.sterm ∨ 262144 < s.2.2.size then none else some { L with sidx := s.1, sterm := s.2.1, sdata := s.2.2, l := restE L s.1 s.2.1 }
theorem appP_play : ∀ (xs : List EntP) (L : LogP), appP L xs = playP L (xs.map .ent)
  | [], L => rfl
  | x :: r, L => by
    simp only [appP, List.map_cons, playP, stepP]
    split
    · exact appP_play r _
    · rfl
theorem appP_snoc : ∀ (xs : List EntP) (x : EntP) (L : LogP), appP L (xs ++ [x]) = (appP L xs).bind fun A => if A.may x then some { A with l := A.l ++ [x] } else none
  | [], x, L => by simp [appP]
  | y :: r, x, L => by
    simp only [List.cons_append, appP]
    split
    · exact appP_snoc r x _
    · rfl
theorem setP_play {L L' : LogP} {t v : Int} (h : setP L t v = some L') : playP L [.state t v] = some L' ∧ L.term ≤ t ∧ 0 ≤ v ∧ v ≤ 7 ∧ L' = { L with term := t, vote := v } := by
  unfold setP at h
  split at h
  · cases h
  · next hc =>
    have h1 : L.term ≤ t := by omega
    have h2 : 0 ≤ v := by omega
    have h3 : v ≤ 7 := by omega
    refine ⟨?_, h1, h2, h3, (Option.some.inj h).symm⟩
    simp only [playP, stepP, if_pos (show v ≤ 7 ∧ L.term ≤ t from ⟨h3, h1⟩), Option.bind_some]
    exact h
theorem cutP_play {L L' : LogP} {i : Int} (h : cutP L i = some L') : playP L [.cut i] = some L' ∧ L.has i ∧ L' = L.cut i := by
  unfold cutP at h
  split at h
  · next hc =>
    refine ⟨?_, hc, (Option.some.inj h).symm⟩
    simp only [playP, stepP, if_pos hc, Option.bind_some]
    exact h
  · cases h
theorem LogOk.mono {L : LogP} {m n : Int} (h : LogOk L m) (hn : m ≤ n) : LogOk L n := ⟨h.term, h.vote, h.sidx, h.sterm, h.sdata, h.ents, Int.le_trans h.last hn⟩
theorem LogOk.b {L : LogP} {m : Int} (h : LogOk L m) (hm : m ≤ 4611686018427387904) : LogB L := ⟨h.sidx, Int.le_trans h.last hm⟩
theorem setP_ok {L L' : LogP} {m t v : Int} (h : LogOk L m) (ht : t ≤ 9223372036854775807) (hs : setP L t v = some L') : LogOk L' m := by
  obtain ⟨_, h1, h2, h3, rfl⟩ := setP_play hs
  exact ⟨⟨by have := h.term.1; show 0 ≤ t; omega, ht⟩, ⟨h2, h3⟩, h.sidx, h.sterm, h.sdata, h.ents, h.last⟩
theorem may_ok {L : LogP} {m : Int} {x : EntP} (h : LogOk L m) (hx : x.2.1 ≤ 9223372036854775807) (hm : L.may x) : LogOk { L with l := L.l ++ [x] } (m + 1) :=
  ⟨h.term, h.vote, h.sidx, h.sterm, h.sdata, h.ents.snoc hm hx, by have := h.last; unfold LogP.last at *; rw [List.length_append, List.length_singleton]; push_cast; omega⟩
theorem appP_ok : ∀ (xs : List EntP) {L L' : LogP} {m : Int}, LogOk L m → (∀ x ∈ xs, x.2.1 ≤ 9223372036854775807) → appP L xs = some L' → LogOk L' (m + xs.length) ∧ L'.term = L.term ∧ L'.vote = L.vote ∧ L'.sidx = L.sidx ∧ L'.sterm = L.sterm ∧ L'.sdata = L.sdata ∧ L'.l = L.l ++ xs
  | [], L, L', m, h, _, hs => by cases hs; exact ⟨by simpa using h, rfl, rfl, rfl, rfl, rfl, by simp⟩
  | x :: r, L, L', m, h, hx, hs => by
    simp only [appP] at hs
    split at hs
    · next hm =>
      obtain ⟨h1, h2, h3, h4, h5, h6, h7⟩ := appP_ok r (may_ok h (hx x (by simp)) hm) (fun y hy => hx y (by simp [hy])) hs
      refine ⟨h1.mono (by rw [List.length_cons]; push_cast; omega), h2, h3, h4, h5, h6, ?_⟩
      rw [h7]
      simp
    · cases hs
theorem cutP_ok {L L' : LogP} {m i : Int} (h : LogOk L m) (hs : cutP L i = some L') : LogOk L' m := by
  obtain ⟨_, hh, rfl⟩ := cutP_play hs
  refine ⟨h.term, h.vote, h.sidx, h.sterm, h.sdata, h.ents.take _, ?_⟩
  have := h.last
  unfold LogP.last LogP.cut at *
  show L.sidx + ((L.l.take (i - L.sidx - 1).toNat).length : Int) ≤ m
  rw [List.length_take]
  omega
theorem restE_ents {L : LogP} {m i t : Int} (h : LogOk L m) : Ents i t (restE L i t) ∧ (restE L i t = [] ∨ i + ((restE L i t).length : Int) = L.last) := by
  unfold restE
  cases ha : L.at i with
  | none => exact ⟨trivial, .inl rfl⟩
  | some x =>
    show Ents i t (if x.2.1 = t then L.l.drop (i - L.sidx).toNat else []) ∧ ((if x.2.1 = t then L.l.drop (i - L.sidx).toNat else []) = [] ∨ i + ((if x.2.1 = t then L.l.drop (i - L.sidx).toNat else []).length : Int) = L.last)
    by_cases hx : x.2.1 = t
    · rw [if_pos hx]
      unfold LogP.at at ha
      split at ha
      · next hh =>
        have hlt := LogP.has_lt hh
        rw [List.getElem?_eq_getElem hlt] at ha
        have hxe := Option.some.inj ha
        have hd := h.ents.drop _ hlt
        have h1 := (h.ents.get _ hlt).1
        have e : (i - L.sidx - 1).toNat + 1 = (i - L.sidx).toNat := by have := hh.1; omega
        have ei : L.l[(i - L.sidx - 1).toNat].1 = i := by rw [h1]; have := hh.1; omega
        rw [e, ei, hxe, hx] at hd
        refine ⟨hd, .inr ?_⟩
        rw [List.length_drop]
        have := hh.1
        have := hh.2
        unfold LogP.last at *
        omega
      · cases ha
    · rw [if_neg hx]
      exact ⟨trivial, .inl rfl⟩
theorem snapP_ok {L L' : LogP} {m : Int} {s : EntP} (h : LogOk L m) (hi : s.1 ≤ m) (ht : s.2.1 ≤ 9223372036854775807) (hs : snapP L s = some L') : LogOk L' m := by
  unfold snapP at hs
  split at hs
  · cases hs
  · next hc =>
    cases hs
    obtain ⟨h1, h2⟩ := restE_ents (i := s.1) (t := s.2.1) h
    have hs0 := h.sidx
    have ht0 := h.sterm.1
    refine ⟨h.term, h.vote, by show 0 ≤ s.1; omega, ⟨by show 0 ≤ s.2.1; omega, ht⟩, by show s.2.2.size ≤ 262144; omega, h1, ?_⟩
    have hl := h.last
    show s.1 + ((restE L s.1 s.2.1).length : Int) ≤ m
    rcases h2 with h2 | h2
    · rw [h2]; simpa using hi
    · rw [h2]; exact hl
def sizeL (L : LogP) : Nat := L.sdata.size + 100 + (L.l.map fun x => x.2.2.size + 43).sum
theorem ents_size : ∀ (l : List EntP), (∀ x ∈ l, okE x) → (flatR (l.map .ent)).length ≤ (l.map fun x => x.2.2.size + 43).sum
  | [], _ => by simp [flatR]
  | x :: l, h => by
    have h1 := ents_size l fun y hy => h y (by simp [hy])
    have h2 := (Pay.bytes_len (p := .ent x) (h x (by simp))).2
    have h3 := Pay.rcd_len (.ent x)
    have h4 : (Pay.ent x).size = x.2.2.size := rfl
    rw [List.map_cons, flatR_cons, List.length_append, List.map_cons, List.sum_cons]
    omega
theorem okE_of {L : LogP} {m : Int} (h : LogOk L m) (hm : m ≤ 9223372036854775807) : ∀ x ∈ L.l, okE x := fun x hx => (fresh_plays h hm).ok (.ent x) (by simp [freshR, hx])
theorem fresh_size {L : LogP} {m : Int} (h : LogOk L m) (hm : m ≤ 9223372036854775807) : (flatR (freshR L)).length ≤ sizeL L := by
  have hpl := (fresh_plays h hm).ok
  have h1 := ents_size L.l (okE_of h hm)
  have h2 := (Pay.bytes_len (hpl (.snap (L.sidx, L.sterm, L.sdata)) (by simp [freshR]))).2
  have h3 := (Pay.bytes_len (hpl (.state L.term L.vote) (by simp [freshR]))).2
  have h4 := Pay.rcd_len (.snap (L.sidx, L.sterm, L.sdata))
  have h5 := Pay.rcd_len (.state L.term L.vote)
  have h6 : (Pay.snap (L.sidx, L.sterm, L.sdata)).size = L.sdata.size := rfl
  have h7 : (Pay.state L.term L.vote).size = 0 := rfl
  have e : flatR (freshR L) = (Pay.snap (L.sidx, L.sterm, L.sdata)).rcd ++ ((Pay.state L.term L.vote).rcd ++ flatR (L.l.map .ent)) := rfl
  rw [e, List.length_append, List.length_append]
  unfold sizeL
  omega
def WholeF (Y : List UInt8) (L : LogP) : Prop := ∃ ps, Plays ps L ∧ Y = flatR ps
theorem WholeF.more {Y : List UInt8} {L L' : LogP} {qs : List Pay} (h : WholeF Y L) (hq : ∀ p ∈ qs, p.ok) (hs : playP L qs = some L') : WholeF (Y ++ flatR qs) L' := by
  obtain ⟨ps, h1, rfl⟩ := h
  exact ⟨ps ++ qs, h1.more hq hs, (flatR_append _ _).symm⟩
theorem WholeF.file {Y : List UInt8} {L : LogP} (h : WholeF Y L) : FileP Y L := by
  obtain ⟨ps, h1, rfl⟩ := h
  exact ⟨ps, [], h1, .inl rfl, by simp⟩
theorem WholeF.part {Y : List UInt8} {L L' : LogP} {qs : List Pay} (h : WholeF Y L) (hq : ∀ p ∈ qs, p.ok) (hs : playP L qs = some L') (k : Nat) : ∃ (j : Nat) (A : LogP), j ≤ qs.length ∧ playP L (qs.take j) = some A ∧ FileP (Y ++ (flatR qs).take k) A := by
  obtain ⟨ps, h1, rfl⟩ := h
  obtain ⟨j, t, hj, ht, e⟩ := take_recs qs k hq
  have e2 : qs = qs.take j ++ qs.drop j := (List.take_append_drop j qs).symm
  rw [e2, playP_append] at hs
  cases hA : playP L (qs.take j) with
  | none => rw [hA] at hs; cases hs
  | some A =>
    refine ⟨j, A, hj, hA, ps ++ qs.take j, t, h1.more (fun p hp => hq p (List.mem_of_mem_take hp)) hA, ht, ?_⟩
    rw [e, flatR_append, List.append_assoc]
end Go.Proofs.YtfgbfodohmeamaaGreatDoor
namespace Go.Proofs.YtfgbfodohmeamaaGreatDoor
set_option maxRecDepth 100000
open Go.Dn Go.Proofs
open Go.RowKit (Below)
set_option linter.unusedVariables false
theorem rd_blk {xs : List Value} {b k : Nat} (h : (It.rd (some ⟨b, 0, none⟩) xs).blk = some k) : k = b := by
  cases xs with
  | nil => cases h
  | cons x xs => cases h; rfl
theorem RewR.sure {D D' : DiskC} {m B : Nat} {X : Option (List UInt8)} {Y : List UInt8} {e : Int} (h : RewR D m B X Y e D') (hf : D.fused = false) (hroom : 2 * B + Y.length ≤ D.room) : e = 0 ∧ WQ D' (m + 10) B (some Y) := by
  rcases h with h | ⟨_, h, _⟩ | ⟨_, h, _⟩
  · exact h
  · omega
  · rw [hf] at h; cases h
theorem readE_none {D : DiskC} {m B : Nat} (hq : WQ D m B none) : readE D nW = (⟨#[]⟩, 180) := by
  have hc := hq.cur
  unfold Cur at hc
  have hn : namedE D nW = (none, 180) := by
    rw [named_of hq.off name_nW]
    cases hd : D.dir (bl nW) with
    | none => rfl
    | some b => rw [hd] at hc; obtain ⟨f, _, h, _⟩ := hc; cases h
  unfold readE
  rw [hn]
  rfl
theorem readE_some {D : DiskC} {m B : Nat} {Y : List UInt8} (hq : WQ D m B (some Y)) : readE D nW = (sof Y, 0) := by
  have hc := hq.cur
  unfold Cur at hc
  cases hd : D.dir (bl nW) with
  | none => rw [hd] at hc; cases hc
  | some b =>
    rw [hd] at hc
    obtain ⟨f, h1, h2, _⟩ := hc
    have hn : namedE D nW = (some b, 0) := by rw [named_of hq.off name_nW, hd]
    unfold readE
    rw [hn, dataD_of hd h1, Option.some.inj h2]
    rfl
theorem WQ.len {D : DiskC} {m B : Nat} {Y : List UInt8} (hq : WQ D m B (some Y)) : Y.length ≤ B := by
  have hc := hq.cur
  unfold Cur at hc
  cases hd : D.dir (bl nW) with
  | none => rw [hd] at hc; cases hc
  | some b =>
    rw [hd] at hc
    obtain ⟨f, h1, h2, _⟩ := hc
    rw [← Option.some.inj h2]
    exact hq.wd.len f (fileD_mem h1).1
theorem zero_ok : LogOk zeroL 0 := ⟨⟨by decide, by decide⟩, ⟨by decide, by decide⟩, by decide, ⟨by decide, by decide⟩, by decide, trivial, by decide⟩
def SaysF (ρ : Prop) (X : Option (List UInt8)) (L : LogP) : Prop := match X with
  | none => L = zeroL ∧ ρ
  | some Y => ∃ ps t, Plays ps L ∧ Torn t ∧ Y = flatR ps ++ t ∧ (t = [] ∨ ρ)
theorem WholeF.says {Y : List UInt8} {L : LogP} (h : WholeF Y L) (ρ : Prop) : SaysF ρ (some Y) L := by
  obtain ⟨ps, h1, rfl⟩ := h
  exact ⟨ps, [], h1, .inl rfl, by simp, .inl rfl⟩
theorem FileP.says {Y : List UInt8} {L : LogP} (h : FileP Y L) {ρ : Prop} (hr : ρ) : SaysF ρ (some Y) L := by
  obtain ⟨ps, t, h1, h2, h3⟩ := h
  exact ⟨ps, t, h1, h2, h3, .inr hr⟩
section
variable {w0 w : World} {H : List It} {D : DiskC} {m B : Nat}
theorem wal_Open_ok (S : ST w0 w (dkE D H)) {X : Option (List UInt8)} (hq : WQ D m B X) (hm : m + 20 < 1000000) (hf : D.fused = false) (hB : B ≤ 10000000) {L : LogP} {mx : Int} (hL : LogOk L mx) (hmx : mx ≤ 2305843009213693952) (hX : SaysF (2 * B + (flatR (freshR L)).length ≤ D.room) X L) (hfs : (flatR (freshR L)).length ≤ B) :
    Calls Tryz.prog f.wal_Open #[ptrV D.b] w (Ret fun v w' => ∃ W D' Y, v = .tuple #[ptrV W.b, .int .i64 0] ∧ W.L = L ∧ Sam D D' ∧ WQ D' (m + 10) B (some Y) ∧ WholeF Y L ∧ ST w0 w' (walI W D'.b (dkE D' H))) := by
  have hpl0 := fresh_plays hL (by omega)
  apply R.wal_Open_calls
  unfold R.wal_Open
  refine IFB_false (S.newB fun b2 w1 _ _ S1 => ?_)
  obtain ⟨W0, hW0⟩ : ∃ W0 : WalC, W0 = ⟨b2, none, 0, zeroL⟩ := ⟨_, rfl⟩
  have S1 : ST w0 w1 (walI W0 D.b (dkE D H)) := by
    rw [hW0]
    exact (S1.nil ty.api_Entry 3).perm (List.Perm.swap _ _ _)
  have hb0 : W0.b = b2 := by rw [hW0]
  have hl0 : W0.L = zeroL := by rw [hW0]
  refine (read_ok (S1.perm (wd_perm D D.b)) hq.wd.ok nW (by decide)).mono ?_
  rintro _ w2 ⟨_, rfl, rfl, S2⟩
  have S2 := S2.perm (wd_perm D D.b).symm
  refine ⟨_, _, rfl, fun st w10 => st = [.int .i64 0] ∧ ∃ la lc D' Y, Sam D D' ∧ WQ D' (m + 10) B (some Y) ∧ WholeF Y L ∧ ST w0 w10 (walI ⟨b2, la, lc, L⟩ D'.b (dkE D' H)), ?_, ?_⟩
  rotate_left
  · rintro _ w10 ⟨hst, la, lc, D', Y, h1, h2, h3, S10⟩
    cases hst
    exact IFB_ne (fun h => absurd rfl h) (fun _ => ⟨⟨b2, la, lc, L⟩, D', Y, rfl, rfl, h1, h2, h3, S10⟩)
  cases X with
  | none =>
    obtain ⟨hX, hroom⟩ : L = zeroL ∧ _ := hX
    subst hX
    rw [readE_none hq]
    refine IFB_eq (fun _ => ?_) (fun h => absurd rfl h)
    have hcall := wal_rewrite_ok (T := W0) (td := D.b) S2 hq hm (fun w' S' => walR_of S') (by rw [hl0]; exact hL) (by omega) (by rw [hl0]; omega) (by omega)
    rw [hb0, hl0] at hcall
    refine hcall.mono ?_
    rintro _ w3 ⟨_, rfl, e, D', rfl, sm, hr, S3⟩
    obtain ⟨rfl, q⟩ := hr.sure hf hroom
    refine ⟨_, rfl, rfl, none, 0, D', _, sm, q, ⟨_, hpl0, rfl⟩, ?_⟩
    rw [hW0] at S3
    exact S3
  | some Y =>
    obtain ⟨ps, t, hpl, ht, rfl, hroom⟩ := hX
    match ps, hpl with
    | .snap x :: rest, ⟨hps, hplay⟩ =>
    have hYl := hq.len
    have hx : x.1 ≤ 2305843009213693952 := by
      have h1 : L.sidx = x.1 := (play_keeps hplay).1
      have h2 := hL.last
      unfold LogP.last at h2
      omega
    rw [readE_some hq]
    refine IFB_eq (fun h => absurd h (by show ¬ (0 : Int) = 180; decide)) (fun _ => ⟨fun st w6 => st = [.bool false] ∧ ∃ la lc, ST w0 w6 (walI ⟨b2, la, lc, L⟩ D.b (dkE D H)), ?_, ?_⟩)
    · refine IFB_eq (fun _ => bytes_of_string tbytes (sof (flatR (.snap x :: rest) ++ t)) w2 fun b c cs e w4 hb B4 hh hcs hsc htk => ⟨_, _, _, rfl, ?_⟩) (fun h => absurd rfl h)
      have hrd : Rd w4 (some ⟨b, 0, none⟩) ((flatR (.snap x :: rest) ++ t).map byteV) := by
        have := (Rd.of_block0 hh).take (sof (flatR (.snap x :: rest) ++ t)).size
        rwa [htk, bl_sof] at this
      rw [sof_size] at hsc ⊢
      have S4 := (S2.add B4 (It.rd (some ⟨b, 0, none⟩) ((flatR (.snap x :: rest) ++ t).map byteV)) hrd (fun k hk => by rw [rd_blk hk]; omega)).perm (walI_perm [It.rd (some ⟨b, 0, none⟩) ((flatR (.snap x :: rest) ++ t).map byteV)])
      have hcall := wal_read_ok (a := some ⟨b, 0, none⟩) (c := c) S4 hl0 x rest L t hps hplay ht (by omega) hx hsc (by simp)
      rw [hb0] at hcall
      refine hcall.mono ?_
      rintro _ w5 ⟨_, rfl, rfl, la, lc, S5⟩
      have S6 := (S5.perm (walI_perm [It.rd (some ⟨b, 0, none⟩) ((flatR (.snap x :: rest) ++ t).map byteV)]).symm).drop 1
      exact ⟨_, rfl, rfl, la, lc, S6⟩
    · rintro _ w6 ⟨hst, la, lc, S6⟩
      cases hst
      refine IFB_false (IFB_eq (fun _ => bytes_of_string tbytes (sof (flatR (.snap x :: rest) ++ t)) w6 fun b c cs e w7 hb B7 hh hcs hsc htk => ⟨_, _, _, rfl, ?_⟩) (fun h => absurd rfl h))
      have hrd : Rd w7 (some ⟨b, 0, none⟩) ((flatR (.snap x :: rest) ++ t).map byteV) := by
        have := (Rd.of_block0 hh).take (sof (flatR (.snap x :: rest) ++ t)).size
        rwa [htk, bl_sof] at this
      rw [sof_size] at hsc ⊢
      refine (wal_whole_ok (.snap x :: rest) t hps ht (by omega) hsc hrd).mono ?_
      rintro _ w8 ⟨_, rfl, rfl, B8⟩
      have S8 := (S6.grown B7).grown B8
      refine ⟨_, rfl, IFB_dec (fun hlt => ?_) (fun hge => ?_)⟩
      · obtain ⟨W1, hW1⟩ : ∃ W1 : WalC, W1 = ⟨b2, la, lc, L⟩ := ⟨_, rfl⟩
        rw [← hW1] at S8
        have hcall := wal_rewrite_ok (T := W1) (td := D.b) S8 hq hm (fun w' S' => walR_of S') (by rw [hW1]; exact hL) (by omega) (by rw [hW1]; show (flatR (freshR L)).length ≤ B; omega) (by omega)
        have hb1 : W1.b = b2 := by rw [hW1]
        have hl1 : W1.L = L := by rw [hW1]
        rw [hb1, hl1] at hcall
        refine hcall.mono ?_
        rintro _ w9 ⟨_, rfl, e', D', rfl, sm, hr, S9⟩
        have hroom : 2 * B + (flatR (freshR L)).length ≤ D.room := by
          rcases hroom with h | h
          · rw [h] at hlt; simp at hlt
          · exact h
        obtain ⟨rfl, q⟩ := hr.sure hf hroom
        refine ⟨_, rfl, rfl, la, lc, D', _, sm, q, ⟨_, hpl0, rfl⟩, ?_⟩
        rw [hW1] at S9
        exact S9
      · have ht0 : t = [] := by
          rw [List.length_append] at hge
          exact List.eq_nil_of_length_eq_zero (by omega)
        subst ht0
        rw [List.append_nil] at hq
        exact ⟨rfl, la, lc, D, _, .refl _, hq.mono (by omega) (Nat.le_refl _), ⟨.snap x :: rest, ⟨hps, hplay⟩, rfl⟩, S8⟩
end
def LayOp (D : DiskC) (m B : Nat) (Y : List UInt8) (L : LogP) (o : Option LogP) (qs : List Pay) (e : Int) (D' : DiskC) (L2 : LogP) : Prop :=
  (o = none ∧ e = 2 ∧ D' = D ∧ L2 = L) ∨ (∃ L', o = some L' ∧ LayR D m B Y (flatR qs) e D' ∧ L2 = if e = 0 then L' else L)
theorem flatR_one (p : Pay) : flatR [p] = p.rcd := by simp [flatR]
section
variable {w0 w : World} {H : List It} {W : WalC} {D : DiskC} {m B : Nat}
theorem lift_perm (P : List It) (d : Nat) : (P ++ walI W d (dkE D H)).Perm (walI W d (dkE D (P ++ H))) :=
  (walI_perm P).trans (List.Perm.cons _ (List.Perm.cons _ (dkE_perm D P H).symm))
theorem wal_SetState_ok (S : ST w0 w (walI W D.b (dkE D H))) {Y : List UInt8} (hq : WQ D m B (some Y)) (hm : m + 10 < 1000000) {mx : Int} (hL : LogOk W.L mx) (t v : Int) (ht : t ≤ 9223372036854775807) (hB : Y.length + 100 ≤ B) :
    Calls Tryz.prog f.wal_Wal_SetState #[ptrV W.b, .agg #[.int .i64 t, .int .i64 v]] w (Ret fun u w' => ∃ e D' L2, u = .int .i64 e ∧ Sam D D' ∧ LayOp D m B Y W.L (setP W.L t v) [.state t v] e D' L2 ∧ ST w0 w' (walI { W with L := L2 } D'.b (dkE D' H))) := by
  apply R.wal_Wal_SetState_calls
  unfold R.wal_Wal_SetState
  refine S.newB fun b4 w1 _ _ S1 => ?_
  have no : (t < W.L.term ∨ v < 0 ∨ 7 < v ∨ (t = W.L.term ∧ W.L.vote ≠ 0 ∧ v ≠ W.L.vote)) → ∀ w', ST w0 w' (It.cells b4 #[.int .i64 t, .int .i64 v] 44 :: walI W D.b (dkE D H)) →
      ∃ e D' L2, Value.int .i64 2 = .int .i64 e ∧ Sam D D' ∧ LayOp D m B Y W.L (setP W.L t v) [.state t v] e D' L2 ∧ ST w0 w' (walI { W with L := L2 } D'.b (dkE D' H)) := fun hc w' S' =>
    ⟨2, D, W.L, rfl, .refl _, .inl ⟨by unfold setP; rw [if_pos hc], rfl, rfl, rfl⟩, S'.drop 1⟩
  refine ⟨fun st w3 => st = [] ∧ ¬ (t < W.L.term ∨ v < 0 ∨ 7 < v ∨ (t = W.L.term ∧ W.L.vote ≠ 0 ∧ v ≠ W.L.vote)) ∧ ST w0 w3 (It.cells b4 #[.int .i64 t, .int .i64 v] 44 :: walI W D.b (dkE D H)), ?_, ?_⟩
  · refine IFB_false (S1.draw fun w2 _ S2 => ⟨_, S2.cell 0 rfl rfl, _, S2.cell 1 rfl rfl, IFB_dec (fun h => no (.inl h) _ S2) (fun h1 => ⟨_, S2.cell 0 rfl rfl, IFB_dec (fun h => no (.inr (.inl h)) _ S2) (fun h2 => ⟨_, S2.cell 0 rfl rfl, IFB_dec (fun h => no (.inr (.inr (.inl h))) _ S2) (fun h3 => ⟨_, S2.cell 0 rfl rfl, _, S2.cell 1 rfl rfl, ?_⟩)⟩)⟩)⟩)
    have h1 : ¬ t < W.L.term := h1
    have h3 : ¬ 7 < v := h3
    refine IFB_eq (fun h4 => ⟨_, S2.cell 1 rfl rfl, IFB_ne (fun h5 => ⟨_, S2.cell 0 rfl rfl, _, S2.cell 1 rfl rfl, IFB_ne (fun h6 => no (.inr (.inr (.inr ⟨h4, h5, h6⟩))) _ S2) (fun h6 => ⟨rfl, ?_, S2⟩)⟩) (fun h5 => ⟨rfl, ?_, S2⟩)⟩) (fun h4 => ⟨rfl, ?_, S2⟩)
    · rintro (h | h | h | ⟨_, _, h⟩)
      · exact h1 h
      · exact h2 h
      · exact h3 h
      · exact h h6
    · rintro (h | h | h | ⟨_, h, _⟩)
      · exact h1 h
      · exact h2 h
      · exact h3 h
      · exact h h5
    · rintro (h | h | h | ⟨h, _, _⟩)
      · exact h1 h
      · exact h2 h
      · exact h3 h
      · exact h4 h
  · rintro w3 ⟨_, hc, S3⟩
    have ht0 := hL.term.1
    have hs : setP W.L t v = some { W.L with term := t, vote := v } := by unfold setP; rw [if_neg hc]
    have hpl := setP_play hs
    have okt : okN t := ⟨by have := hpl.2.1; omega, ht⟩
    have okv : okN v := ⟨hpl.2.2.1, by have := hpl.2.2.2.1; omega⟩
    refine ⟨_, S3.cell 0 rfl rfl, _, S3.cell 0 rfl rfl, (wal_stateRecord_ok w3 t v okt okv).mono ?_⟩
    rintro _ w4 ⟨_, rfl, a4, c4, rfl, h4⟩
    have hrl := (Pay.bytes_len (p := .state t v) ⟨okt, okv⟩).2
    have hrz : (Pay.state t v).size = 0 := rfl
    have hrc := Pay.rcd_len (.state t v)
    have S4 := (S3.grown h4.bel).perm (lift_perm [It.cells b4 #[.int .i64 t, .int .i64 v] 44] D.b)
    refine ⟨_, _, _, rfl, (wal_lay_ok S4 hq hm _ h4.rd (by omega)).mono ?_⟩
    rintro _ w5 ⟨_, rfl, e, D', rfl, sm, hr, S5⟩
    have S5 := S5.perm (lift_perm [It.cells b4 #[.int .i64 t, .int .i64 v] 44] D'.b).symm
    rw [← flatR_one] at hr
    refine ⟨_, rfl, IFB_eq (fun he => ?_) (fun he => ?_)⟩
    · subst he
      refine ⟨_, S5.cell 0 rfl rfl, _, S5.cell 0 rfl rfl, ?_⟩
      refine ST.stoA S5 1 rfl 1 rfl (cs' := #[ptrV D'.b, .int .i64 t, .int .i64 W.L.vote, .int .i64 W.L.sidx, .int .i64 W.L.sterm, .string W.L.sdata, .slice W.la W.L.l.length W.lc]) (by show 1 < 7; omega) rfl fun w6 S6 => ?_
      refine ST.stoA S6 1 rfl 2 rfl (cs' := #[ptrV D'.b, .int .i64 t, .int .i64 v, .int .i64 W.L.sidx, .int .i64 W.L.sterm, .string W.L.sdata, .slice W.la W.L.l.length W.lc]) (by show 2 < 7; omega) rfl fun w7 S7 => ?_
      exact ⟨0, D', { W.L with term := t, vote := v }, rfl, sm, .inr ⟨_, hs, hr, by rw [if_pos rfl]⟩, S7.drop 1⟩
    · exact ⟨e, D', W.L, rfl, sm, .inr ⟨_, hs, hr, by rw [if_neg he]⟩, S5.drop 1⟩
theorem wal_Cut_ok (S : ST w0 w (walI W D.b (dkE D H))) {Y : List UInt8} (hq : WQ D m B (some Y)) (hm : m + 10 < 1000000) {mx : Int} (hL : LogOk W.L mx) (hmx : mx ≤ 4611686018427387904) (i : Int) (hB : Y.length + 100 ≤ B) :
    Calls Tryz.prog f.wal_Wal_Cut #[ptrV W.b, .int .i64 i] w (Ret fun u w' => ∃ e D' L2, u = .int .i64 e ∧ Sam D D' ∧ LayOp D m B Y W.L (cutP W.L i) [.cut i] e D' L2 ∧ ST w0 w' (walI { W with L := L2 } D'.b (dkE D' H))) := by
  have hLB := hL.b hmx
  apply R.wal_Wal_Cut_calls
  unfold R.wal_Wal_Cut
  refine IFB_false ((wal_has_ok (walR_of S) hLB i).mono ?_)
  rintro _ w1 ⟨_, rfl, rfl, B1⟩
  have S1 := S.grown B1
  refine ⟨_, rfl, IFB_not (IFB_dec (fun hh => ?_) (fun hh => ?_))⟩
  · have hs : cutP W.L i = some (W.L.cut i) := by unfold cutP; rw [if_pos hh]
    have hs0 := hL.sidx
    have hlt := LogP.has_lt hh
    have hlen := hLB.len
    have hlast := hLB.last
    obtain ⟨hh1, hh2⟩ := hh
    have oki : okN i := ⟨by omega, by omega⟩
    refine S1.newB fun b5 w2 _ B2 S2 => (wal_words_ok 3 [i] (S2.rdc 0 rfl) (by
      intro y hy
      simp only [List.mem_cons, List.not_mem_nil, or_false] at hy
      rw [hy]
      exact oki) (by simp)).mono ?_
    rintro _ w3 ⟨_, rfl, a3, c3, rfl, h3⟩
    have e3 : wordsL 3 [i] = (Pay.cut i).bytes := by simp [wordsL, Pay.bytes]
    have hrl := (Pay.bytes_len (p := .cut i) oki).2
    have hrz : (Pay.cut i).size = 0 := rfl
    have hrc := Pay.rcd_len (.cut i)
    rw [e3] at h3 ⊢
    refine ⟨_, _, _, rfl, (wal_record_ok _ h3.rd (by omega)).mono ?_⟩
    rintro _ w4 ⟨_, rfl, a4, c4, rfl, h4⟩
    have S4 := ((S2.grown h3.bel).grown h4.bel).drop 1
    have S4 : ST w0 w4 (walI W D.b (dkE D H)) := S4
    refine ⟨_, _, _, rfl, (wal_lay_ok S4 hq hm (Pay.cut i).rcd h4.rd (by omega)).mono ?_⟩
    rintro _ w5 ⟨_, rfl, e, D', rfl, sm, hr, S5⟩
    rw [← flatR_one] at hr
    refine ⟨_, rfl, IFB_eq (fun he => S5.draw fun w6 B6 S6 => ?_) (fun he => ?_)⟩
    · subst he
      have e : IntKind.i64.wrap (IntKind.i64.wrap (i - W.L.sidx) - 1) = i - W.L.sidx - 1 := by rw [wrap_i64 (n := i - W.L.sidx) (by omega) (by omega), wrap_i64 (by omega) (by omega)]
      have hcap := (S6.rw 1 rfl).le
      refine ⟨_, _, _, S6.cell 0 rfl rfl, _, S6.cell 0 rfl rfl, ?_⟩
      rw [e, SLA_zero]
      refine ⟨⟨by omega, by omega, by omega⟩, ?_⟩
      refine ST.stoA S6 0 rfl 6 rfl (cs' := #[ptrV D'.b, .int .i64 W.L.term, .int .i64 W.L.vote, .int .i64 W.L.sidx, .int .i64 W.L.sterm, .string W.L.sdata, .slice W.la ((i - W.L.sidx - 1).toNat - 0) (W.lc - 0)]) (by show 6 < 7; omega) rfl fun w27 S27 => ⟨0, D', W.L.cut i, rfl, sm, .inr ⟨_, hs, hr, by rw [if_pos rfl]⟩, ?_⟩
      have hfr := (S27.rw 1 rfl).front (i := (i - W.L.sidx - 1).toNat) (by omega)
      rw [ents_take] at hfr
      have hl2 : (W.L.l.take (i - W.L.sidx - 1).toNat).length = (i - W.L.sidx - 1).toNat := by rw [List.length_take]; omega
      have S28 := S27.chg 1 rfl (.refl _ _) (rowE W.la W.lc (W.L.l.take (i - W.L.sidx - 1).toNat)) (by unfold rowE; rw [hl2]; exact hfr) (fun k hk => .inl hk)
      have S28 : ST w0 w27 (It.cells W.b #[ptrV D'.b, .int .i64 W.L.term, .int .i64 W.L.vote, .int .i64 W.L.sidx, .int .i64 W.L.sterm, .string W.L.sdata, .slice W.la ((i - W.L.sidx - 1).toNat - 0) (W.lc - 0)] ty.wal_Wal :: rowE W.la W.lc (W.L.l.take (i - W.L.sidx - 1).toNat) :: dkE D' H) := S28
      show ST w0 w27 (It.cells W.b #[ptrV D'.b, .int .i64 W.L.term, .int .i64 W.L.vote, .int .i64 W.L.sidx, .int .i64 W.L.sterm, .string W.L.sdata, .slice W.la (W.L.l.take (i - W.L.sidx - 1).toNat).length W.lc] ty.wal_Wal :: rowE W.la W.lc (W.L.l.take (i - W.L.sidx - 1).toNat) :: dkE D' H)
      rw [hl2]
      exact S28
    · exact ⟨e, D', W.L, rfl, sm, .inr ⟨_, hs, hr, by rw [if_neg he]⟩, S5⟩
  · exact ⟨2, D, W.L, rfl, .refl _, .inl ⟨by unfold cutP; rw [if_neg hh], rfl, rfl, rfl⟩, S1⟩
end
theorem ents_one (l : List EntP) : ∀ u ∈ l.flatMap entC, u.oneCell' = true := by
  intro u hu
  obtain ⟨x, _, hx⟩ := List.mem_flatMap.1 hu
  simp only [entC, List.mem_cons, List.not_mem_nil, or_false] at hx
  rcases hx with rfl | rfl | rfl <;> rfl
theorem appP_take {L A : LogP} {xs : List EntP} {i : Nat} (hi : i < xs.length) (h : appP L (xs.take i) = some A) : appP L (xs.take (i + 1)) = if A.may xs[i] then some { A with l := A.l ++ [xs[i]] } else none := by
  rw [List.take_succ_eq_append_getElem hi, appP_snoc, h]
  rfl
theorem appP_none {L : LogP} {xs : List EntP} {i : Nat} (h : appP L (xs.take i) = none) : appP L xs = none := by
  have e : xs = xs.take i ++ xs.drop i := (List.take_append_drop i xs).symm
  rw [appP_play] at h
  rw [appP_play, e, List.map_append, playP_append, h]
  rfl
theorem flatR_le : ∀ (ps : List Pay), (∀ p ∈ ps, p.ok) → (flatR ps).length ≤ ps.length * 262187
  | [], _ => by simp [flatR]
  | p :: ps, h => by
    have h1 := flatR_le ps fun q hq => h q (by simp [hq])
    have h2 := (Pay.bytes_len (h p (by simp))).2
    have h3 := Pay.size_le (h p (by simp))
    have h4 := p.rcd_len
    rw [flatR_cons, List.length_append, List.length_cons, Nat.add_mul]
    omega
section
variable {w0 w : World} {H : List It} {W : WalC} {D : DiskC} {m B : Nat} {a : Option Addr} {c : Nat}
theorem cloneE_ok (S : ST w0 w H) {l : List EntP} (h : Rd w a (l.flatMap entC)) (hl : l.length ≤ 1000000) : Calls Tryz.prog f.slices_Clone_api_Entry_api_Entry #[.slice a l.length c] w (Ret fun v w' => ∃ a' c', v = .slice a' l.length c' ∧ ST w0 w' (rowE a' c' l :: H)) := by
  apply R.slices_Clone_api_Entry_api_Entry_calls
  unfold R.slices_Clone_api_Entry_api_Entry
  cases a with
  | none =>
    have : l = [] := by
      cases l with
      | nil => rfl
      | cons x l =>
        obtain ⟨p, hp, _⟩ := h 0 (.int .i64 x.1) (by simp [entC])
        cases hp
    subst this
    exact IFB_true ⟨none, 0, rfl, S.nil _ _⟩
  | some q =>
    refine IFB_false (S.newB fun b2 w1 _ B1 S => ?_)
    have S := S.chg 0 rfl (.refl _ _) (It.row ty.api_Entry 3 (some ⟨b2, 0, none⟩) 0 0 []) (row_empty (S.blk 0 rfl)) (fun k hk => .inl hk)
    refine S.app 0 rfl tEnts rfl (by omega) (by omega) (h.grown B1) (mm := l.length) (ents_len l) (ents_one l) (by omega) fun a' c' w' S => ⟨_, _, _, rfl, a', c', by rw [Nat.zero_add], ?_⟩
    simp only [Nat.zero_add, List.nil_append] at S
    exact S
theorem wal_Append_ok (S : ST w0 w (walI W D.b (dkE D H))) {Y : List UInt8} (hq : WQ D m B (some Y)) (hm : m + 10 < 1000000) {mx : Int} (hL : LogOk W.L mx) (xs : List EntP) (hmx : mx + xs.length ≤ 4611686018427387904) (hln : W.L.l.length + xs.length ≤ 900000)
    (hx : ∀ x ∈ xs, x.2.1 ≤ 9223372036854775807) (hr : rowE a c xs ∈ H) (hB : Y.length + (xs.map fun x => x.2.2.size + 43).sum ≤ B) :
    Calls Tryz.prog f.wal_Wal_Append #[ptrV W.b, .slice a xs.length c] w (Ret fun u w' => ∃ e D' la lc L2, u = .int .i64 e ∧ Sam D D' ∧ LayOp D m B Y W.L (appP W.L xs) (xs.map .ent) e D' L2 ∧ ST w0 w' (walI { W with la := la, lc := lc, L := L2 } D'.b (dkE D' H))) := by
  apply R.wal_Wal_Append_calls
  unfold R.wal_Wal_Append
  refine IFB_false ⟨_, S.cell 0 rfl rfl, _, S.cell 0 rfl rfl, _, S.cell 0 rfl rfl, _, S.cell 0 rfl rfl, _, S.cell 0 rfl rfl, _, S.cell 0 rfl rfl, _, _, _, S.cell 0 rfl rfl, S.newB fun b11 w1 _ _ S1 => S1.sto7 0 rfl fun w8 S8 => ⟨_, _, _, S8.cell 1 rfl rfl, (cloneE_ok S8 (S8.rd 2 rfl) (by omega)).mono ?_⟩⟩
  rintro _ w9 ⟨_, rfl, a9, c9, rfl, S9⟩
  refine ⟨_, _, _, rfl, S9.sto 1 rfl (cs' := WalC.cells ⟨b11, a9, c9, W.L⟩ D.b) (by show 6 < 7; omega) rfl fun w10 S10 => ?_⟩
  have S10 : ST w0 w10 (walI ⟨b11, a9, c9, W.L⟩ D.b (walI W D.b (dkE D H))) := S10.perm (List.Perm.swap _ _ _)
  refine ⟨fun st w11 => ∃ (i : Nat) (b : Option Addr) (bc : Nat) (la : Option Addr) (lc : Nat) (A : LogP), st = [.slice b (flatR ((xs.take i).map .ent)).length bc, .int .i64 (i : Int)] ∧ i ≤ xs.length ∧ (∀ p ∈ (xs.take i).map Pay.ent, p.ok) ∧ appP W.L (xs.take i) = some A ∧
    ST w0 w11 (bytesI b bc (flatR ((xs.take i).map .ent)) :: walI ⟨b11, la, lc, A⟩ D.b (walI W D.b (dkE D H))), fun st _ => match st with
    | [_, .int _ i] => xs.length - i.toNat
    | _ => 0, ⟨0, none, 0, a9, c9, W.L, rfl, Nat.zero_le _, by simp, by simp [appP], S10.nil _ _⟩, ?_⟩
  rintro b _ bc _ w11 ⟨i, _, _, la, lc, A, hst, hi, hok, hA, S11⟩
  cases hst
  have hAok := appP_ok _ hL (fun x hx' => hx x (List.mem_of_mem_take hx')) hA
  have hAl : A.l.length ≤ 900000 := by rw [hAok.2.2.2.2.2.2, List.length_append, List.length_take]; omega
  have hAB : LogB A := hAok.1.b (by rw [List.length_take]; omega)
  refine IFB_dec (fun hlt => ?_) (fun hge => ?_)
  · have hil : i < xs.length := by omega
    have hrd : Rd w11 a (xs.flatMap entC) := (S11.ok (rowE a c xs) (by simp [walI, dkE, hr]) : Row _ _ _ _ _ _ _).rd
    obtain ⟨q, rfl, hc⟩ := rowW_at entC_len (by omega) hrd hil
    refine ⟨⟨by omega, hlt⟩, _, by rw [Int.toNat_natCast]; have := hc 0 _ rfl; rw [addr_add_zero] at this; exact this, _, by rw [Int.toNat_natCast]; exact hc 1 _ rfl, _, by rw [Int.toNat_natCast]; exact hc 2 _ rfl, S11.lit3 fun b23 w15 _ S15 => ⟨_, S15.cell 0 rfl rfl, _, S15.cell 0 rfl rfl, _, S15.cell 0 rfl rfl, ?_⟩⟩
    refine (wal_next_ok (W := ⟨b11, la, lc, A⟩) ⟨S15.blk 2 rfl, S15.rd 3 rfl⟩ hAB xs[i]).mono ?_
    rintro _ w16 ⟨_, rfl, rfl, B16⟩
    have S16 := S15.grown B16
    have htk := appP_take hil hA
    refine ⟨_, rfl, IFB_not (IFB_dec (fun hmay => ?_) (fun hmay => ?_))⟩
    · rw [if_pos hmay] at htk
      have hxi := hx _ (List.getElem_mem hil)
      have okx : okE xs[i] := by
        have h1 : xs[i].1 = A.sidx + (A.l.length : Int) + 1 := hmay.1
        have h2 : 1 ≤ xs[i].2.1 := hmay.2.1.1
        have h3 : xs[i].2.2.size ≤ 262144 := hmay.2.2
        have hs := hAB.sidx
        have hl := hAB.last
        unfold LogP.last at hl
        exact ⟨⟨by omega, by omega⟩, ⟨by omega, hxi⟩, h3⟩
      refine ⟨_, _, _, S16.cell 2 rfl rfl, _, S16.cell 0 rfl rfl, _, S16.cell 0 rfl rfl, _, S16.cell 0 rfl rfl, S16.newB fun b33 w17 _ _ S17 => ?_⟩
      refine push_ent (cs := #[]) (t := 0) (l := A.l) (la := la) (lc := lc) S17 4 rfl (by omega) xs[i] (S17.rdc 0 rfl) fun a' c' w18 S18 => ⟨_, _, _, rfl, ?_⟩
      have hcs : (WalC.cells ⟨b11, la, lc, A⟩ D.b).setIfInBounds 6 (.slice a' (A.l.length + 1) c') = WalC.cells ⟨b11, a', c', { A with l := A.l ++ [xs[i]] }⟩ D.b := by
        have : A.l.length + 1 = (A.l ++ [xs[i]]).length := by simp
        rw [this]
        rfl
      refine S18.sto 3 rfl (by show 6 < 7; omega) hcs fun w19 S19 => ⟨_, S19.cell 1 rfl rfl, _, S19.cell 1 rfl rfl, _, S19.cell 1 rfl rfl, ?_⟩
      refine (wal_entryRecord_ok w19 2 xs[i] okx).mono ?_
      rintro _ w20 ⟨_, rfl, a20, c20, rfl, h20⟩
      have S20 := S19.grown h20.bel
      have hok' : ∀ p ∈ (xs.take (i + 1)).map Pay.ent, p.ok := fun p hp => by
        rw [List.take_succ_eq_append_getElem hil, List.map_append] at hp
        rcases List.mem_append.1 hp with h | h
        · exact hok p h
        · simp only [List.map_cons, List.map_nil, List.mem_singleton] at h
          rw [h]
          exact okx
      have e3 : flatR ((xs.take (i + 1)).map .ent) = flatR ((xs.take i).map .ent) ++ recL ((2 : UInt8) :: entB xs[i]) := by
        rw [List.take_succ_eq_append_getElem hil, List.map_append, flatR_append]
        simp [flatR, Pay.rcd, Pay.bytes]
      have hbig := flatR_le _ hok'
      rw [List.length_map, List.length_take, e3, List.length_append] at hbig
      have hmin : min (i + 1) xs.length ≤ 900000 := by omega
      have hmul : min (i + 1) xs.length * 262187 ≤ 900000 * 262187 := Nat.mul_le_mul_right _ hmin
      refine ⟨_, _, _, rfl, app_bytes S20 2 rfl h20.rd (by omega) fun a21 c21 w21 S21 => ⟨_, _, _, rfl, ?_⟩⟩
      rw [← e3] at S21 ⊢
      rw [wrap_succ (by omega)]
      exact ⟨⟨i + 1, a21, c21, a', c', _, rfl, by omega, hok', htk, S21.drop 2⟩, by show xs.length - ((i + 1 : Nat) : Int).toNat < xs.length - ((i : Nat) : Int).toNat; simp only [Int.toNat_natCast]; omega⟩
    · rw [if_neg hmay] at htk
      exact ⟨2, D, W.la, W.lc, W.L, rfl, .refl _, .inl ⟨appP_none htk, rfl, rfl, rfl⟩, S16.drop 4⟩
  · have : i = xs.length := by omega
    subst this
    rw [List.take_length] at S11 hok hA ⊢
    have hsz := ents_size xs fun x hx' => hok (.ent x) (List.mem_map_of_mem hx')
    have S12 := S11.perm (lift_perm (W := W) [bytesI b bc (flatR (xs.map .ent)), It.cells b11 (WalC.cells ⟨b11, la, lc, A⟩ D.b) ty.wal_Wal, rowE la lc A.l] D.b)
    refine (wal_lay_ok S12 hq hm (flatR (xs.map .ent)) (S11.rd 0 rfl) (by omega)).mono ?_
    rintro _ w22 ⟨_, rfl, e, D', rfl, sm, hlay, S22⟩
    have S23 := S22.perm (lift_perm (W := W) [bytesI b bc (flatR (xs.map .ent)), It.cells b11 (WalC.cells ⟨b11, la, lc, A⟩ D.b) ty.wal_Wal, rowE la lc A.l] D'.b).symm
    refine ⟨_, rfl, IFB_eq (fun he => ?_) (fun he => ?_)⟩
    · subst he
      refine ⟨_, S23.cell 1 rfl rfl, _, S23.cell 1 rfl rfl, _, S23.cell 1 rfl rfl, _, S23.cell 1 rfl rfl, _, S23.cell 1 rfl rfl, _, S23.cell 1 rfl rfl, _, _, _, S23.cell 1 rfl rfl, ?_⟩
      refine ST.stoA S23 3 rfl 0 rfl (cs' := #[ptrV D.b, .int .i64 W.L.term, .int .i64 W.L.vote, .int .i64 W.L.sidx, .int .i64 W.L.sterm, .string W.L.sdata, .slice W.la W.L.l.length W.lc]) (by show 0 < 7; omega) rfl fun w24 S24 => ?_
      refine ST.stoA S24 3 rfl 1 rfl (cs' := #[ptrV D.b, .int .i64 A.term, .int .i64 W.L.vote, .int .i64 W.L.sidx, .int .i64 W.L.sterm, .string W.L.sdata, .slice W.la W.L.l.length W.lc]) (by show 1 < 7; omega) rfl fun w25 S25 => ?_
      refine ST.stoA S25 3 rfl 2 rfl (cs' := #[ptrV D.b, .int .i64 A.term, .int .i64 A.vote, .int .i64 W.L.sidx, .int .i64 W.L.sterm, .string W.L.sdata, .slice W.la W.L.l.length W.lc]) (by show 2 < 7; omega) rfl fun w26 S26 => ?_
      refine ST.stoA S26 3 rfl 3 rfl (cs' := #[ptrV D.b, .int .i64 A.term, .int .i64 A.vote, .int .i64 A.sidx, .int .i64 W.L.sterm, .string W.L.sdata, .slice W.la W.L.l.length W.lc]) (by show 3 < 7; omega) rfl fun w27 S27 => ?_
      refine ST.stoA S27 3 rfl 4 rfl (cs' := #[ptrV D.b, .int .i64 A.term, .int .i64 A.vote, .int .i64 A.sidx, .int .i64 A.sterm, .string W.L.sdata, .slice W.la W.L.l.length W.lc]) (by show 4 < 7; omega) rfl fun w28 S28 => ?_
      refine ST.stoA S28 3 rfl 5 rfl (cs' := #[ptrV D.b, .int .i64 A.term, .int .i64 A.vote, .int .i64 A.sidx, .int .i64 A.sterm, .string A.sdata, .slice W.la W.L.l.length W.lc]) (by show 5 < 7; omega) rfl fun w29 S29 => ?_
      refine ST.stoA S29 3 rfl 6 rfl (cs' := #[ptrV D.b, .int .i64 A.term, .int .i64 A.vote, .int .i64 A.sidx, .int .i64 A.sterm, .string A.sdata, .slice la A.l.length lc]) (by show 6 < 7; omega) rfl fun w30 S30 => ?_
      refine ⟨0, D', la, lc, A, rfl, sm, .inr ⟨_, hA, hlay, by rw [if_pos rfl]⟩, ?_⟩
      have S31 := ((S30.drop 2).pull 2 rfl).drop 1
      have S31 : ST w0 w30 (rowE la lc A.l :: It.cells W.b #[ptrV D.b, .int .i64 A.term, .int .i64 A.vote, .int .i64 A.sidx, .int .i64 A.sterm, .string A.sdata, .slice la A.l.length lc] ty.wal_Wal :: dkE D' H) := S31
      rw [← sm.b] at S31
      exact S31.perm (List.Perm.swap _ _ _)
    · exact ⟨e, D', W.la, W.lc, W.L, rfl, sm, .inr ⟨_, hA, hlay, by rw [if_neg he]⟩, S23.drop 3⟩
end
theorem ents_drop : ∀ (l : List EntP) (n : Nat), (l.flatMap entC).drop (n * 3) = (l.drop n).flatMap entC
  | [], n => by simp
  | x :: l, 0 => by simp
  | x :: l, n + 1 => by
    rw [List.flatMap_cons, List.drop_succ_cons, Nat.add_mul, Nat.one_mul, List.drop_append, List.drop_of_length_le (by rw [entC_len]; omega), entC_len, show n * 3 + 3 - 3 = n * 3 by omega, ents_drop l n]
    rfl
def RewOp (D : DiskC) (m B : Nat) (Y : List UInt8) (L : LogP) (o : Option LogP) (e : Int) (D' : DiskC) (L2 : LogP) : Prop :=
  (o = none ∧ e = 2 ∧ D' = D ∧ L2 = L) ∨ (∃ L', o = some L' ∧ RewR D m B (some Y) (flatR (freshR L')) e D' ∧ L2 = if e = 0 then L' else L)
section
variable {w0 w : World} {H : List It} {W : WalC} {D : DiskC} {m B : Nat} {a : Option Addr} {c : Nat}
theorem rd_ents {l : List EntP} (h : Rd w a (l.flatMap entC)) (n cap : Nat) (hc : l.length ≤ cap) : Rd w (SLA a n cap 3) ((l.drop n).flatMap entC) := by
  have h1 := h.sla n l.length cap 3 hc
  rw [ents_drop] at h1
  have e : ((l.drop n).flatMap entC).take ((l.length - n) * 3) = (l.drop n).flatMap entC := List.take_of_length_le (by rw [ents_len, List.length_drop]; omega)
  rwa [e] at h1
theorem wal_SetSnap_ok (S : ST w0 w (walI W D.b (dkE D H))) {Y : List UInt8} (hq : WQ D m B (some Y)) (hm : m + 20 < 1000000) {mx : Int} (hL : LogOk W.L mx) (hmx : mx ≤ 4611686018427387904) (hln : W.L.l.length ≤ 900000) (s : EntP) (hsi : s.1 ≤ mx) (hst : s.2.1 ≤ 9223372036854775807)
    (hB : ∀ L', snapP W.L s = some L' → sizeL L' ≤ B) (hB2 : B ≤ 100000000) (hs0 : -9223372036854775808 ≤ s.1) :
    Calls Tryz.prog f.wal_Wal_SetSnap #[ptrV W.b, .agg #[.int .i64 s.1, .int .i64 s.2.1, .string s.2.2]] w (Ret fun u w' => ∃ e D' la lc L2, u = .int .i64 e ∧ Sam D D' ∧ RewOp D m B Y W.L (snapP W.L s) e D' L2 ∧ ST w0 w' (walI { W with la := la, lc := lc, L := L2 } D'.b (dkE D' H))) := by
  have hLB := hL.b hmx
  have hlast := hLB.last
  have hidx := hL.sidx
  have hlenB := hLB.len
  apply R.wal_Wal_SetSnap_calls
  unfold R.wal_Wal_SetSnap
  refine S.newB fun b5 w1 _ _ S1 => IFB_false (S1.draw fun w2 _ S2 => ?_)
  have no : (s.1 ≤ W.L.sidx ∨ s.2.1 < W.L.sterm ∨ 262144 < s.2.2.size) → ∃ e D' la lc L2, Value.int .i64 2 = .int .i64 e ∧ Sam D D' ∧ RewOp D m B Y W.L (snapP W.L s) e D' L2 ∧ ST w0 w2 (walI { W with la := la, lc := lc, L := L2 } D'.b (dkE D' H)) := fun hc =>
    ⟨2, D, W.la, W.lc, W.L, rfl, .refl _, .inl ⟨by unfold snapP; rw [if_pos hc], rfl, rfl, rfl⟩, S2.drop 1⟩
  refine ⟨_, S2.cell 0 rfl rfl, _, S2.cell 1 rfl rfl, IFB_dec (fun h => no (.inl h)) (fun h1 => ⟨_, S2.cell 0 rfl rfl, _, S2.cell 1 rfl rfl, IFB_dec (fun h => no (.inr (.inl h))) (fun h2 => ⟨_, S2.cell 0 rfl rfl, IFB_dec (fun h => no (.inr (.inr (by have h : (s.2.2.size : Int) > 262144 := h; omega)))) (fun h3 => ?_)⟩)⟩)⟩
  have h1 : ¬ s.1 ≤ W.L.sidx := h1
  have h2 : ¬ s.2.1 < W.L.sterm := h2
  have h3 : ¬ (s.2.2.size : Int) > 262144 := h3
  have hs : snapP W.L s = some { W.L with sidx := s.1, sterm := s.2.1, sdata := s.2.2, l := restE W.L s.1 s.2.1 } := by unfold snapP; rw [if_neg (by omega)]
  have okL := snapP_ok hL hsi hst hs
  refine ⟨_, S2.cell 1 rfl rfl, _, S2.cell 1 rfl rfl, _, S2.cell 1 rfl rfl, _, S2.cell 1 rfl rfl, _, S2.cell 1 rfl rfl, _, S2.cell 1 rfl rfl, _, _, _, S2.cell 1 rfl rfl, S2.newB fun b21 w3 _ _ S3 => S3.sto7 0 rfl fun w10 S10 => S10.sto 0 rfl (cs' := #[ptrV D.b, .int .i64 W.L.term, .int .i64 W.L.vote, .int .i64 W.L.sidx, .int .i64 W.L.sterm, .string W.L.sdata, .slice none 0 0]) (by show 6 < 7; omega) rfl fun w11 S11 => ?_⟩
  have S11 := (S11.nil ty.api_Entry 3).perm (List.Perm.swap _ _ _)
  have S11 : ST w0 w11 (walI ⟨b21, none, 0, { W.L with l := [] }⟩ D.b (It.cells b5 #[.int .i64 s.1, .int .i64 s.2.1, .string s.2.2] 46 :: walI W D.b (dkE D H))) := S11
  refine ⟨fun st w21 => st = [] ∧ ∃ la lc, ST w0 w21 (walI ⟨b21, la, lc, { W.L with l := restE W.L s.1 s.2.1 }⟩ D.b (It.cells b5 #[.int .i64 s.1, .int .i64 s.2.1, .string s.2.2] 46 :: walI W D.b (dkE D H))), ?_, ?_⟩
  · refine ⟨_, S11.cell 2 rfl rfl, (wal_Entry_ok (W := W) (d := D.b) ⟨S11.blk 3 rfl, S11.rd 4 rfl⟩ hLB s.1).mono ?_⟩
    rintro _ w12 ⟨_, rfl, rfl, B12⟩
    obtain ⟨x, ok, hx, ho⟩ := atV_out (W.L.at s.1)
    refine ⟨_, _, _, _, congrArg Ending.returned hx, (S11.grown B12).lit3 fun b28 w16 _ S16 => ?_⟩
    refine ⟨fun st w17 => st = [.bool (ok && decide (x.2.1 = s.2.1))] ∧ ST w0 w17 (It.cells b28 #[.int .i64 x.1, .int .i64 x.2.1, .string x.2.2] ty.api_Entry :: walI ⟨b21, none, 0, { W.L with l := [] }⟩ D.b (It.cells b5 #[.int .i64 s.1, .int .i64 s.2.1, .string s.2.2] 46 :: walI W D.b (dkE D H))), ?_, ?_⟩
    · rcases ho with ⟨_, rfl⟩ | ⟨_, rfl, _⟩
      · exact IFB_true ⟨_, S16.cell 0 rfl rfl, _, S16.cell 3 rfl rfl, by rw [Bool.true_and]; rfl, S16⟩
      · exact IFB_false ⟨by rw [Bool.false_and], S16⟩
    · rintro _ w17 ⟨hst, S17⟩
      cases hst
      refine IFB_of (fun hc => ?_) (fun hc => ?_)
      · rw [Bool.and_eq_true, decide_eq_true_eq] at hc
        obtain ⟨hok, hxt⟩ := hc
        have ha : W.L.at s.1 = some x := by
          rcases ho with ⟨ha, _⟩ | ⟨_, h, _⟩
          · exact ha
          · rw [hok] at h; cases h
        have hrest : restE W.L s.1 s.2.1 = W.L.l.drop (s.1 - W.L.sidx).toNat := by unfold restE; rw [ha]; exact if_pos hxt
        have hh : W.L.has s.1 := by
          unfold LogP.at at ha
          split at ha
          · assumption
          · cases ha
        have hlt := LogP.has_lt hh
        refine S17.draw fun w18 B18 S18 => ⟨_, _, _, S18.cell 4 rfl rfl, _, S18.cell 3 rfl rfl, _, S18.cell 4 rfl rfl, ?_⟩
        have e : IntKind.i64.wrap (s.1 - W.L.sidx) = s.1 - W.L.sidx := wrap_i64 (by omega) (by omega)
        have hcap := (S18.rw 5 rfl).le
        rw [e]
        have hle2 : (s.1 - W.L.sidx).toNat ≤ W.L.l.length := by have := hh.2; unfold LogP.last at this; omega
        refine ⟨⟨by omega, by omega, by omega⟩, ?_⟩
        have hld : W.L.l.length - (s.1 - W.L.sidx).toNat = (restE W.L s.1 s.2.1).length := by rw [hrest, List.length_drop]
        rw [hld]
        refine (cloneE_ok S18 (l := restE W.L s.1 s.2.1) (by rw [hrest]; exact rd_ents (S18.rd 5 rfl) _ _ hcap) (by rw [← hld]; omega)).mono ?_
        rintro _ w19 ⟨_, rfl, a19, c19, rfl, S19⟩
        refine ⟨_, _, _, rfl, S19.sto 2 rfl (cs' := #[ptrV D.b, .int .i64 W.L.term, .int .i64 W.L.vote, .int .i64 W.L.sidx, .int .i64 W.L.sterm, .string W.L.sdata, .slice a19 (restE W.L s.1 s.2.1).length c19]) (by show 6 < 7; omega) rfl fun w20 S20 => ⟨rfl, a19, c19, ?_⟩⟩
        have S21 := ((S20.pull 2 rfl).pull 1 rfl)
        have S21 : ST w0 w20 (rowE a19 c19 (restE W.L s.1 s.2.1) :: It.cells b21 #[ptrV D.b, .int .i64 W.L.term, .int .i64 W.L.vote, .int .i64 W.L.sidx, .int .i64 W.L.sterm, .string W.L.sdata, .slice a19 (restE W.L s.1 s.2.1).length c19] ty.wal_Wal :: It.cells b28 #[.int .i64 x.1, .int .i64 x.2.1, .string x.2.2] ty.api_Entry :: It.row ty.api_Entry 3 none 0 0 [] :: It.cells b5 #[.int .i64 s.1, .int .i64 s.2.1, .string s.2.2] 46 :: walI W D.b (dkE D H)) := S21
        have S22 := S21.sub (List.Sublist.cons_cons _ (List.Sublist.cons_cons _ (List.Sublist.cons _ (List.Sublist.cons _ (List.Sublist.refl _)))))
        exact S22.perm (List.Perm.swap _ _ _)
      · have hrest : restE W.L s.1 s.2.1 = [] := by
          unfold restE
          rcases ho with ⟨ha, rfl⟩ | ⟨ha, _, _⟩
          · rw [ha]
            rw [Bool.true_and, decide_eq_false_iff_not] at hc
            exact if_neg hc
          · rw [ha]
        rw [hrest]
        exact ⟨rfl, none, 0, S17.drop 1⟩
  · rintro w21 ⟨_, la, lc, S21⟩
    obtain ⟨T, hT⟩ : ∃ T : WalC, T = ⟨b21, la, lc, { W.L with sidx := s.1, sterm := s.2.1, sdata := s.2.2, l := restE W.L s.1 s.2.1 }⟩ := ⟨_, rfl⟩
    refine ⟨_, S21.cell 2 rfl rfl, _, S21.cell 2 rfl rfl, _, S21.cell 2 rfl rfl, ?_⟩
    refine S21.sto 0 rfl (cs' := #[ptrV D.b, .int .i64 W.L.term, .int .i64 W.L.vote, .int .i64 s.1, .int .i64 W.L.sterm, .string W.L.sdata, .slice la (restE W.L s.1 s.2.1).length lc]) (by show 3 < 7; omega) rfl fun w22 S22 => ?_
    refine S22.sto 0 rfl (cs' := #[ptrV D.b, .int .i64 W.L.term, .int .i64 W.L.vote, .int .i64 s.1, .int .i64 s.2.1, .string W.L.sdata, .slice la (restE W.L s.1 s.2.1).length lc]) (by show 4 < 7; omega) rfl fun w23 S23 => ?_
    refine S23.sto 0 rfl (cs' := #[ptrV D.b, .int .i64 W.L.term, .int .i64 W.L.vote, .int .i64 s.1, .int .i64 s.2.1, .string s.2.2, .slice la (restE W.L s.1 s.2.1).length lc]) (by show 5 < 7; omega) rfl fun w24 S24 => ?_
    have S24 : ST w0 w24 (walI T D.b (It.cells b5 #[.int .i64 s.1, .int .i64 s.2.1, .string s.2.2] 46 :: walI W D.b (dkE D H))) := by rw [hT]; exact S24
    have hTL : T.L = { W.L with sidx := s.1, sterm := s.2.1, sdata := s.2.2, l := restE W.L s.1 s.2.1 } := by rw [hT]
    have hTb : T.b = b21 := by rw [hT]
    have lp := lift_perm (W := W) (D := D) (H := H) [It.cells T.b (T.cells D.b) ty.wal_Wal, rowE T.la T.lc T.L.l, It.cells b5 #[.int .i64 s.1, .int .i64 s.2.1, .string s.2.2] 46] D.b
    have S25 := S24.perm lp
    have hfr := fresh_size okL (by omega)
    have hbb := hB _ hs
    have hcall := wal_rewrite_ok (T := T) (td := D.b) S25 hq hm (fun w' S' => walR_of (S'.perm lp.symm)) (by rw [hTL]; exact okL) (by omega) (by rw [hTL]; omega) hB2
    rw [hTb, hTL] at hcall
    refine hcall.mono ?_
    rintro _ w25 ⟨_, rfl, e, D', rfl, sm, hr, S26⟩
    rw [← hTL, ← hTb] at S26
    have S27 := S26.perm (lift_perm (W := W) (D := D') (H := H) [It.cells T.b (T.cells D.b) ty.wal_Wal, rowE T.la T.lc T.L.l, It.cells b5 #[.int .i64 s.1, .int .i64 s.2.1, .string s.2.2] 46] D'.b).symm
    rw [hT] at S27
    refine ⟨_, rfl, IFB_eq (fun he => ?_) (fun he => ?_)⟩
    · subst he
      refine ⟨_, S27.cell 0 rfl rfl, _, S27.cell 0 rfl rfl, _, S27.cell 0 rfl rfl, _, S27.cell 0 rfl rfl, _, S27.cell 0 rfl rfl, _, S27.cell 0 rfl rfl, _, _, _, S27.cell 0 rfl rfl, ?_⟩
      refine ST.stoA S27 3 rfl 0 rfl (cs' := #[ptrV D.b, .int .i64 W.L.term, .int .i64 W.L.vote, .int .i64 W.L.sidx, .int .i64 W.L.sterm, .string W.L.sdata, .slice W.la W.L.l.length W.lc]) (by show 0 < 7; omega) rfl fun w28 S28 => ?_
      refine ST.stoA S28 3 rfl 1 rfl (cs' := #[ptrV D.b, .int .i64 W.L.term, .int .i64 W.L.vote, .int .i64 W.L.sidx, .int .i64 W.L.sterm, .string W.L.sdata, .slice W.la W.L.l.length W.lc]) (by show 1 < 7; omega) rfl fun w29 S29 => ?_
      refine ST.stoA S29 3 rfl 2 rfl (cs' := #[ptrV D.b, .int .i64 W.L.term, .int .i64 W.L.vote, .int .i64 W.L.sidx, .int .i64 W.L.sterm, .string W.L.sdata, .slice W.la W.L.l.length W.lc]) (by show 2 < 7; omega) rfl fun w30 S30 => ?_
      refine ST.stoA S30 3 rfl 3 rfl (cs' := #[ptrV D.b, .int .i64 W.L.term, .int .i64 W.L.vote, .int .i64 s.1, .int .i64 W.L.sterm, .string W.L.sdata, .slice W.la W.L.l.length W.lc]) (by show 3 < 7; omega) rfl fun w31 S31 => ?_
      refine ST.stoA S31 3 rfl 4 rfl (cs' := #[ptrV D.b, .int .i64 W.L.term, .int .i64 W.L.vote, .int .i64 s.1, .int .i64 s.2.1, .string W.L.sdata, .slice W.la W.L.l.length W.lc]) (by show 4 < 7; omega) rfl fun w32 S32 => ?_
      refine ST.stoA S32 3 rfl 5 rfl (cs' := #[ptrV D.b, .int .i64 W.L.term, .int .i64 W.L.vote, .int .i64 s.1, .int .i64 s.2.1, .string s.2.2, .slice W.la W.L.l.length W.lc]) (by show 5 < 7; omega) rfl fun w33 S33 => ?_
      refine ST.stoA S33 3 rfl 6 rfl (cs' := #[ptrV D.b, .int .i64 W.L.term, .int .i64 W.L.vote, .int .i64 s.1, .int .i64 s.2.1, .string s.2.2, .slice la (restE W.L s.1 s.2.1).length lc]) (by show 6 < 7; omega) rfl fun w34 S34 => ?_
      refine ⟨0, D', la, lc, _, rfl, sm, .inr ⟨_, hs, hr, by rw [if_pos rfl]⟩, ?_⟩
      have S35 := ((S34.pull 4 rfl).drop 1).pull 1 rfl
      have S35 : ST w0 w34 (rowE la lc (restE W.L s.1 s.2.1) :: It.cells b21 (WalC.cells ⟨b21, la, lc, { W.L with sidx := s.1, sterm := s.2.1, sdata := s.2.2, l := restE W.L s.1 s.2.1 }⟩ D.b) ty.wal_Wal :: It.cells b5 #[.int .i64 s.1, .int .i64 s.2.1, .string s.2.2] 46 :: It.cells W.b #[ptrV D.b, .int .i64 W.L.term, .int .i64 W.L.vote, .int .i64 s.1, .int .i64 s.2.1, .string s.2.2, .slice la (restE W.L s.1 s.2.1).length lc] ty.wal_Wal :: dkE D' H) := S35
      have S36 := S35.sub (List.Sublist.cons_cons _ (List.Sublist.cons _ (List.Sublist.cons _ (List.Sublist.refl _))))
      rw [← sm.b] at S36
      exact S36.perm (List.Perm.swap _ _ _)
    · exact ⟨e, D', W.la, W.lc, W.L, rfl, sm, .inr ⟨_, hs, hr, by rw [if_neg he]⟩, S27.drop 3⟩
end
structure LogC where
  b : Nat
  la : Option Addr
  lc : Nat
  L : LogP
def LogC.cells (G : LogC) : Array Value := #[.int .i64 G.L.term, .int .i64 G.L.vote, .int .i64 G.L.sidx, .int .i64 G.L.sterm, .string G.L.sdata, .slice G.la G.L.l.length G.lc]
structure LogR (w : World) (G : LogC) : Prop where
  blk : w.heap[G.b]? = some (.cells G.cells ty.ref19_Log (0, 0))
  rd : Rd w G.la (G.L.l.flatMap entC)
theorem LogR.grown {w w' : World} {G : LogC} (h : LogR w G) (B : Below w.heap.size w w') : LogR w' G := by
  refine ⟨?_, h.rd.grown B⟩
  rw [B.block _ (Array.getElem?_eq_some_iff.1 h.blk).1]
  exact h.blk
theorem LogR.cell {w : World} {G : LogC} (h : LogR w G) {i : Nat} {v : Value} (hv : G.cells[i]? = some v) : w.cell? ⟨G.b, i, none⟩ = some v := by
  simp [World.cell?, h.blk, hv]
def logI (G : LogC) (H : List It) : List It := It.cells G.b G.cells ty.ref19_Log :: rowE G.la G.lc G.L.l :: H
def logD (G : LogC) (H : List It) : List It := It.cells G.b G.cells ty.ref19_Log :: It.rd G.la (G.L.l.flatMap entC) :: H
theorem rd_sub {a : Option Addr} {xs : List Value} {k : Nat} (h : (It.rd a xs).blk = some k) : rowB a = some k := by
  cases xs with
  | nil => cases h
  | cons x xs => exact h
section
variable {w0 w : World} {H : List It} {G : LogC}
theorem logR_of (S : ST w0 w (logI G H)) : LogR w G := ⟨S.blk 0 rfl, S.rd 1 rfl⟩
theorem logRD_of (S : ST w0 w (logD G H)) : LogR w G := ⟨S.blk 0 rfl, S.get 1 rfl⟩
theorem logI_D (S : ST w0 w (logI G H)) : ST w0 w (logD G H) :=
  S.chg 1 rfl (.refl _ _) (It.rd G.la (G.L.l.flatMap entC)) (S.rd 1 rfl) (fun k hk => .inl (rd_sub hk))
theorem ref19_Last_ok (h : LogR w G) (hB : LogB G.L) : Calls Tryz.prog f.ref19_Log_Last #[ptrV G.b] w (Ret fun v w' => v = .int .i64 G.L.last ∧ Below w.heap.size w w') := by
  apply R.ref19_Log_Last_calls
  unfold R.ref19_Log_Last
  refine (ST.start w).draw fun w1 B1 _ => ?_
  have h := h.grown B1
  refine ⟨_, h.cell rfl, _, _, _, h.cell rfl, ?_, B1⟩
  have := hB.sidx
  have := hB.last
  unfold LogP.last at *
  rw [wrap_i64 (by omega) (by omega)]
theorem ref19_Entry_ok (h : LogR w G) (hB : LogB G.L) (i : Int) : Calls Tryz.prog f.ref19_Log_Entry #[ptrV G.b, .int .i64 i] w (Ret fun v w' => v = atV (G.L.at i) ∧ Below w.heap.size w w') := by
  apply R.ref19_Log_Entry_calls
  unfold R.ref19_Log_Entry
  refine (ST.start w).newB fun b3 w1 _ B1 S1 => ?_
  have no : ∀ w2, ¬ G.L.has i → ST w w2 [It.cells b3 #[.int .i64 0, .int .i64 0, .string ⟨#[]⟩] ty.api_Entry] →
      STO ⟨b3, 0, none⟩ (.int .i64 0) (fun w3 => STO ⟨b3, 1, none⟩ (.int .i64 0) (fun w4 => STO ⟨b3, 2, none⟩ (.string ⟨#[]⟩) (fun w5 => ∃ r0 : Int, w5.cell? ⟨b3, 0, none⟩ = some (.int .i64 r0) ∧ ∃ r1 : Int, w5.cell? ⟨b3, 1, none⟩ = some (.int .i64 r1) ∧ ∃ r2 : ByteArray, w5.cell? ⟨b3, 2, none⟩ = some (.string r2) ∧ (Value.tuple #[.agg #[.int .i64 r0, .int .i64 r1, .string r2], .bool false] = atV (G.L.at i) ∧ Below w.heap.size w w5)) w4) w3) w2 := fun w2 hh S2 => by
    refine S2.sto 0 rfl (cs' := #[.int .i64 0, .int .i64 0, .string ⟨#[]⟩]) (by simp) rfl fun w7 S7 => S7.sto 0 rfl (cs' := #[.int .i64 0, .int .i64 0, .string ⟨#[]⟩]) (by simp) rfl fun w8 S8 => S8.sto 0 rfl (cs' := #[.int .i64 0, .int .i64 0, .string ⟨#[]⟩]) (by simp) rfl fun w9 S9 => ?_
    refine ⟨_, S9.cell 0 rfl rfl, _, S9.cell 0 rfl rfl, _, S9.cell 0 rfl rfl, ?_, S9.bel⟩
    unfold LogP.at
    rw [if_neg hh]
    rfl
  refine ⟨_, (h.grown B1).cell rfl, IFB_dec (fun h1 => no _ (fun hh => by have := hh.1; have h1 : i ≤ G.L.sidx := h1; omega) S1) (fun h1 => (ref19_Last_ok (h.grown B1) hB).mono ?_)⟩
  rintro _ w5 ⟨_, rfl, rfl, B5⟩
  have S5 := S1.grown B5
  have h5 := (h.grown B1).grown B5
  refine ⟨_, rfl, IFB_dec (fun h2 => no _ (fun hh => by have := hh.2; omega) S5) (fun h2 => S5.draw fun w9 B9 S9 => ?_)⟩
  have h1 : ¬ i ≤ G.L.sidx := h1
  have hh : G.L.has i := ⟨by omega, by omega⟩
  have hlt := LogP.has_lt hh
  have hs := hB.sidx
  have hl := hB.last
  have hlen := hB.len
  have h9 := h5.grown B9
  have e : IntKind.i64.wrap (IntKind.i64.wrap (i - G.L.sidx) - 1) = i - G.L.sidx - 1 := by rw [wrap_i64 (n := i - G.L.sidx) (by omega) (by omega), wrap_i64 (by omega) (by omega)]
  obtain ⟨q, hq, hc⟩ := rowW_at entC_len (by omega) h9.rd hlt
  refine ⟨_, _, _, h9.cell rfl, _, h9.cell rfl, ?_⟩
  rw [e, hq]
  refine ⟨⟨by omega, by omega⟩, _, by have := hc 0 _ rfl; rw [addr_add_zero] at this; exact this, _, hc 1 _ rfl, _, hc 2 _ rfl, ?_⟩
  refine S9.sto 0 rfl (cs' := #[.int .i64 G.L.l[(i - G.L.sidx - 1).toNat].1, .int .i64 0, .string ⟨#[]⟩]) (by simp) rfl fun w10 S10 => S10.sto 0 rfl (cs' := #[.int .i64 G.L.l[(i - G.L.sidx - 1).toNat].1, .int .i64 G.L.l[(i - G.L.sidx - 1).toNat].2.1, .string ⟨#[]⟩]) (by simp) rfl fun w11 S11 => S11.sto 0 rfl (cs' := #[.int .i64 G.L.l[(i - G.L.sidx - 1).toNat].1, .int .i64 G.L.l[(i - G.L.sidx - 1).toNat].2.1, .string G.L.l[(i - G.L.sidx - 1).toNat].2.2]) (by simp) rfl fun w12 S12 => ?_
  refine ⟨_, S12.cell 0 rfl rfl, _, S12.cell 0 rfl rfl, _, S12.cell 0 rfl rfl, ?_, S12.bel⟩
  unfold LogP.at
  rw [if_pos hh, List.getElem?_eq_getElem hlt]
  rfl
theorem ref19_TermAt_ok (h : LogR w G) (hB : LogB G.L) (i : Int) : Calls Tryz.prog f.ref19_Log_TermAt #[ptrV G.b, .int .i64 i] w (Ret fun v w' => v = .tuple #[.int .i64 (G.L.termAt i).1, .bool (G.L.termAt i).2] ∧ Below w.heap.size w w') := by
  apply R.ref19_Log_TermAt_calls
  unfold R.ref19_Log_TermAt
  refine ⟨_, h.cell rfl, IFB_eq (fun hi => ⟨_, h.cell rfl, ?_, .refl _ _⟩) (fun hi => (ref19_Entry_ok h hB i).mono ?_)⟩
  · have hi : i = G.L.sidx := hi
    unfold LogP.termAt
    rw [if_pos hi]
  · rintro _ w2 ⟨_, rfl, rfl, B2⟩
    obtain ⟨x, b, hx, ho⟩ := atV_out (G.L.at i)
    refine ⟨_, _, _, _, congrArg Ending.returned hx, ((ST.start w).grown B2).lit3 fun b14 w3 _ S3 => ⟨_, S3.cell 0 rfl rfl, ?_, S3.bel⟩⟩
    have hi : ¬ i = G.L.sidx := hi
    unfold LogP.termAt
    rw [if_neg hi]
    rcases ho with ⟨e, rfl⟩ | ⟨e, rfl, rfl⟩ <;> rw [e]
theorem ref19_isState_ok (w : World) (t v : Int) : Calls Tryz.prog f.ref19_isState #[.agg #[.int .i64 t, .int .i64 v]] w (Ret fun u w' => u = .bool (decide (0 ≤ t ∧ 0 ≤ v ∧ v ≤ 7)) ∧ Below w.heap.size w w') := by
  apply R.ref19_isState_calls
  unfold R.ref19_isState
  refine (ST.start w).newB fun b3 w1 _ B1 S1 => ⟨_, S1.cell 0 rfl rfl, IFB_dec (fun h1 => ⟨_, S1.cell 0 rfl rfl, IFB_dec (fun h2 => ⟨_, S1.cell 0 rfl rfl, ?_, B1⟩) (fun h2 => ⟨?_, B1⟩)⟩) (fun h1 => ⟨?_, B1⟩)⟩
  · have h1 : 0 ≤ t := h1
    have h2 : 0 ≤ v := h2
    simp [h1, h2]
  · have h2 : ¬ 0 ≤ v := h2
    simp [h2]
  · have h1 : ¬ 0 ≤ t := h1
    simp [h1]
theorem ref19_mayAppend_ok (h : LogR w G) (hB : LogB G.L) (x : EntP) : Calls Tryz.prog f.ref19_Log_mayAppend #[ptrV G.b, entV x] w (Ret fun v w' => v = .bool (decide (G.L.may x)) ∧ Below w.heap.size w w') := by
  apply R.ref19_Log_mayAppend_calls
  unfold R.ref19_Log_mayAppend
  refine (ST.start w).newB fun b5 w1 _ B1 S1 => (ref19_Last_ok (h.grown B1) hB).mono ?_
  rintro _ w2 ⟨_, rfl, rfl, B2⟩
  have h2 := (h.grown B1).grown B2
  refine ⟨_, rfl, (ref19_TermAt_ok h2 hB _).mono ?_⟩
  rintro _ w3 ⟨_, rfl, rfl, B3⟩
  have h3 := h2.grown B3
  rw [termAt_last _ hB.sidx]
  refine ⟨_, _, rfl, ((S1.grown B2).grown B3).draw fun w4 B4 S4 => ⟨_, S4.cell 0 rfl rfl, (ref19_Last_ok (h3.grown B4) hB).mono ?_⟩⟩
  rintro _ w5 ⟨_, rfl, rfl, B5⟩
  have S5 := S4.grown B5
  have hl := hB.last
  have hs := hB.sidx
  have e : IntKind.i64.wrap (G.L.last + 1) = G.L.last + 1 := wrap_i64 (by unfold LogP.last at *; omega) (by omega)
  have hmay : G.L.may x ↔ x.1 = G.L.last + 1 ∧ (1 ≤ x.2.1 ∧ G.L.termL ≤ x.2.1) ∧ x.2.2.size ≤ 262144 := Iff.rfl
  refine ⟨_, rfl, S5.cell 0 rfl rfl, ?_⟩
  rw [e]
  refine IFB_eq (fun h1 => ⟨_, S5.cell 0 rfl rfl, IFB_dec (fun h2 => ⟨_, S5.cell 0 rfl rfl, IFB_dec (fun h3 => ⟨_, S5.cell 0 rfl rfl, ?_, S5.bel⟩) (fun h3 => ⟨?_, S5.bel⟩)⟩) (fun h2 => ⟨?_, S5.bel⟩)⟩) (fun h1 => ⟨by rw [decide_eq_false (fun hm => h1 (hmay.1 hm).1)], S5.bel⟩)
  · congr 1
    refine decide_eq_decide.2 ?_
    rw [hmay]
    exact ⟨fun h4 => ⟨h1, ⟨h2, h3⟩, by omega⟩, fun h4 => by have := h4.2.2; omega⟩
  · rw [decide_eq_false (fun hm => h3 (hmay.1 hm).2.1.2)]
  · rw [decide_eq_false (fun hm => h2 (hmay.1 hm).2.1.1)]
def RefOp (o : Option LogP) (L : LogP) (e : Int) (L2 : LogP) : Prop := (o = none ∧ e = 2 ∧ L2 = L) ∨ (o = some L2 ∧ e = 0)
theorem ref19_SetState_ok (S : ST w0 w (logI G H)) (ht0 : 0 ≤ G.L.term) (t v : Int) : Calls Tryz.prog f.ref19_Log_SetState #[ptrV G.b, .agg #[.int .i64 t, .int .i64 v]] w (Ret fun u w' => ∃ e L2, u = .int .i64 e ∧ RefOp (setP G.L t v) G.L e L2 ∧ ST w0 w' (logI { G with L := L2 } H)) := by
  apply R.ref19_Log_SetState_calls
  unfold R.ref19_Log_SetState
  refine S.newB fun b4 w1 _ _ S1 => ⟨_, S1.cell 0 rfl rfl, _, S1.cell 0 rfl rfl, (ref19_isState_ok w1 t v).mono ?_⟩
  rintro _ w2 ⟨_, rfl, rfl, B2⟩
  refine ⟨_, rfl, (S1.grown B2).draw fun w3 _ S3 => ?_⟩
  have no : (t < G.L.term ∨ v < 0 ∨ 7 < v ∨ (t = G.L.term ∧ G.L.vote ≠ 0 ∧ v ≠ G.L.vote)) → ∃ e L2, Value.int .i64 2 = .int .i64 e ∧ RefOp (setP G.L t v) G.L e L2 ∧ ST w0 w3 (logI { G with L := L2 } H) := fun hc =>
    ⟨2, G.L, rfl, .inl ⟨by unfold setP; rw [if_pos hc], rfl, rfl⟩, S3.drop 1⟩
  have yes : ¬ (t < G.L.term ∨ v < 0 ∨ 7 < v ∨ (t = G.L.term ∧ G.L.vote ≠ 0 ∧ v ≠ G.L.vote)) → ∃ z0 : Int, w3.cell? ⟨b4, 0, none⟩ = some (.int .i64 z0) ∧ ∃ z1 : Int, w3.cell? ⟨b4, 1, none⟩ = some (.int .i64 z1) ∧
      STO ⟨G.b, 0, none⟩ (.int .i64 z0) (fun w6 => STO ((⟨G.b, 0, none⟩ : Addr).add 1) (.int .i64 z1) (fun w7 => ∃ e L2, Value.int .i64 0 = .int .i64 e ∧ RefOp (setP G.L t v) G.L e L2 ∧ ST w0 w7 (logI { G with L := L2 } H)) w6) w3 := fun hc => by
    refine ⟨_, S3.cell 0 rfl rfl, _, S3.cell 0 rfl rfl, ?_⟩
    refine ST.stoA S3 1 rfl 0 rfl (cs' := #[.int .i64 t, .int .i64 G.L.vote, .int .i64 G.L.sidx, .int .i64 G.L.sterm, .string G.L.sdata, .slice G.la G.L.l.length G.lc]) (by show 0 < 6; omega) rfl fun w6 S6 => ?_
    refine ST.stoA S6 1 rfl 1 rfl (cs' := #[.int .i64 t, .int .i64 v, .int .i64 G.L.sidx, .int .i64 G.L.sterm, .string G.L.sdata, .slice G.la G.L.l.length G.lc]) (by show 1 < 6; omega) rfl fun w7 S7 => ?_
    exact ⟨0, { G.L with term := t, vote := v }, rfl, .inr ⟨by unfold setP; rw [if_neg hc], rfl⟩, S7.drop 1⟩
  refine IFB_not (IFB_dec (fun hst => ⟨_, S3.cell 0 rfl rfl, _, S3.cell 1 rfl rfl, IFB_dec (fun h => no (.inl h)) (fun h1 => ⟨_, S3.cell 0 rfl rfl, _, S3.cell 1 rfl rfl, ?_⟩)⟩) (fun hst => no (by omega)))
  obtain ⟨g1, g2, g3⟩ := hst
  have h1 : ¬ t < G.L.term := h1
  refine IFB_eq (fun h4 => ⟨_, S3.cell 1 rfl rfl, IFB_ne (fun h5 => ⟨_, S3.cell 0 rfl rfl, _, S3.cell 1 rfl rfl, IFB_ne (fun h6 => no (.inr (.inr (.inr ⟨h4, h5, h6⟩)))) (fun h6 => yes ?_)⟩) (fun h5 => yes ?_)⟩) (fun h4 => yes ?_)
  · rintro (h | h | h | ⟨_, _, h⟩)
    · exact h1 h
    · omega
    · omega
    · exact h h6
  · rintro (h | h | h | ⟨_, h, _⟩)
    · exact h1 h
    · omega
    · omega
    · exact h h5
  · rintro (h | h | h | ⟨h, _, _⟩)
    · exact h1 h
    · omega
    · omega
    · exact h4 h
end
theorem ba_self (s : ByteArray) : (s == s) = true := by
  show ByteArray.beq s s = true
  unfold ByteArray.beq
  simp
section
variable {w0 w : World} {H : List It} {G : LogC} {a : Option Addr} {c : Nat}
theorem rd_take {l : List EntP} (h : Rd w a (l.flatMap entC)) (n : Nat) : Rd w a ((l.take n).flatMap entC) := by
  rw [← ents_take]
  exact h.take _
theorem ref19_Cut_ok (S : ST w0 w (logI G H)) (hB : LogB G.L) (i : Int) : Calls Tryz.prog f.ref19_Log_Cut #[ptrV G.b, .int .i64 i] w (Ret fun u w' => ∃ e lc L2, u = .int .i64 e ∧ RefOp (cutP G.L i) G.L e L2 ∧ ST w0 w' (logD { G with lc := lc, L := L2 } H)) := by
  apply R.ref19_Log_Cut_calls
  unfold R.ref19_Log_Cut
  refine ⟨_, S.cell 0 rfl rfl, IFB_dec (fun h1 => ?_) (fun h1 => (ref19_Last_ok (logR_of S) hB).mono ?_)⟩
  · exact ⟨2, G.lc, G.L, rfl, .inl ⟨by unfold cutP; rw [if_neg (fun hh => by have := hh.1; have h1 : i ≤ G.L.sidx := h1; omega)], rfl, rfl⟩, logI_D S⟩
  rintro _ w1 ⟨_, rfl, rfl, B1⟩
  have S1 := S.grown B1
  refine ⟨_, rfl, IFB_dec (fun h2 => ?_) (fun h2 => ?_)⟩
  · exact ⟨2, G.lc, G.L, rfl, .inl ⟨by unfold cutP; rw [if_neg (fun hh => by have := hh.2; omega)], rfl, rfl⟩, logI_D S1⟩
  have h1 : ¬ i ≤ G.L.sidx := h1
  have hh : G.L.has i := ⟨by omega, by omega⟩
  have hlt := LogP.has_lt hh
  have hs := hB.sidx
  have hl := hB.last
  have e : IntKind.i64.wrap (IntKind.i64.wrap (i - G.L.sidx) - 1) = i - G.L.sidx - 1 := by rw [wrap_i64 (n := i - G.L.sidx) (by omega) (by omega), wrap_i64 (by omega) (by omega)]
  have hcap := (S1.rw 1 rfl).le
  refine ⟨_, S1.cell 0 rfl rfl, _, _, _, S1.cell 0 rfl rfl, ?_⟩
  rw [e, SLA_zero]
  have hl2 : (G.L.l.take (i - G.L.sidx - 1).toNat).length = (i - G.L.sidx - 1).toNat := by rw [List.length_take]; omega
  refine ⟨⟨by omega, by omega, by omega, by omega⟩, ?_⟩
  refine ST.stoA S1 0 rfl 5 rfl (cs' := #[.int .i64 G.L.term, .int .i64 G.L.vote, .int .i64 G.L.sidx, .int .i64 G.L.sterm, .string G.L.sdata, .slice G.la ((i - G.L.sidx - 1).toNat - 0) ((i - G.L.sidx - 1).toNat - 0)]) (by show 5 < 6; omega) rfl fun w2 S2 => ⟨0, (i - G.L.sidx - 1).toNat, G.L.cut i, rfl, .inr ⟨by unfold cutP; rw [if_pos hh], rfl⟩, ?_⟩
  have S3 := S2.chg 1 rfl (.refl _ _) (It.rd G.la ((G.L.l.take (i - G.L.sidx - 1).toNat).flatMap entC)) (rd_take (S2.rd 1 rfl) _) (fun k hk => .inl (rd_sub hk))
  have S3 : ST w0 w2 (It.cells G.b #[.int .i64 G.L.term, .int .i64 G.L.vote, .int .i64 G.L.sidx, .int .i64 G.L.sterm, .string G.L.sdata, .slice G.la ((i - G.L.sidx - 1).toNat) ((i - G.L.sidx - 1).toNat)] ty.ref19_Log :: It.rd G.la ((G.L.l.take (i - G.L.sidx - 1).toNat).flatMap entC) :: H) := S3
  show ST w0 w2 (It.cells G.b #[.int .i64 G.L.term, .int .i64 G.L.vote, .int .i64 G.L.sidx, .int .i64 G.L.sterm, .string G.L.sdata, .slice G.la (G.L.l.take (i - G.L.sidx - 1).toNat).length ((i - G.L.sidx - 1).toNat)] ty.ref19_Log :: It.rd G.la ((G.L.l.take (i - G.L.sidx - 1).toNat).flatMap entC) :: H)
  rw [hl2]
  exact S3
theorem ref19_Append_ok (S : ST w0 w (logI G H)) {mx : Int} (hL : LogOk G.L mx) (xs : List EntP) (hmx : mx + xs.length ≤ 4611686018427387904) (hln : G.L.l.length + xs.length ≤ 900000) (hx : ∀ x ∈ xs, x.2.1 ≤ 9223372036854775807) (hr : rowE a c xs ∈ H) :
    Calls Tryz.prog f.ref19_Log_Append #[ptrV G.b, .slice a xs.length c] w (Ret fun u w' => ∃ e la lc L2, u = .int .i64 e ∧ RefOp (appP G.L xs) G.L e L2 ∧ ST w0 w' (logD { G with la := la, lc := lc, L := L2 } H)) := by
  apply R.ref19_Log_Append_calls
  unfold R.ref19_Log_Append
  refine ⟨_, _, _, S.cell 0 rfl rfl, fun st w1 => ∃ (i : Nat) (la : Option Addr) (lc : Nat) (A : LogP), st = [.int .i64 (i : Int)] ∧ i ≤ xs.length ∧ appP G.L (xs.take i) = some A ∧ ST w0 w1 (logI ⟨G.b, la, lc, A⟩ H), fun st _ => match st with
    | [.int _ i] => xs.length - i.toNat
    | _ => 0, ⟨0, G.la, G.lc, G.L, rfl, Nat.zero_le _, by simp [appP], S⟩, ?_⟩
  rintro _ w1 ⟨i, la, lc, A, hst, hi, hA, S1⟩
  cases hst
  have hAok := appP_ok _ hL (fun x hx' => hx x (List.mem_of_mem_take hx')) hA
  have hAl2 : A.l = G.L.l ++ xs.take i := hAok.2.2.2.2.2.2
  have hAl : A.l.length ≤ 900000 := by rw [hAl2, List.length_append, List.length_take]; omega
  have hAB : LogB A := hAok.1.b (by rw [List.length_take]; omega)
  refine IFB_dec (fun hlt => ?_) (fun hge => ?_)
  · have hil : i < xs.length := by omega
    have hrd : ∀ {w'}, ST w0 w' (logI ⟨G.b, la, lc, A⟩ H) → Rd w' a (xs.flatMap entC) := fun S' => (S'.ok (rowE a c xs) (by simp [logI, hr]) : Row _ _ _ _ _ _ _).rd
    obtain ⟨q, hq, hc⟩ := rowW_at entC_len (by omega) (hrd S1) hil
    subst hq
    refine ⟨⟨by omega, hlt⟩, _, by rw [Int.toNat_natCast]; have := hc 0 _ rfl; rw [addr_add_zero] at this; exact this, _, by rw [Int.toNat_natCast]; exact hc 1 _ rfl, _, by rw [Int.toNat_natCast]; exact hc 2 _ rfl, ?_⟩
    refine (ref19_mayAppend_ok (G := ⟨G.b, la, lc, A⟩) (logR_of S1) hAB xs[i]).mono ?_
    rintro _ w2 ⟨_, rfl, rfl, B2⟩
    have S2 := S1.grown B2
    have htk := appP_take hil hA
    refine ⟨_, rfl, IFB_not (IFB_dec (fun hmay => ?_) (fun hmay => ?_))⟩
    · rw [if_pos hmay] at htk
      refine S2.draw fun w4 B4 S4 => ?_
      obtain ⟨q', hq', hc'⟩ := rowW_at entC_len (by omega) (hrd S4) hil
      cases hq'
      refine ⟨⟨by omega, hlt⟩, _, _, _, S4.cell 0 rfl rfl, _, by rw [Int.toNat_natCast]; have := hc' 0 _ rfl; rw [addr_add_zero] at this; exact this, _, by rw [Int.toNat_natCast]; exact hc' 1 _ rfl, _, by rw [Int.toNat_natCast]; exact hc' 2 _ rfl, S4.newB fun b22 w5 _ _ S5 => ⟨S5.cell 1 rfl rfl, ?_⟩⟩
      refine push_ent (cs := #[]) (t := 0) (l := A.l) (la := la) (lc := lc) S5 2 rfl (by omega) xs[i] (S5.rdc 0 rfl) fun a' c' w6 S6 => ⟨_, _, _, rfl, ?_⟩
      have hcs : (LogC.cells ⟨G.b, la, lc, A⟩).setIfInBounds 5 (.slice a' (A.l.length + 1) c') = LogC.cells ⟨G.b, a', c', { A with l := A.l ++ [xs[i]] }⟩ := by
        have : A.l.length + 1 = (A.l ++ [xs[i]]).length := by simp
        rw [this]
        rfl
      simp only [PTR]
      refine ST.stoA S6 1 rfl 5 rfl (by show 5 < 6; omega) hcs fun w7 S7 => ?_
      rw [wrap_succ (by omega)]
      exact ⟨⟨i + 1, a', c', _, rfl, by omega, htk, S7.drop 1⟩, by show xs.length - ((i + 1 : Nat) : Int).toNat < xs.length - ((i : Nat) : Int).toNat; simp only [Int.toNat_natCast]; omega⟩
    · rw [if_neg hmay] at htk
      have hcap : A.l.length ≤ lc := (S2.rw 1 rfl).le
      have hle : G.L.l.length ≤ A.l.length := by rw [hAl2, List.length_append]; omega
      refine ⟨_, _, _, S2.cell 0 rfl rfl, ⟨by omega, by omega, by omega, by show (G.L.l.length : Int) ≤ (lc : Int); omega⟩, ?_⟩
      rw [SLA_zero]
      refine ST.stoA S2 0 rfl 5 rfl (cs' := #[.int .i64 A.term, .int .i64 A.vote, .int .i64 A.sidx, .int .i64 A.sterm, .string A.sdata, .slice la (G.L.l.length - 0) (G.L.l.length - 0)]) (by show 5 < 6; omega) rfl fun w3 S3 => ⟨2, la, G.L.l.length, G.L, rfl, .inl ⟨appP_none htk, rfl, rfl⟩, ?_⟩
      have S4 := S3.chg 1 rfl (.refl _ _) (It.rd la (G.L.l.flatMap entC)) (by have := rd_take (S3.rd 1 rfl) G.L.l.length; rw [hAl2, List.take_left] at this; exact this) (fun k hk => .inl (rd_sub hk))
      obtain ⟨_, e1, e2, e3, e4, e5, _⟩ := hAok
      rw [e1, e2, e3, e4, e5] at S4
      exact S4
  · have : i = xs.length := by omega
    subst this
    rw [List.take_length] at hA
    exact ⟨0, la, lc, A, rfl, .inr ⟨hA, rfl⟩, logI_D S1⟩
theorem ref19_Clone_ok (h : LogR w G) (hn : G.L.l.length ≤ 1000000) : Calls Tryz.prog f.ref19_Log_Clone #[ptrV G.b] w (Ret fun v w' => ∃ G', v = ptrV G'.b ∧ G'.L = G.L ∧ ST w w' (logI G' [])) := by
  apply R.ref19_Log_Clone_calls
  unfold R.ref19_Log_Clone
  refine (ST.start w).draw fun w1 B1 S1 => ?_
  have h1 := h.grown B1
  refine ⟨_, h1.cell rfl, _, h1.cell rfl, _, h1.cell rfl, _, h1.cell rfl, _, h1.cell rfl, _, _, _, h1.cell rfl, _, _, _, h1.cell rfl, make_row0 tEnts (by omega) (by omega) fun b w2 hb B2 hrow => ⟨_, _, _, rfl, ?_⟩⟩
  have h2 := h1.grown B2
  have S2 := S1.add B2 (It.row ty.api_Entry 3 (some ⟨b, 0, none⟩) 0 G.L.l.length []) hrow (fun k hk => by cases hk; exact hb)
  refine ⟨h2.cell rfl, ⟨h2.cell rfl, h2.cell rfl, h2.cell rfl⟩, ⟨h2.cell rfl, h2.cell rfl⟩, ?_⟩
  refine S2.app 0 rfl tEnts rfl (by omega) (by omega) h2.rd (mm := G.L.l.length) (ents_len _) (ents_one _) (by omega) fun a' c' w3 S3 => ⟨_, _, _, rfl, ?_⟩
  have h3 := h.grown S3.bel
  refine ⟨⟨h3.cell rfl, h3.cell rfl, h3.cell rfl⟩, ⟨h3.cell rfl, h3.cell rfl⟩, S3.newB fun b17 w4 _ _ S4 => ⟨⟨b17, a', c', G.L⟩, rfl, rfl, ?_⟩⟩
  rw [Nat.zero_add, List.nil_append] at S4
  exact S4
theorem ref19_Same_ok {A B : LogC} (ha : LogR w A) (hb : LogR w B) (hn : A.L.l.length ≤ 1000000) : Calls Tryz.prog f.ref19_Same #[ptrV A.b, ptrV B.b] w (Ret fun v w' => ∃ r, v = .bool r ∧ (A.L = B.L → r = true) ∧ Below w.heap.size w w') := by
  apply R.ref19_Same_calls
  unfold R.ref19_Same
  refine (ST.start w).draw fun w1 B1 S1 => ?_
  have ha1 := ha.grown B1
  have hb1 := hb.grown B1
  refine ⟨_, ha1.cell rfl, _, ha1.cell rfl, _, hb1.cell rfl, _, hb1.cell rfl, IFB_of (fun hc => ⟨false, rfl, fun he => ?_, B1⟩) (fun hc => ⟨_, ha1.cell rfl, _, ha1.cell rfl, _, ha1.cell rfl, _, hb1.cell rfl, _, hb1.cell rfl, _, hb1.cell rfl, IFB_of (fun hc2 => ⟨false, rfl, fun he => ?_, B1⟩) (fun hc2 => ⟨_, _, _, ha1.cell rfl, _, _, _, hb1.cell rfl, IFB_ne (fun hc3 => ⟨false, rfl, fun he => ?_, B1⟩) (fun hc3 => ?_)⟩)⟩)⟩
  · rw [he] at hc; simp at hc
  · rw [he] at hc2; simp [ba_self] at hc2
  · rw [he] at hc3; exact absurd rfl hc3
  have hlen : A.L.l.length = B.L.l.length := by omega
  refine ⟨fun st w2 => ∃ i : Nat, st = [.int .i64 (i : Int)] ∧ i ≤ A.L.l.length ∧ Below w.heap.size w w2, fun st _ => match st with
    | [.int _ i] => A.L.l.length - i.toNat
    | _ => 0, ⟨0, rfl, Nat.zero_le _, B1⟩, ?_⟩
  rintro _ w2 ⟨i, hst, hi, B2⟩
  cases hst
  have ha2 := ha.grown B2
  refine ⟨_, _, _, ha2.cell rfl, IFB_dec (fun hlt => ?_) (fun hge => ⟨true, rfl, fun _ => rfl, B2⟩)⟩
  have hil : i < A.L.l.length := by have hlt : (i : Int) < (A.L.l.length : Int) := hlt; omega
  refine ((ST.start w).grown B2).draw fun w3 B3 S3 => ?_
  have ha3 := ha.grown S3.bel
  have hb3 := hb.grown S3.bel
  obtain ⟨q, hq, hc⟩ := rowW_at entC_len (by omega) ha3.rd hil
  obtain ⟨q', hq', hc'⟩ := rowW_at entC_len (by omega) hb3.rd (i := i) (by omega)
  refine ⟨_, _, _, ha3.cell rfl, ⟨by omega, hlt⟩, ?_⟩
  rw [hq]
  refine ⟨_, by rw [Int.toNat_natCast]; have := hc 0 _ rfl; rw [addr_add_zero] at this; exact this, _, by rw [Int.toNat_natCast]; exact hc 1 _ rfl, _, by rw [Int.toNat_natCast]; exact hc 2 _ rfl, _, _, _, hb3.cell rfl, ⟨by omega, by omega⟩, ?_⟩
  rw [hq']
  refine ⟨_, by rw [Int.toNat_natCast]; have := hc' 0 _ rfl; rw [addr_add_zero] at this; exact this, _, by rw [Int.toNat_natCast]; exact hc' 1 _ rfl, _, by rw [Int.toNat_natCast]; exact hc' 2 _ rfl, IFB_of (fun hcc => ⟨false, rfl, fun he => ?_, S3.bel⟩) (fun hcc => ?_)⟩
  · exfalso
    have hee : A.L.l[i] = B.L.l[i]'(by omega) := by
      have := congrArg LogP.l he
      simp only [this]
    rw [hee] at hcc
    simp [ba_self] at hcc
  · rw [wrap_succ (by omega)]
    exact ⟨⟨i + 1, rfl, by omega, S3.bel⟩, by show A.L.l.length - ((i + 1 : Nat) : Int).toNat < A.L.l.length - ((i : Nat) : Int).toNat; simp only [Int.toNat_natCast]; omega⟩
end
section
variable {w0 w : World} {H : List It} {G : LogC} {a : Option Addr} {c : Nat}
theorem ref19_SetSnap_ok (S : ST w0 w (logI G H)) (hB : LogB G.L) (hln : G.L.l.length ≤ 900000) (s : EntP) (hs0 : -9223372036854775808 ≤ s.1) :
    Calls Tryz.prog f.ref19_Log_SetSnap #[ptrV G.b, .agg #[.int .i64 s.1, .int .i64 s.2.1, .string s.2.2]] w (Ret fun u w' => ∃ e la lc L2, u = .int .i64 e ∧ RefOp (snapP G.L s) G.L e L2 ∧ ST w0 w' (logD { G with la := la, lc := lc, L := L2 } H)) := by
  have hidx := hB.sidx
  have hlast := hB.last
  have hlen := hB.len
  apply R.ref19_Log_SetSnap_calls
  unfold R.ref19_Log_SetSnap
  refine S.newB fun b5 w1 _ _ S1 => S1.draw fun w2 _ S2 => ?_
  have no : (s.1 ≤ G.L.sidx ∨ s.2.1 < G.L.sterm ∨ 262144 < s.2.2.size) → ∃ e la lc L2, Value.int .i64 2 = .int .i64 e ∧ RefOp (snapP G.L s) G.L e L2 ∧ ST w0 w2 (logD { G with la := la, lc := lc, L := L2 } H) := fun hc =>
    ⟨2, G.la, G.lc, G.L, rfl, .inl ⟨by unfold snapP; rw [if_pos hc], rfl, rfl⟩, logI_D (S2.drop 1)⟩
  refine ⟨_, S2.cell 0 rfl rfl, _, S2.cell 1 rfl rfl, IFB_dec (fun h => no (.inl h)) (fun h1 => ⟨_, S2.cell 0 rfl rfl, _, S2.cell 1 rfl rfl, IFB_dec (fun h => no (.inr (.inl h))) (fun h2 => ⟨_, S2.cell 0 rfl rfl, IFB_dec (fun h => no (.inr (.inr (by have h : (s.2.2.size : Int) > 262144 := h; omega)))) (fun h3 => ⟨_, S2.cell 0 rfl rfl, (ref19_Entry_ok (G := G) ⟨S2.blk 1 rfl, S2.rd 2 rfl⟩ hB s.1).mono ?_⟩)⟩)⟩)⟩
  have h1 : ¬ s.1 ≤ G.L.sidx := h1
  have h2 : ¬ s.2.1 < G.L.sterm := h2
  have h3 : ¬ (s.2.2.size : Int) > 262144 := h3
  have hs : snapP G.L s = some { G.L with sidx := s.1, sterm := s.2.1, sdata := s.2.2, l := restE G.L s.1 s.2.1 } := by unfold snapP; rw [if_neg (by omega)]
  rintro _ w3 ⟨_, rfl, rfl, B3⟩
  obtain ⟨x, ok, hx, ho⟩ := atV_out (G.L.at s.1)
  refine ⟨_, _, _, _, congrArg Ending.returned hx, (S2.grown B3).lit3 fun b19 w7 _ S7 => ?_⟩
  have fin : ∀ (la : Option Addr) (lc : Nat) (w' : World), ST w0 w' (It.cells b19 #[.int .i64 x.1, .int .i64 x.2.1, .string x.2.2] ty.api_Entry :: It.cells b5 #[.int .i64 s.1, .int .i64 s.2.1, .string s.2.2] 46 :: It.cells G.b #[.int .i64 G.L.term, .int .i64 G.L.vote, .int .i64 G.L.sidx, .int .i64 G.L.sterm, .string G.L.sdata, .slice la (restE G.L s.1 s.2.1).length lc] ty.ref19_Log :: It.rd la ((restE G.L s.1 s.2.1).flatMap entC) :: H) →
      ∃ z0 : Int, w'.cell? ⟨b5, 0, none⟩ = some (.int .i64 z0) ∧ ∃ z1 : Int, w'.cell? ⟨b5, 1, none⟩ = some (.int .i64 z1) ∧ ∃ z2 : ByteArray, w'.cell? ⟨b5, 2, none⟩ = some (.string z2) ∧
        STO ((⟨G.b, 0, none⟩ : Addr).add 2) (.int .i64 z0) (fun w13 => STO (((⟨G.b, 0, none⟩ : Addr).add 2).add 1) (.int .i64 z1) (fun w14 => STO (((⟨G.b, 0, none⟩ : Addr).add 2).add 2) (.string z2) (fun w15 => ∃ e la lc L2, Value.int .i64 0 = .int .i64 e ∧ RefOp (snapP G.L s) G.L e L2 ∧ ST w0 w15 (logD { G with la := la, lc := lc, L := L2 } H)) w14) w13) w' := fun la lc w' S' => by
    refine ⟨_, S'.cell 1 rfl rfl, _, S'.cell 1 rfl rfl, _, S'.cell 1 rfl rfl, ?_⟩
    refine ST.stoA S' 2 rfl 2 rfl (cs' := #[.int .i64 G.L.term, .int .i64 G.L.vote, .int .i64 s.1, .int .i64 G.L.sterm, .string G.L.sdata, .slice la (restE G.L s.1 s.2.1).length lc]) (by show 2 < 6; omega) rfl fun w13 S13 => ?_
    refine ST.stoA S13 2 rfl 3 rfl (cs' := #[.int .i64 G.L.term, .int .i64 G.L.vote, .int .i64 s.1, .int .i64 s.2.1, .string G.L.sdata, .slice la (restE G.L s.1 s.2.1).length lc]) (by show 3 < 6; omega) rfl fun w14 S14 => ?_
    refine ST.stoA S14 2 rfl 4 rfl (cs' := #[.int .i64 G.L.term, .int .i64 G.L.vote, .int .i64 s.1, .int .i64 s.2.1, .string s.2.2, .slice la (restE G.L s.1 s.2.1).length lc]) (by show 4 < 6; omega) rfl fun w15 S15 => ?_
    exact ⟨0, la, lc, _, rfl, .inr ⟨hs, rfl⟩, S15.drop 2⟩
  refine ⟨fun st w17 => st = [.bool (ok && decide (x.2.1 = s.2.1))] ∧ ST w0 w17 (It.cells b19 #[.int .i64 x.1, .int .i64 x.2.1, .string x.2.2] ty.api_Entry :: It.cells b5 #[.int .i64 s.1, .int .i64 s.2.1, .string s.2.2] 46 :: logI G H), ?_, ?_⟩
  · rcases ho with ⟨_, rfl⟩ | ⟨_, rfl, _⟩
    · exact IFB_true ⟨_, S7.cell 0 rfl rfl, _, S7.cell 1 rfl rfl, by rw [Bool.true_and]; rfl, S7⟩
    · exact IFB_false ⟨by rw [Bool.false_and], S7⟩
  · rintro _ w8 ⟨hst, S8⟩
    cases hst
    refine IFB_of (fun hc => ?_) (fun hc => ?_)
    · rw [Bool.and_eq_true, decide_eq_true_eq] at hc
      obtain ⟨hok, hxt⟩ := hc
      have ha : G.L.at s.1 = some x := by
        rcases ho with ⟨ha, _⟩ | ⟨_, h, _⟩
        · exact ha
        · rw [hok] at h; cases h
      have hrest : restE G.L s.1 s.2.1 = G.L.l.drop (s.1 - G.L.sidx).toNat := by unfold restE; rw [ha]; exact if_pos hxt
      have hh : G.L.has s.1 := by
        unfold LogP.at at ha
        split at ha
        · assumption
        · cases ha
      have e : IntKind.i64.wrap (s.1 - G.L.sidx) = s.1 - G.L.sidx := wrap_i64 (by omega) (by have := hh.2; omega)
      have hle2 : (s.1 - G.L.sidx).toNat ≤ G.L.l.length := by have := hh.2; unfold LogP.last at this; omega
      have hld : G.L.l.length - (s.1 - G.L.sidx).toNat = (restE G.L s.1 s.2.1).length := by rw [hrest, List.length_drop]
      refine S8.draw fun w9 B9 S9 => ?_
      have hcap := (S9.rw 3 rfl).le
      refine ⟨_, _, _, S9.cell 2 rfl rfl, _, _, _, S9.cell 2 rfl rfl, _, S9.cell 1 rfl rfl, _, S9.cell 2 rfl rfl, ?_⟩
      rw [e, hld]
      refine ⟨⟨by omega, by omega, by omega⟩, make_row0 tEnts (by omega) (by omega) fun b w10 hb B10 hrow => ⟨_, _, _, rfl, ?_⟩⟩
      have S10 := S9.add B10 (It.row ty.api_Entry 3 (some ⟨b, 0, none⟩) 0 G.L.l.length []) hrow (fun k hk => by cases hk; exact hb)
      refine ⟨S10.cell 3 rfl rfl, S10.cell 2 rfl rfl, S10.cell 3 rfl rfl, ?_⟩
      refine S10.app 0 rfl tEnts rfl (by omega) (by omega) (rd_ents (S10.rd 4 rfl) (s.1 - G.L.sidx).toNat G.lc hcap) (mm := (restE G.L s.1 s.2.1).length) (by rw [← hrest]; exact ents_len _) (ents_one _) (by rw [← hld]; omega) fun a' c' w11 S11 => ⟨_, _, _, rfl, ?_⟩
      rw [Nat.zero_add, List.nil_append, ← hrest] at S11
      rw [Nat.zero_add]
      simp only [PTR]
      refine ST.stoA S11 3 rfl 5 rfl (cs' := #[.int .i64 G.L.term, .int .i64 G.L.vote, .int .i64 G.L.sidx, .int .i64 G.L.sterm, .string G.L.sdata, .slice a' (restE G.L s.1 s.2.1).length c']) (by show 5 < 6; omega) rfl fun w12 S12 => ?_
      have S13 := ((S12.pull 4 rfl).drop 1).chg 0 rfl (.refl _ _) (It.rd a' ((restE G.L s.1 s.2.1).flatMap entC)) (S12.rd 0 rfl) (fun k hk => .inl (rd_sub hk))
      have S13 : ST w0 w12 (It.rd a' ((restE G.L s.1 s.2.1).flatMap entC) :: It.cells b19 #[.int .i64 x.1, .int .i64 x.2.1, .string x.2.2] ty.api_Entry :: It.cells b5 #[.int .i64 s.1, .int .i64 s.2.1, .string s.2.2] 46 :: It.cells G.b #[.int .i64 G.L.term, .int .i64 G.L.vote, .int .i64 G.L.sidx, .int .i64 G.L.sterm, .string G.L.sdata, .slice a' (restE G.L s.1 s.2.1).length c'] ty.ref19_Log :: H) := S13
      exact fin a' c' w12 (S13.perm (List.perm_middle (l₁ := [It.cells b19 #[.int .i64 x.1, .int .i64 x.2.1, .string x.2.2] ty.api_Entry, It.cells b5 #[.int .i64 s.1, .int .i64 s.2.1, .string s.2.2] 46, It.cells G.b #[.int .i64 G.L.term, .int .i64 G.L.vote, .int .i64 G.L.sidx, .int .i64 G.L.sterm, .string G.L.sdata, .slice a' (restE G.L s.1 s.2.1).length c'] ty.ref19_Log]) (l₂ := H)).symm)
    · have hrest : restE G.L s.1 s.2.1 = [] := by
        unfold restE
        rcases ho with ⟨ha, rfl⟩ | ⟨ha, _, _⟩
        · rw [ha]
          rw [Bool.true_and, decide_eq_false_iff_not] at hc
          exact if_neg hc
        · rw [ha]
      simp only [PTR]
      refine ST.stoA S8 2 rfl 5 rfl (cs' := #[.int .i64 G.L.term, .int .i64 G.L.vote, .int .i64 G.L.sidx, .int .i64 G.L.sterm, .string G.L.sdata, .slice none 0 0]) (by show 5 < 6; omega) rfl fun w16 S16 => ?_
      have S17 := S16.chg 3 rfl (.refl _ _) (It.rd none (([] : List EntP).flatMap entC)) (Rd.nil w16 none) (fun k hk => by cases hk)
      refine fin none 0 w16 ?_
      rw [hrest]
      exact S17
end
structure Op9 where
  k : Int
  up : Int
  many : Int
  term : Int
  vote : Int
  data : ByteArray
  ka : Option Addr
  kl : Nat
  kc : Nat
def Op9.cells (x : Op9) : Array Value := #[.int .i64 x.k, .int .i64 x.up, .int .i64 x.many, .int .i64 x.term, .int .i64 x.vote, .string x.data, .slice x.ka x.kl x.kc]
def Op9.C (x : Op9) : List Value := [.int .i64 x.k, .int .i64 x.up, .int .i64 x.many, .int .i64 x.term, .int .i64 x.vote, .string x.data, .slice x.ka x.kl x.kc]
theorem Op9.C_len (x : Op9) : x.C.length = 7 := rfl
def kind5 (k : Int) : Int := Int.tmod (IntKind.i64.wrap (Int.tmod k 5 + 5)) 5
theorem tmod_lt {a b : Int} (hb : 0 < b) : -b < Int.tmod a b ∧ Int.tmod a b < b := ⟨Int.lt_tmod_of_pos a hb, Int.tmod_lt_of_pos a hb⟩
def manyN (x : Op9) : Nat := (if x.many < 20 then x.many else 20).toNat
theorem manyN_le (x : Op9) : manyN x ≤ 20 := by unfold manyN; split <;> omega
def entF (L : LogP) (x : Op9) (i : Nat) : EntP := (L.last + 1 + Int.tmod x.up 8 + (i : Int), x.term, x.data)
def entsOf (L : LogP) (x : Op9) : List EntP := (List.range (manyN x)).map (entF L x)
theorem entsOf_len (L : LogP) (x : Op9) : (entsOf L x).length = manyN x := by simp [entsOf]
def stepM (L : LogP) (x : Op9) : Option LogP :=
  if kind5 x.k = 0 then setP L x.term x.vote else if kind5 x.k = 1 then appP L (entsOf L x) else if kind5 x.k = 2 then cutP L (L.last + 1 + Int.tmod x.up 64) else if kind5 x.k = 3 then snapP L (L.last + Int.tmod x.up 64, x.term, x.data) else some L
section
variable {w0 w : World} {H : List It} {G : LogC} {a : Option Addr} {c : Nat}
theorem law19_entries_ok (h : LogR w G) (hB : LogB G.L) (x : Op9) : Calls Tryz.prog f.law19_entries #[ptrV G.b, .agg x.cells] w (Ret fun v w' => ∃ a c, v = .slice a (entsOf G.L x).length c ∧ ST w w' [rowE a c (entsOf G.L x)]) := by
  apply R.law19_entries_calls
  unfold R.law19_entries
  have hl := hB.last
  have hs := hB.sidx
  have hl0 : 0 ≤ G.L.last := by unfold LogP.last; omega
  have ht := tmod_lt (a := x.up) (b := 8) (by omega)
  refine (ST.start w).newB fun b9 w1 _ _ S1 => ?_
  refine ⟨fun st w2 => ∃ (i : Nat) (out : Option Addr) (oc : Nat), st = [.slice out ((List.range i).map (entF G.L x)).length oc, .int .i64 (i : Int)] ∧ i ≤ manyN x ∧ ST w w2 (rowE out oc ((List.range i).map (entF G.L x)) :: [It.cells b9 x.cells ty.law19_Op]), fun st _ => match st with
    | [_, .int _ i] => 20 - i.toNat
    | _ => 0, ⟨0, none, 0, rfl, Nat.zero_le _, S1.nil _ _⟩, ?_⟩
  rintro out _ oc _ w2 ⟨i, _, _, hst, hi, S2⟩
  cases hst
  have hm := manyN_le x
  have fin : i = manyN x → ∃ a c, Value.slice out ((List.range i).map (entF G.L x)).length oc = .slice a (entsOf G.L x).length c ∧ ST w w2 [rowE a c (entsOf G.L x)] := fun he => by
    subst he
    exact ⟨out, oc, rfl, S2.sub (List.Sublist.cons_cons _ (List.Sublist.cons _ (List.Sublist.refl _)))⟩
  refine ⟨_, S2.cell 1 rfl rfl, IFB_dec (fun hlt => IFB_dec (fun h20 => ?_) (fun h20 => fin ?_)) (fun hge => fin ?_)⟩
  · have hlt : (i : Int) < x.many := hlt
    have h20 : (i : Int) < 20 := h20
    have him : i < manyN x := by unfold manyN; split <;> omega
    refine S2.draw fun w3 B3 S3 => ⟨_, S3.cell 1 rfl rfl, _, S3.cell 1 rfl rfl, _, S3.cell 1 rfl rfl, (ref19_Last_ok (h.grown S3.bel) hB).mono ?_⟩
    rintro _ w4 ⟨_, rfl, rfl, B4⟩
    have S4 := S3.grown B4
    have e : IntKind.i64.wrap (IntKind.i64.wrap (IntKind.i64.wrap (G.L.last + 1) + Int.tmod x.up 8) + (i : Int)) = G.L.last + 1 + Int.tmod x.up 8 + (i : Int) := by
      rw [wrap_i64 (n := G.L.last + 1) (by omega) (by omega), wrap_i64 (n := G.L.last + 1 + Int.tmod x.up 8) (by omega) (by omega), wrap_i64 (by omega) (by omega)]
    refine ⟨_, rfl, S4.cell 1 rfl rfl, S4.cell 1 rfl rfl, S4.cell 1 rfl rfl, S4.newB fun b19 w5 _ _ S5 => ?_⟩
    rw [e] at S5
    refine push_ent (cs := #[]) (t := 0) S5 1 rfl (by simp; omega) (entF G.L x i) (S5.rdc 0 rfl) fun a' c' w6 S6 => ⟨_, _, _, rfl, ?_⟩
    have er : (List.range (i + 1)).map (entF G.L x) = (List.range i).map (entF G.L x) ++ [entF G.L x i] := by rw [List.range_succ, List.map_append]; rfl
    have el : ((List.range i).map (entF G.L x)).length + 1 = ((List.range (i + 1)).map (entF G.L x)).length := by simp
    rw [← er] at S6
    rw [el, wrap_succ (by omega)]
    exact ⟨⟨i + 1, a', c', rfl, by omega, S6.drop 1⟩, by show 20 - ((i + 1 : Nat) : Int).toNat < 20 - ((i : Nat) : Int).toNat; simp only [Int.toNat_natCast]; omega⟩
  · have h20 : ¬ (i : Int) < 20 := h20
    omega
  · have hge : ¬ (i : Int) < x.many := hge
    have : manyN x ≤ i := by unfold manyN; split <;> omega
    omega
theorem law19_cut_ok (S : ST w0 w H) (x : Op9) : Calls Tryz.prog f.law19_cut #[.agg x.cells] w (Ret fun v w' => (∃ s, s.size ≤ 500 ∧ v = .agg (Op9.cells { x with data := s })) ∧ ST w0 w' H) := by
  apply R.law19_cut_calls
  unfold R.law19_cut
  refine S.newB fun b8 w1 _ _ S1 => S1.newB fun b9 w2 _ _ S2 => ⟨_, S2.cell 1 rfl rfl, _, S2.cell 1 rfl rfl, ?_⟩
  have hb : 0 ≤ (if (500 : Int) < (x.data.size : Int) then 500 else (x.data.size : Int)) ∧ (if (500 : Int) < (x.data.size : Int) then 500 else (x.data.size : Int)) ≤ (x.data.size : Int) ∧ (if (500 : Int) < (x.data.size : Int) then 500 else (x.data.size : Int)) ≤ 500 := by split <;> omega
  refine ⟨⟨by omega, hb.1, hb.2.1⟩, ?_⟩
  generalize hq : (if (500 : Int) < (x.data.size : Int) then 500 else (x.data.size : Int)) = q at hb
  have hz : (x.data.extract 0 q.toNat).size ≤ 500 := by rw [ByteArray.size_extract]; omega
  generalize x.data.extract 0 q.toNat = s' at hz
  refine S2.sto 1 rfl (cs' := Op9.cells { x with data := s' }) (by show 5 < 7; omega) rfl fun w3 S3 => ?_
  refine ⟨_, S3.cell 1 rfl rfl, _, S3.cell 1 rfl rfl, _, S3.cell 1 rfl rfl, _, S3.cell 1 rfl rfl, _, S3.cell 1 rfl rfl, _, S3.cell 1 rfl rfl, _, _, _, S3.cell 1 rfl rfl, S3.sto7 0 rfl fun w4 S4 => ?_⟩
  exact ⟨_, S4.cell 0 rfl rfl, _, S4.cell 0 rfl rfl, _, S4.cell 0 rfl rfl, _, S4.cell 0 rfl rfl, _, S4.cell 0 rfl rfl, _, S4.cell 0 rfl rfl, _, _, _, S4.cell 0 rfl rfl, ⟨s', hz, rfl⟩, S4.drop 2⟩
theorem law19_high_ok (h : LogR w G) (hB : LogB G.L) : Calls Tryz.prog f.law19_high #[ptrV G.b] w (Ret fun v w' => ∃ r, v = .bool r ∧ (r = false → G.L.last ≤ 1152921504606846976) ∧ Below w.heap.size w w') := by
  apply R.law19_high_calls
  unfold R.law19_high
  refine (ref19_Last_ok h hB).mono ?_
  rintro _ w1 ⟨_, rfl, rfl, B1⟩
  refine ⟨_, rfl, IFB_dec (fun _ => ⟨true, rfl, (fun h => by cases h), B1⟩) (fun h2 => ⟨_, (h.grown B1).cell rfl, _, rfl, fun _ => by omega, B1⟩)⟩
theorem law19_model_ok (S : ST w0 w (logI G H)) {mx : Int} (hL : LogOk G.L mx) (hmx : mx ≤ 2305843009213693952) (hln : G.L.l.length ≤ 800000) (x : Op9) (hx : x.term ≤ 9223372036854775807) :
    Calls Tryz.prog f.law19_model #[ptrV G.b, .agg x.cells] w (Ret fun u w' => ∃ e la lc L2, u = .int .i64 e ∧ RefOp (stepM G.L x) G.L e L2 ∧ ST w0 w' (logD { G with la := la, lc := lc, L := L2 } H)) := by
  have hB := hL.b (by omega)
  have hl := hL.last
  have hs := hB.sidx
  have hl0 : 0 ≤ G.L.last := by unfold LogP.last; omega
  have hm := manyN_le x
  have ht := tmod_lt (a := x.up) (b := 64) (by omega)
  apply R.law19_model_calls
  unfold R.law19_model
  refine S.newB fun b9 w1 _ _ S1 => ⟨_, S1.cell 0 rfl rfl, ?_⟩
  show IFB (kind5 x.k == 0) _ _
  have S1p : ST w0 w1 (logI G (It.cells b9 x.cells ty.law19_Op :: H)) := S1.perm ((List.perm_middle (l₁ := [It.cells b9 x.cells ty.law19_Op])).trans (List.Perm.cons _ (List.perm_middle (l₁ := [It.cells b9 x.cells ty.law19_Op]))))
  have unD : ∀ {G' : LogC} {w' : World}, ST w0 w' (logD G' (It.cells b9 x.cells ty.law19_Op :: H)) → ST w0 w' (logD G' H) := fun S' => S'.sub (List.Sublist.cons_cons _ (List.Sublist.cons_cons _ (List.Sublist.cons _ (List.Sublist.refl _))))
  refine IFB_eq (fun h0 => ⟨_, S1.cell 0 rfl rfl, _, S1.cell 0 rfl rfl, (ref19_SetState_ok S1p hL.term.1 x.term x.vote).mono ?_⟩) (fun h0 => IFB_eq (fun h1 => ⟨_, S1.cell 0 rfl rfl, _, S1.cell 0 rfl rfl, _, S1.cell 0 rfl rfl, _, S1.cell 0 rfl rfl, _, S1.cell 0 rfl rfl, _, S1.cell 0 rfl rfl, _, _, _, S1.cell 0 rfl rfl, (law19_entries_ok (logR_of S1p) hB x).mono ?_⟩) (fun h1 => IFB_eq (fun h2 => ?_) (fun h2 => IFB_eq (fun h3 => ?_) (fun h3 => ?_))))
  · rintro _ w2 ⟨_, rfl, e, L2, rfl, hr, S2⟩
    have h0 : kind5 x.k = 0 := h0
    exact ⟨_, rfl, e, G.la, G.lc, L2, rfl, by unfold stepM; rw [if_pos h0]; exact hr, unD (logI_D S2)⟩
  · rintro _ w3 ⟨_, rfl, a3, c3, rfl, S3⟩
    have h0 : ¬ kind5 x.k = 0 := h0
    have h1 : kind5 x.k = 1 := h1
    have S4 : ST w0 w3 (logI G (rowE a3 c3 (entsOf G.L x) :: It.cells b9 x.cells ty.law19_Op :: H)) := (S1p.join S3).perm ((List.perm_middle (l₁ := [rowE a3 c3 (entsOf G.L x)])).trans (List.Perm.cons _ (List.perm_middle (l₁ := [rowE a3 c3 (entsOf G.L x)]))))
    refine ⟨_, _, _, rfl, (ref19_Append_ok S4 hL (entsOf G.L x) (by rw [entsOf_len]; omega) (by rw [entsOf_len]; omega) (fun y hy => ?_) (by simp)).mono ?_⟩
    · obtain ⟨j, _, rfl⟩ := List.mem_map.1 hy
      exact hx
    rintro _ w4 ⟨_, rfl, e, la, lc, L2, rfl, hr, S5⟩
    exact ⟨_, rfl, e, la, lc, L2, rfl, by unfold stepM; rw [if_neg h0, if_pos h1]; exact hr, S5.sub (List.Sublist.cons_cons _ (List.Sublist.cons_cons _ (List.Sublist.cons _ (List.Sublist.cons _ (List.Sublist.refl _)))))⟩
  · have h0 : ¬ kind5 x.k = 0 := h0
    have h1 : ¬ kind5 x.k = 1 := h1
    have h2 : kind5 x.k = 2 := h2
    refine S1p.draw fun w5 B5 S5 => ⟨_, S5.cell 2 rfl rfl, (ref19_Last_ok (logR_of S5) hB).mono ?_⟩
    rintro _ w6 ⟨_, rfl, rfl, B6⟩
    have S6 := S5.grown B6
    have e : IntKind.i64.wrap (IntKind.i64.wrap (G.L.last + 1) + Int.tmod x.up 64) = G.L.last + 1 + Int.tmod x.up 64 := by rw [wrap_i64 (n := G.L.last + 1) (by omega) (by omega), wrap_i64 (by omega) (by omega)]
    refine ⟨_, rfl, S6.cell 2 rfl rfl, ?_⟩
    rw [e]
    refine (ref19_Cut_ok S6 hB _).mono ?_
    rintro _ w7 ⟨_, rfl, e, lc, L2, rfl, hr, S7⟩
    exact ⟨_, rfl, e, G.la, lc, L2, rfl, by unfold stepM; rw [if_neg h0, if_neg h1, if_pos h2]; exact hr, unD S7⟩
  · have h0 : ¬ kind5 x.k = 0 := h0
    have h1 : ¬ kind5 x.k = 1 := h1
    have h2 : ¬ kind5 x.k = 2 := h2
    have h3 : kind5 x.k = 3 := h3
    refine S1p.draw fun w5 B5 S5 => ⟨_, S5.cell 2 rfl rfl, _, S5.cell 2 rfl rfl, _, S5.cell 2 rfl rfl, (ref19_Last_ok (logR_of S5) hB).mono ?_⟩
    rintro _ w6 ⟨_, rfl, rfl, B6⟩
    have S6 := S5.grown B6
    have e : IntKind.i64.wrap (G.L.last + Int.tmod x.up 64) = G.L.last + Int.tmod x.up 64 := by rw [wrap_i64 (by omega) (by omega)]
    refine ⟨_, rfl, S6.cell 2 rfl rfl, S6.cell 2 rfl rfl, S6.cell 2 rfl rfl, ?_⟩
    rw [e]
    refine (ref19_SetSnap_ok S6 hB (by omega) (G.L.last + Int.tmod x.up 64, x.term, x.data) (by show _ ≤ G.L.last + Int.tmod x.up 64; omega)).mono ?_
    rintro _ w7 ⟨_, rfl, e, la, lc, L2, rfl, hr, S7⟩
    exact ⟨_, rfl, e, la, lc, L2, rfl, by unfold stepM; rw [if_neg h0, if_neg h1, if_neg h2, if_pos h3]; exact hr, unD S7⟩
  · have h0 : ¬ kind5 x.k = 0 := h0
    have h1 : ¬ kind5 x.k = 1 := h1
    have h2 : ¬ kind5 x.k = 2 := h2
    have h3 : ¬ kind5 x.k = 3 := h3
    exact ⟨0, G.la, G.lc, G.L, rfl, .inr ⟨by unfold stepM; rw [if_neg h0, if_neg h1, if_neg h2, if_neg h3], rfl⟩, unD (logI_D S1p)⟩
end
theorem at_low {L : LogP} {i : Int} (h : i ≤ L.sidx) : L.at i = none := by
  unfold LogP.at
  rw [if_neg (fun hh => by have := hh.1; omega)]
theorem at_high {L : LogP} {i : Int} (h : L.last < i) : L.at i = none := by
  unfold LogP.at
  rw [if_neg (fun hh => by have := hh.2; omega)]
theorem termAt_self (L : LogP) : L.termAt L.sidx = (L.sterm, true) := by unfold LogP.termAt; rw [if_pos rfl]
theorem termAt_none {L : LogP} {i : Int} (h : L.at i = none) (hi : i ≠ L.sidx) : L.termAt i = (0, false) := by unfold LogP.termAt; rw [if_neg hi, h]
theorem at_mid {L : LogP} {k : Nat} (hk : k < L.l.length) : L.at (L.sidx + 1 + (k : Int)) = some L.l[k] := by
  have hh : L.has (L.sidx + 1 + (k : Int)) := ⟨by omega, by unfold LogP.last; omega⟩
  have e : (L.sidx + 1 + (k : Int) - L.sidx - 1).toNat = k := by omega
  unfold LogP.at
  rw [if_pos hh, e, List.getElem?_eq_getElem hk]
section
variable {w0 w : World} {H : List It} {W : WalC} {d : Nat}
theorem law19_told_ok (h : WalR w W d) {mx : Int} (hL : LogOk W.L mx) (hmx : mx ≤ 2305843009213693952) (hn : W.L.l.length ≤ 100000) :
    Calls Tryz.prog f.law19_told #[ptrV W.b] w (Ret fun v w' => ∃ G, v = .tuple #[ptrV G.b, .bool true] ∧ G.L = W.L ∧ ST w w' (logI G [])) := by
  have hB := hL.b (by omega)
  have hs := hB.sidx
  have hl := hL.last
  apply R.law19_told_calls
  unfold R.law19_told
  refine (wal_State_ok h).mono ?_
  rintro _ w1 ⟨_, rfl, rfl, B1⟩
  refine ⟨_, _, rfl, (wal_Snap_ok (h.grown B1)).mono ?_⟩
  rintro _ w2 ⟨_, rfl, rfl, B2⟩
  have B2 := below_trans B1 B2
  refine ⟨_, _, _, rfl, ((ST.start w).grown B2).newB fun b9 w3 _ _ S3 => S3.draw fun w4 _ S4 => ⟨_, S4.cell 0 rfl rfl, (wal_Last_ok (h.grown S4.bel) hB).mono ?_⟩⟩
  rintro _ w5 ⟨_, rfl, rfl, B5⟩
  have S5 := S4.grown B5
  have elast : W.L.last = W.L.sidx + (W.L.l.length : Int) := rfl
  have e1 : IntKind.i64.wrap (W.L.last - W.L.sidx) = (W.L.l.length : Int) := by rw [wrap_i64 (by omega) (by omega)]; omega
  refine ⟨_, rfl, S5.cell 0 rfl rfl, ?_⟩
  rw [e1]
  refine IFB_dec (fun h => absurd h (by omega)) (fun _ => ⟨_, S5.cell 0 rfl rfl, ?_⟩)
  have e2 : IntKind.i64.wrap (W.L.sidx + 1) = W.L.sidx + 1 + ((0 : Nat) : Int) := by rw [wrap_i64 (by omega) (by omega)]; omega
  rw [e2]
  refine ⟨fun st w6 => ∃ (k : Nat) (la : Option Addr) (lc : Nat), st = [.int .i64 (W.L.sidx + 1 + (k : Int))] ∧ k ≤ W.L.l.length ∧ ST w w6 (logI ⟨b9, la, lc, { W.L with l := W.L.l.take k }⟩ []), fun st _ => match st with
    | [.int _ i] => (W.L.last + 1 - i).toNat
    | _ => 0, ⟨0, none, 0, rfl, Nat.zero_le _, (S5.nil ty.api_Entry 3).perm (List.Perm.swap _ _ _)⟩, ?_⟩
  rintro _ w6 ⟨k, la, lc, hst, hk, S6⟩
  cases hst
  refine (wal_Last_ok (h.grown S6.bel) hB).mono ?_
  rintro _ w7 ⟨_, rfl, rfl, B7⟩
  have S7 := S6.grown B7
  refine ⟨_, rfl, IFB_dec (fun hlt => ?_) (fun hge => ?_)⟩
  · have hkl : k < W.L.l.length := by omega
    have hget := hL.ents.get k hkl
    refine (wal_Entry_ok (h.grown S7.bel) hB _).mono ?_
    rintro _ w8 ⟨_, rfl, rfl, B8⟩
    rw [at_mid hkl]
    refine ⟨_, _, _, _, rfl, (S7.grown B8).lit3 fun b23 w12 _ S12 => (wal_TermAt_ok (h.grown S12.bel) hB _).mono ?_⟩
    rintro _ w13 ⟨_, rfl, rfl, B13⟩
    have S13 := S12.grown B13
    have hta : W.L.termAt (W.L.sidx + 1 + (k : Int)) = (W.L.l[k].2.1, true) := by
      unfold LogP.termAt
      rw [if_neg (by omega), at_mid hkl]
    rw [hta]
    refine ⟨_, _, rfl, IFB_false (IFB_false ⟨_, S13.cell 0 rfl rfl, IFB_ne (fun h => absurd rfl h) (fun _ => ⟨_, S13.cell 0 rfl rfl, IFB_ne (fun h => absurd hget.1 h) (fun _ => S13.draw fun w14 _ S14 => ⟨_, _, _, S14.cell 1 rfl rfl, _, S14.cell 0 rfl rfl, _, S14.cell 0 rfl rfl, _, S14.cell 0 rfl rfl, S14.newB fun b33 w15 _ _ S15 => ⟨S15.cell 2 rfl rfl, ?_⟩⟩)⟩)⟩)⟩
    refine push_ent (cs := #[]) (t := 0) (l := W.L.l.take k) (la := la) (lc := lc) S15 3 rfl (by rw [List.length_take]; omega) W.L.l[k] (S15.rdc 0 rfl) fun a' c' w16 S16 => ⟨_, _, _, rfl, ?_⟩
    have etk : W.L.l.take (k + 1) = W.L.l.take k ++ [W.L.l[k]] := List.take_succ_eq_append_getElem hkl
    have hcs : (LogC.cells ⟨b9, la, lc, { W.L with l := W.L.l.take k }⟩).setIfInBounds 5 (.slice a' ((W.L.l.take k).length + 1) c') = LogC.cells ⟨b9, a', c', { W.L with l := W.L.l.take (k + 1) }⟩ := by
      have : (W.L.l.take k).length + 1 = (W.L.l.take (k + 1)).length := by rw [List.length_take, List.length_take]; omega
      rw [this]
      rfl
    refine S16.sto 2 rfl (by show 5 < 6; omega) hcs fun w17 S17 => ?_
    have e3 : IntKind.i64.wrap (W.L.sidx + 1 + (k : Int) + 1) = W.L.sidx + 1 + ((k + 1 : Nat) : Int) := by rw [wrap_i64 (by omega) (by omega)]; omega
    rw [e3]
    refine ⟨⟨k + 1, a', c', rfl, by omega, ?_⟩, ?_⟩
    · rw [← etk] at S17
      exact S17.drop 2
    · show (W.L.last + 1 - (W.L.sidx + 1 + ((k + 1 : Nat) : Int))).toNat < (W.L.last + 1 - (W.L.sidx + 1 + (k : Int))).toNat
      omega
  · have hkl : k = W.L.l.length := by omega
    subst hkl
    rw [List.take_length] at S7
    refine ⟨_, S7.cell 0 rfl rfl, (wal_Entry_ok (h.grown S7.bel) hB _).mono ?_⟩
    rintro _ w18 ⟨_, rfl, rfl, B18⟩
    rw [at_low (Int.le_refl _)]
    refine ⟨_, _, _, _, rfl, (S7.grown B18).lit3 fun b42 w22 _ S22 => (wal_Last_ok (h.grown S22.bel) hB).mono ?_⟩
    rintro _ w23 ⟨_, rfl, rfl, B23⟩
    have S23 := S22.grown B23
    have e4 : IntKind.i64.wrap (W.L.last + 1) = W.L.last + 1 := wrap_i64 (by omega) (by omega)
    refine ⟨_, rfl, ?_⟩
    rw [e4]
    refine (wal_Entry_ok (h.grown S23.bel) hB _).mono ?_
    rintro _ w24 ⟨_, rfl, rfl, B24⟩
    rw [at_high (L := W.L) (i := W.L.last + 1) (by omega)]
    refine ⟨_, _, _, _, rfl, (S23.grown B24).lit3 fun b50 w28 _ S28 => ⟨_, S28.cell 2 rfl rfl, (wal_TermAt_ok (h.grown S28.bel) hB _).mono ?_⟩⟩
    rintro _ w29 ⟨_, rfl, rfl, B29⟩
    have S29 := S28.grown B29
    have e5 : IntKind.i64.wrap (W.L.sidx - 1) = W.L.sidx - 1 := wrap_i64 (by omega) (by omega)
    refine ⟨_, _, rfl, _, S29.cell 2 rfl rfl, ?_⟩
    rw [e5]
    refine (wal_TermAt_ok (h.grown S29.bel) hB _).mono ?_
    rintro _ w30 ⟨_, rfl, rfl, B30⟩
    have S30 := S29.grown B30
    refine ⟨_, _, rfl, (wal_Last_ok (h.grown S30.bel) hB).mono ?_⟩
    rintro _ w31 ⟨_, rfl, rfl, B31⟩
    have S31 := S30.grown B31
    refine ⟨_, rfl, ?_⟩
    rw [e4]
    refine (wal_TermAt_ok (h.grown S31.bel) hB _).mono ?_
    rintro _ w32 ⟨_, rfl, rfl, B32⟩
    have S32 := S31.grown B32
    rw [termAt_self, termAt_none (L := W.L) (i := W.L.sidx - 1) (at_low (by omega)) (by omega), termAt_none (L := W.L) (i := W.L.last + 1) (at_high (by omega)) (by omega)]
    refine ⟨_, _, rfl, IFB_true (IFB_true (IFB_true ⟨_, S32.cell 2 rfl rfl, IFB_eq (fun _ => IFB_true ⟨⟨b9, la, lc, W.L⟩, rfl, rfl, S32.drop 2⟩) (fun h => absurd rfl h)⟩))⟩
end
theorem sum_take_le (f : EntP → Nat) (l : List EntP) (n : Nat) : ((l.take n).map f).sum ≤ (l.map f).sum := by
  have e : (l.map f).sum = ((l.take n).map f).sum + ((l.drop n).map f).sum := by rw [← List.sum_append_nat, ← List.map_append, List.take_append_drop]
  omega
theorem sum_drop_le (f : EntP → Nat) (l : List EntP) (n : Nat) : ((l.drop n).map f).sum ≤ (l.map f).sum := by
  have e : (l.map f).sum = ((l.take n).map f).sum + ((l.drop n).map f).sum := by rw [← List.sum_append_nat, ← List.map_append, List.take_append_drop]
  omega
theorem ents_sum (L : LogP) (x : Op9) (hd : x.data.size ≤ 500) : ((entsOf L x).map fun y => y.2.2.size + 43).sum ≤ 10860 := by
  have h : ∀ n, (((List.range n).map (entF L x)).map fun y => y.2.2.size + 43).sum = n * (x.data.size + 43) := fun n => by
    induction n with
    | zero => simp
    | succ n ih =>
      rw [List.range_succ, List.map_append, List.map_append, List.sum_append_nat, ih, Nat.add_mul]
      simp [entF]
  unfold entsOf
  rw [h]
  have h1 := manyN_le x
  calc manyN x * (x.data.size + 43) ≤ 20 * 543 := Nat.mul_le_mul h1 (by omega)
    _ = 10860 := rfl
theorem stepM_ok {L L' : LogP} {mx : Int} {x : Op9} (hL : LogOk L mx) (ht : x.term ≤ 9223372036854775807) (hd : x.data.size ≤ 500) (h : stepM L x = some L') : LogOk L' (mx + 100) ∧ L'.l.length ≤ L.l.length + 20 ∧ sizeL L' ≤ sizeL L + 12000 := by
  have hl := hL.last
  have t64 := tmod_lt (a := x.up) (b := 64) (by omega)
  have hm := manyN_le x
  unfold stepM at h
  split at h
  · obtain ⟨_, _, _, _, rfl⟩ := setP_play h
    exact ⟨(setP_ok hL ht h).mono (by omega), by show L.l.length ≤ _; omega, by show sizeL L ≤ _; omega⟩
  · split at h
    · obtain ⟨h1, _, _, _, _, h6, h7⟩ := appP_ok _ hL (fun y hy => by obtain ⟨j, _, rfl⟩ := List.mem_map.1 hy; exact ht) h
      rw [entsOf_len] at h1
      refine ⟨h1.mono (by omega), by rw [h7, List.length_append, entsOf_len]; omega, ?_⟩
      have := ents_sum L x hd
      unfold sizeL
      rw [h6, h7, List.map_append, List.sum_append_nat]
      omega
    · split at h
      · have h1 := cutP_ok hL h
        obtain ⟨_, _, rfl⟩ := cutP_play h
        refine ⟨h1.mono (by omega), by show (L.l.take _).length ≤ _; rw [List.length_take]; omega, ?_⟩
        have := sum_take_le (fun y => y.2.2.size + 43) L.l (L.last + 1 + Int.tmod x.up 64 - L.sidx - 1).toNat
        show L.sdata.size + 100 + ((L.l.take _).map _).sum ≤ L.sdata.size + 100 + (L.l.map _).sum + 12000
        omega
      · split at h
        · have h1 := snapP_ok (hL.mono (show mx ≤ mx + 100 by omega)) (by show L.last + Int.tmod x.up 64 ≤ _; omega) ht h
          unfold snapP at h
          split at h
          · cases h
          · cases h
            have hr : (restE L (L.last + Int.tmod x.up 64) x.term).length ≤ L.l.length ∧ ((restE L (L.last + Int.tmod x.up 64) x.term).map fun y => y.2.2.size + 43).sum ≤ (L.l.map fun y => y.2.2.size + 43).sum := by
              unfold restE
              cases L.at (L.last + Int.tmod x.up 64) with
              | none => simp
              | some z =>
                show (if z.2.1 = x.term then L.l.drop (L.last + Int.tmod x.up 64 - L.sidx).toNat else []).length ≤ _ ∧ _
                by_cases hz : z.2.1 = x.term
                · simp only [if_pos hz]
                  exact ⟨by rw [List.length_drop]; omega, sum_drop_le _ _ _⟩
                · simp only [if_neg hz]
                  simp
            refine ⟨h1, by show (restE L (L.last + Int.tmod x.up 64) x.term).length ≤ _; omega, ?_⟩
            show x.data.size + 100 + ((restE L (L.last + Int.tmod x.up 64) x.term).map fun y => y.2.2.size + 43).sum ≤ L.sdata.size + 100 + (L.l.map fun y => y.2.2.size + 43).sum + 12000
            omega
        · cases h
          exact ⟨hL.mono (by omega), by omega, by omega⟩
def Mid (L : LogP) (x : Op9) (L' A : LogP) : Prop := A = L ∨ A = L' ∨ (kind5 x.k = 1 ∧ ∃ j, j ≤ manyN x ∧ appP L ((entsOf L x).take j) = some A)
def DoesR (D : DiskC) (m B : Nat) (Y : List UInt8) (L : LogP) (x : Op9) (e : Int) (D' : DiskC) (L2 : LogP) : Prop :=
  (stepM L x = none ∧ e = 2 ∧ D' = D ∧ L2 = L) ∨ ∃ L', stepM L x = some L' ∧ ((e = 0 ∧ L2 = L' ∧ ∃ Y', WholeF Y' L' ∧ WQ D' (m + 10) B (some Y')) ∨ (e = 181 ∧ L2 = L ∧ (D.room : Int) < 3 * (B : Int) ∧ (D.fused = false → WQ D' (m + 10) B (some Y))) ∨
    (e = 183 ∧ L2 = L ∧ D.fused = true ∧ WDk D' (m + 10) B ∧ CrashTo D' fun Z => ∃ Y' A, Z = some Y' ∧ FileP Y' A ∧ Mid L x L' A))
theorem LayOp.does {D D' : DiskC} {m B : Nat} {Y : List UInt8} {L L2 : LogP} {x : Op9} {e : Int} {qs : List Pay} (h : LayOp D m B Y L (stepM L x) qs e D' L2) (hq : WQ D m B (some Y)) (hw : WholeF Y L) (hok : ∀ L', stepM L x = some L' → (∀ p ∈ qs, p.ok) ∧ playP L qs = some L' ∧ (flatR qs).length ≤ B)
    (hmid : ∀ L' j A, stepM L x = some L' → j ≤ qs.length → playP L (qs.take j) = some A → Mid L x L' A) : DoesR D m B Y L x e D' L2 := by
  rcases h with h | ⟨L', hs, hr, h2⟩
  · exact .inl h
  obtain ⟨h3, h4, h5⟩ := hok L' hs
  refine .inr ⟨L', hs, ?_⟩
  rcases hr with ⟨rfl, hq'⟩ | ⟨rfl, rfl, hl⟩ | ⟨rfl, hf, wd, hc⟩
  · rw [if_pos rfl] at h2
    exact .inl ⟨rfl, h2, _, hw.more h3 h4, hq'.mono (by omega) (Nat.le_refl _)⟩
  · rw [if_neg (by decide)] at h2
    refine .inr (.inl ⟨rfl, h2, ?_, fun _ => hq.mono (by omega) (Nat.le_refl _)⟩)
    have := hq.wd.left
    omega
  · rw [if_neg (by decide)] at h2
    refine .inr (.inr ⟨rfl, h2, hf, wd.mono (by omega) (Nat.le_refl _), hc.mono fun Z hZ => ?_⟩)
    obtain ⟨k, rfl⟩ := hZ
    obtain ⟨j, A, hj, hA, hfile⟩ := hw.part h3 h4 k
    exact ⟨_, A, rfl, hfile, hmid L' j A hs hj hA⟩
theorem mid_one {L L' A : LogP} {x : Op9} {p : Pay} {j : Nat} (h : playP L [p] = some L') (hj : j ≤ 1) (hA : playP L ([p].take j) = some A) : Mid L x L' A := by
  rcases (by omega : j = 0 ∨ j = 1) with rfl | rfl
  · cases hA; exact .inl rfl
  · exact .inr (.inl (Option.some.inj (hA.symm.trans h)))
theorem RewOp.does {D D' : DiskC} {m B : Nat} {Y : List UInt8} {L L2 : LogP} {x : Op9} {e : Int} {mx : Int} (h : RewOp D m B Y L (stepM L x) e D' L2) (hw : WholeF Y L) (hok : ∀ L', stepM L x = some L' → LogOk L' mx ∧ sizeL L' ≤ B) (hmx : mx ≤ 9223372036854775807) : DoesR D m B Y L x e D' L2 := by
  rcases h with h | ⟨L', hs, hr, h2⟩
  · exact .inl h
  obtain ⟨h3, h4⟩ := hok L' hs
  have hp := fresh_plays h3 hmx
  have hz := fresh_size h3 hmx
  refine .inr ⟨L', hs, ?_⟩
  rcases hr with ⟨rfl, hq'⟩ | ⟨rfl, hl, hq'⟩ | ⟨rfl, hf, wd, hc⟩
  · rw [if_pos rfl] at h2
    exact .inl ⟨rfl, h2, _, ⟨_, hp, rfl⟩, hq'⟩
  · rw [if_neg (by decide)] at h2
    exact .inr (.inl ⟨rfl, h2, by omega, hq'⟩)
  · rw [if_neg (by decide)] at h2
    refine .inr (.inr ⟨rfl, h2, hf, wd, hc.mono fun Z hZ => ?_⟩)
    rcases hZ with rfl | rfl
    · exact ⟨_, L, rfl, hw.file, .inl rfl⟩
    · exact ⟨_, L', rfl, WholeF.file ⟨_, hp, rfl⟩, .inr (.inl rfl)⟩
section
variable {w0 w : World} {H : List It} {W : WalC} {D : DiskC} {m B : Nat}
theorem law19_call_ok (S : ST w0 w (walI W D.b (dkE D H))) {Y : List UInt8} (hq : WQ D m B (some Y)) (hw : WholeF Y W.L) (hm : m + 20 < 1000000) {mx : Int} (hL : LogOk W.L mx) (hmx : mx ≤ 2305843009213693952) (hln : W.L.l.length ≤ 800000) {G : LogC} (hG : G.L = W.L)
    (hGc : It.cells G.b G.cells ty.ref19_Log ∈ H) (hGr : It.rd G.la (G.L.l.flatMap entC) ∈ H) (x : Op9) (hx : x.term ≤ 9223372036854775807) (hd : x.data.size ≤ 500) (hB : Y.length + 11000 ≤ B) (hB1 : sizeL W.L + 12000 ≤ B) (hB2 : B ≤ 100000000) :
    Calls Tryz.prog f.law19_call #[ptrV W.b, ptrV G.b, .agg x.cells] w (Ret fun u w' => ∃ e D' la lc L2, u = .int .i64 e ∧ Sam D D' ∧ DoesR D m B Y W.L x e D' L2 ∧ ST w0 w' (walI { W with la := la, lc := lc, L := L2 } D'.b (dkE D' H))) := by
  have hLB := hL.b (by omega)
  have hGB : LogB G.L := by rw [hG]; exact hLB
  have hl := hL.last
  have hs := hL.sidx
  have hl0 : 0 ≤ W.L.last := by unfold LogP.last; omega
  have hmn := manyN_le x
  have ht := tmod_lt (a := x.up) (b := 64) (by omega)
  have gR : ∀ {w' : World} {P : List It} {W' : WalC} {d : Nat} {D2 : DiskC}, ST w0 w' (walI W' d (dkE D2 (P ++ H))) → LogR w' G := fun S' => by
    have e1 := S'.ok (It.cells G.b G.cells ty.ref19_Log) (by simp [walI, dkE, hGc])
    have e2 := S'.ok (It.rd G.la (G.L.l.flatMap entC)) (by simp [walI, dkE, hGr])
    exact ⟨e1, e2⟩
  apply R.law19_call_calls
  unfold R.law19_call
  refine S.newB fun b10 w1 _ _ S1 => ⟨_, S1.cell 0 rfl rfl, ?_⟩
  show IFB (kind5 x.k == 0) _ _
  have c10 : ∀ {w' : World} {W' : WalC} {d : Nat} {D2 : DiskC} {P : List It}, ST w0 w' (walI W' d (dkE D2 (P ++ ([It.cells b10 x.cells ty.law19_Op] ++ H)))) → ST w0 w' (walI W' d (dkE D2 H)) := fun {w'} {W'} {d} {D2} {P} S' => by
    have e : P ++ ([It.cells b10 x.cells ty.law19_Op] ++ H) = (P ++ [It.cells b10 x.cells ty.law19_Op]) ++ H := by simp
    rw [e] at S'
    exact (S'.perm (lift_perm _ d).symm).sub (List.sublist_append_right _ _)
  have S1p := S1.perm (lift_perm (W := W) [It.cells b10 x.cells ty.law19_Op] D.b)
  refine IFB_eq (fun h0 => ⟨_, S1.cell 0 rfl rfl, _, S1.cell 0 rfl rfl, (wal_SetState_ok S1p hq (by omega) hL x.term x.vote hx (by omega)).mono ?_⟩) (fun h0 => IFB_eq (fun h1 => ⟨_, S1.cell 0 rfl rfl, _, S1.cell 0 rfl rfl, _, S1.cell 0 rfl rfl, _, S1.cell 0 rfl rfl, _, S1.cell 0 rfl rfl, _, S1.cell 0 rfl rfl, _, _, _, S1.cell 0 rfl rfl, (law19_entries_ok (gR S1p) hGB x).mono ?_⟩) (fun h1 => IFB_eq (fun h2 => ?_) (fun h2 => IFB_eq (fun h3 => ?_) (fun h3 => ?_))))
  · rintro _ w2 ⟨_, rfl, e, D', L2, rfl, sm, hr, S2⟩
    have h0 : kind5 x.k = 0 := h0
    have hst : stepM W.L x = setP W.L x.term x.vote := by unfold stepM; rw [if_pos h0]
    rw [← hst] at hr
    refine ⟨_, rfl, e, D', W.la, W.lc, L2, rfl, sm, hr.does hq hw (fun L' hL' => ?_) (fun L' j A hL' hj hA => ?_), c10 (P := []) S2⟩
    · rw [hst] at hL'
      obtain ⟨g1, g2, g3, g4, _⟩ := setP_play hL'
      have okp : (Pay.state x.term x.vote).ok := ⟨⟨by have := hL.term.1; omega, hx⟩, ⟨g3, by omega⟩⟩
      refine ⟨fun p hp => by rw [List.mem_singleton.1 hp]; exact okp, g1, ?_⟩
      have hrl := (Pay.bytes_len okp).2
      have hrz : (Pay.state x.term x.vote).size = 0 := rfl
      rw [flatR_one, Pay.rcd_len]
      omega
    · rw [hst] at hL'
      exact mid_one (setP_play hL').1 hj hA
  · rintro _ w3 ⟨_, rfl, a3, c3, rfl, S3⟩
    have h0 : ¬ kind5 x.k = 0 := h0
    have h1 : kind5 x.k = 1 := h1
    have hst : stepM W.L x = appP W.L (entsOf W.L x) := by unfold stepM; rw [if_neg h0, if_pos h1]
    rw [hG] at S3 ⊢
    have S4 := (S1.join S3).perm (lift_perm (W := W) [rowE a3 c3 (entsOf W.L x), It.cells b10 x.cells ty.law19_Op] D.b)
    have hsum := ents_sum W.L x hd
    have hxs : ∀ y ∈ entsOf W.L x, y.2.1 ≤ 9223372036854775807 := fun y hy => by
      obtain ⟨j, _, rfl⟩ := List.mem_map.1 hy
      exact hx
    refine ⟨_, _, _, rfl, (wal_Append_ok S4 hq (by omega) hL (entsOf W.L x) (by rw [entsOf_len]; omega) (by rw [entsOf_len]; omega) hxs (by simp) (by omega)).mono ?_⟩
    rintro _ w4 ⟨_, rfl, e, D', la, lc, L2, rfl, sm, hr, S5⟩
    rw [← hst] at hr
    refine ⟨_, rfl, e, D', la, lc, L2, rfl, sm, hr.does hq hw (fun L' hL' => ?_) (fun L' j A hL' hj hA => ?_), c10 (P := [rowE a3 c3 (entsOf W.L x)]) S5⟩
    · rw [hst] at hL'
      obtain ⟨g1, _, _, _, _, _, g7⟩ := appP_ok _ hL hxs hL'
      rw [entsOf_len] at g1
      have hokx : ∀ y ∈ entsOf W.L x, okE y := fun y hy => okE_of g1 (by omega) y (by rw [g7]; simp [hy])
      refine ⟨fun p hp => ?_, by rw [← appP_play]; exact hL', ?_⟩
      · obtain ⟨y, hy, rfl⟩ := List.mem_map.1 hp
        exact hokx y hy
      · have := ents_size _ hokx
        omega
    · refine .inr (.inr ⟨h1, j, by rw [List.length_map, entsOf_len] at hj; exact hj, ?_⟩)
      rw [appP_play, List.map_take]
      exact hA
  · have h0 : ¬ kind5 x.k = 0 := h0
    have h1 : ¬ kind5 x.k = 1 := h1
    have h2 : kind5 x.k = 2 := h2
    have hst : stepM W.L x = cutP W.L (W.L.last + 1 + Int.tmod x.up 64) := by unfold stepM; rw [if_neg h0, if_neg h1, if_pos h2]
    refine S1p.draw fun w5 B5 S5 => ⟨_, (S5.perm (lift_perm (W := W) [It.cells b10 x.cells ty.law19_Op] D.b).symm).cell 0 rfl rfl, (ref19_Last_ok (gR S5) hGB).mono ?_⟩
    rintro _ w6 ⟨_, rfl, rfl, B6⟩
    have S6 := S5.grown B6
    rw [hG]
    have e : IntKind.i64.wrap (IntKind.i64.wrap (W.L.last + 1) + Int.tmod x.up 64) = W.L.last + 1 + Int.tmod x.up 64 := by rw [wrap_i64 (n := W.L.last + 1) (by omega) (by omega), wrap_i64 (by omega) (by omega)]
    refine ⟨_, rfl, (S6.perm (lift_perm (W := W) [It.cells b10 x.cells ty.law19_Op] D.b).symm).cell 0 rfl rfl, ?_⟩
    rw [e]
    refine (wal_Cut_ok S6 hq (by omega) hL (by omega) _ (by omega)).mono ?_
    rintro _ w7 ⟨_, rfl, e, D', L2, rfl, sm, hr, S7⟩
    rw [← hst] at hr
    refine ⟨_, rfl, e, D', W.la, W.lc, L2, rfl, sm, hr.does hq hw (fun L' hL' => ?_) (fun L' j A hL' hj hA => ?_), c10 (P := []) S7⟩
    · rw [hst] at hL'
      obtain ⟨g1, g2, _⟩ := cutP_play hL'
      have okp : (Pay.cut (W.L.last + 1 + Int.tmod x.up 64)).ok := ⟨by have := g2.1; omega, by have := g2.2; omega⟩
      refine ⟨fun p hp => by rw [List.mem_singleton.1 hp]; exact okp, g1, ?_⟩
      have hrl := (Pay.bytes_len okp).2
      have hrz : (Pay.cut (W.L.last + 1 + Int.tmod x.up 64)).size = 0 := rfl
      rw [flatR_one, Pay.rcd_len]
      omega
    · rw [hst] at hL'
      exact mid_one (cutP_play hL').1 hj hA
  · have h0 : ¬ kind5 x.k = 0 := h0
    have h1 : ¬ kind5 x.k = 1 := h1
    have h2 : ¬ kind5 x.k = 2 := h2
    have h3 : kind5 x.k = 3 := h3
    have hst : stepM W.L x = snapP W.L (W.L.last + Int.tmod x.up 64, x.term, x.data) := by unfold stepM; rw [if_neg h0, if_neg h1, if_neg h2, if_pos h3]
    have cb : ∀ {w'}, ST w0 w' (walI W D.b (dkE D ([It.cells b10 x.cells ty.law19_Op] ++ H))) → ST w0 w' ([It.cells b10 x.cells ty.law19_Op] ++ walI W D.b (dkE D H)) := fun S' => S'.perm (lift_perm (W := W) [It.cells b10 x.cells ty.law19_Op] D.b).symm
    refine S1p.draw fun w5 B5 S5 => ⟨_, (cb S5).cell 0 rfl rfl, _, (cb S5).cell 0 rfl rfl, _, (cb S5).cell 0 rfl rfl, (ref19_Last_ok (gR S5) hGB).mono ?_⟩
    rintro _ w6 ⟨_, rfl, rfl, B6⟩
    have S6 := S5.grown B6
    rw [hG]
    have e : IntKind.i64.wrap (W.L.last + Int.tmod x.up 64) = W.L.last + Int.tmod x.up 64 := by rw [wrap_i64 (by omega) (by omega)]
    refine ⟨_, rfl, (cb S6).cell 0 rfl rfl, (cb S6).cell 0 rfl rfl, (cb S6).cell 0 rfl rfl, ?_⟩
    rw [e]
    have hL2 := hL.mono (show mx ≤ mx + 100 by omega)
    refine (wal_SetSnap_ok S6 hq (by omega) hL2 (by omega) (by omega) (W.L.last + Int.tmod x.up 64, x.term, x.data) (by show W.L.last + Int.tmod x.up 64 ≤ _; omega) hx (fun L' hL' => ?_) hB2 (by show _ ≤ W.L.last + Int.tmod x.up 64; omega)).mono ?_
    · have := (stepM_ok hL hx hd (hst.trans hL')).2.2
      omega
    rintro _ w7 ⟨_, rfl, e, D', la, lc, L2, rfl, sm, hr, S7⟩
    rw [← hst] at hr
    exact ⟨_, rfl, e, D', la, lc, L2, rfl, sm, hr.does hw (fun L' hL' => ⟨(stepM_ok hL hx hd hL').1, by have := (stepM_ok hL hx hd hL').2.2; omega⟩) (by omega), c10 (P := []) S7⟩
  · have h0 : ¬ kind5 x.k = 0 := h0
    have h1 : ¬ kind5 x.k = 1 := h1
    have h2 : ¬ kind5 x.k = 2 := h2
    have h3 : ¬ kind5 x.k = 3 := h3
    exact ⟨0, D, W.la, W.lc, W.L, rfl, .refl _, .inr ⟨W.L, by unfold stepM; rw [if_neg h0, if_neg h1, if_neg h2, if_neg h3], .inl ⟨rfl, rfl, Y, hw, hq.mono (by omega) (Nat.le_refl _)⟩⟩, c10 (P := []) S1p⟩
end
section
variable {w0 w : World} {C X : DiskC} {Z : List It} {m : Nat}
end
end Go.Proofs.YtfgbfodohmeamaaGreatDoor
