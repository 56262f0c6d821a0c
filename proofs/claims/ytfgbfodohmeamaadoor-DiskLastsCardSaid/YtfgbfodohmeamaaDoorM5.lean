/-
  Texts of this claim, laid one behind the other by a program of mine (install.py): J.Lw1, J.Lw2, Dn.Open, J.DkArg, J.JLasts.
-/
import Derived.Test.YtfgbfodohmeamaaDoorM4
import Derived.Test.YtfgbfodohmeamaaDoorM3
import Derived.ChangeArms
import Derived.Deep.Slices
import Derived.OpenShut
namespace Go.Proofs.YtfgbfodohmeamaaDoor
set_option maxRecDepth 100000
open Go.Dn Go.Proofs
open Go.RowKit (Below)
set_option linter.unusedVariables false
structure Calm (D D' : DiskC) : Prop where
  b : D'.b = D.b
  off : D'.off = D.off
  fused : D'.fused = D.fused
  room : D'.room = D.room
theorem StepE.calm {D D' : DiskC} {e pre : Int} {ok : DiskC → Prop} (h : StepE D e D' pre ok) (hf : D.fused = false) (hok : ok D' → Calm D D') : Calm D D' := by
  rcases h with ⟨_, _, rfl⟩ | ⟨_, hb, _⟩ | ⟨_, _, _, h⟩
  · exact ⟨rfl, rfl, rfl, rfl⟩
  · have := hb.1; rw [hf] at this; cases this
  · exact hok h
section
variable {D D' : DiskC} {e : Int}
theorem CreateR.calm {s : ByteArray} (h : CreateR D s e D') (hf : D.fused = false) : Calm D D' := StepE.calm h hf (by rintro ⟨_, _, _, _, _, rfl⟩; exact ⟨rfl, rfl, rfl, rfl⟩)
theorem AppendR.calm {s d : ByteArray} (h : AppendR D s d e D') (hf : D.fused = false) : Calm D D' := StepE.calm h hf (by rintro ⟨_, _, _, _, _, _, _, rfl⟩; exact ⟨rfl, rfl, rfl, rfl⟩)
theorem RenameR.calm {o s : ByteArray} (h : RenameR D o s e D') (hf : D.fused = false) : Calm D D' := StepE.calm h hf (by rintro ⟨_, _, _, _, _, _, _, rfl⟩; exact ⟨rfl, rfl, rfl, rfl⟩)
theorem RemoveR.calm {s : ByteArray} (h : RemoveR D s e D') (hf : D.fused = false) : Calm D D' := StepE.calm h hf (by rintro ⟨_, _, _, rfl⟩; exact ⟨rfl, rfl, rfl, rfl⟩)
theorem SyncR.calm {s : ByteArray} (h : SyncR D s e D') (hf : D.fused = false) : Calm D D' := StepE.calm h hf (by rintro ⟨_, _, _, _, _, rfl⟩; exact ⟨rfl, rfl, rfl, rfl⟩)
theorem DirR.calm (h : DirR D e D') (hf : D.fused = false) : Calm D D' := StepE.calm h hf (by rintro ⟨_, rfl⟩; exact ⟨rfl, rfl, rfl, rfl⟩)
end
def kindN (k : Int) : Int := Int.tmod (IntKind.i64.wrap (Int.tmod k 9 + 9)) 9
theorem kindN_lo (k : Int) : 0 ≤ kindN k := by
  unfold kindN
  have h1 := Int.tmod_lt_of_pos k (show (0 : Int) < 9 by omega)
  have h2 : -9 < Int.tmod k 9 := by have := Int.lt_tmod_of_pos k (show (0 : Int) < 9 by omega); omega
  rw [wrap_i64 (by omega) (by omega)]
  exact Int.tmod_nonneg _ (by omega)
def opC (k : Int) (name s : ByteArray) (n : Int) (ka : Option Addr) (kl kc : Nat) : Array Value := #[.int .i64 k, .string name, .string s, .int .i64 n, .slice ka kl kc]
structure Pair (D : DiskC) (G : RefC) (m : Nat) : Prop where
  d : DiskOk D (2 * m)
  g : RefOk G m
  off : D.off = false
  fused : D.fused = false
  room : D.room = 5000
section
variable {w0 w : World} {D : DiskC} {G : RefC} {E H : List It} {m : Nat}
theorem f12 {D : DiskC} {G : RefC} {x y : It} {E : List It} : (dkE D (refE G (x :: y :: E))).Perm (refE G (x :: y :: dkE D E)) := dkE_perm D (refE G [x, y]) E
theorem does_ok {pb : Nat} {t : TypeId} (S : ST w0 w (refE G (It.cells pb #[ptrV D.b, ptrV G.b] ty.law18_pair :: dkE D E))) (hP : Pair D G m) (hm : m ≤ 1000) (k : Int) (name s : ByteArray) (n : Int) (ka : Option Addr) (kl kc : Nat) (hk : kindN k < 6) (hn : name.size ≤ 9223372036854775807) (hs : s.size ≤ 1000) :
    Calls Tryd.prog f.law18_pair_does #[ptrV pb, .agg (opC k name s n ka kl kc)] w (Ret fun v w' => (∃ b : Bool, v = .bool b) ∧ ∃ D' G', D'.b = D.b ∧ G'.b = G.b ∧ Pair D' G' (m + 1) ∧ ST w0 w' (refE G' (It.cells pb #[ptrV D.b, ptrV G.b] ty.law18_pair :: dkE D' E))) := by
  apply R.law18_pair_does_calls
  unfold R.law18_pair_does
  have hk0 := kindN_lo k
  refine S.newB fun b7 w1 _ _ S1 => ⟨_, S1.cell 0 rfl rfl, ?_⟩
  have S1 : ST w0 w1 (refE G (It.cells b7 (opC k name s n ka kl kc) ty.law18_Op :: It.cells pb #[ptrV D.b, ptrV G.b] ty.law18_pair :: dkE D E)) := (((S1.pull 4 rfl).pull 4 rfl).pull 4 rfl).pull 4 rfl
  have hD := hP.d
  have fin : ∀ {b : Bool} {D' : DiskC} {w' : World}, DiskOk D' (2 * m + 2) → Calm D D' → ∀ G' : RefC, G'.b = G.b → RefOk G' (m + 1) → ST w0 w' (refE G' (It.cells b7 (opC k name s n ka kl kc) ty.law18_Op :: It.cells pb #[ptrV D.b, ptrV G.b] ty.law18_pair :: dkE D' E)) →
      (∃ b' : Bool, Value.bool b = .bool b') ∧ ∃ D' G', D'.b = D.b ∧ G'.b = G.b ∧ Pair D' G' (m + 1) ∧ ST w0 w' (refE G' (It.cells pb #[ptrV D.b, ptrV G.b] ty.law18_pair :: dkE D' E)) := fun {b D' w'} h1 h2 G' h3 h4 S' =>
    ⟨⟨b, rfl⟩, D', G', h2.b, h3, ⟨h1, h4, h2.off.trans hP.off, h2.fused.trans hP.fused, h2.room.trans hP.room⟩, S'.sub ((((List.Sublist.cons _ (List.Sublist.refl _)).cons_cons _).cons_cons _).cons_cons _ |>.cons_cons _)⟩
  show IFB (kindN k == 0) _ (IFB (kindN k == 1) _ (IFB (kindN k == 2) _ (IFB (kindN k == 3) _ (IFB (kindN k == 4) _ (IFB (kindN k == 5) _ (IFB (kindN k == 6) _ (IFB (kindN k == 7) _ _)))))))
  refine IFB_eq (fun _ => ?_) (fun h0 => ?_)
  · refine S1.draw fun w2 _ S2 => ⟨_, S2.cell 5 rfl rfl, _, S2.cell 4 rfl rfl, _, S2.cell 5 rfl rfl, _, S2.cell 4 rfl rfl, (create_ok (S2.perm f12.symm) hD (by omega) name hn).mono ?_⟩
    rintro _ w3 ⟨_, rfl, e, D', rfl, S3, hr⟩
    have ok' := CreateR.ok hD hr (files_nd S3)
    have S4 := S3.perm f12
    refine ⟨_, rfl, S4.cell 4 rfl rfl, S4.cell 5 rfl rfl, (rcreate_ok S4 hP.g (by omega) name hn).mono ?_⟩
    rintro _ w4 ⟨_, rfl, ⟨e2, rfl⟩, G', hG, hR, S5⟩
    exact ⟨_, rfl, fin ok' (hr.calm hP.fused) G' hG hR S5⟩
  refine IFB_eq (fun _ => ?_) (fun h1 => ?_)
  · refine S1.draw fun w2 _ S2 => ⟨_, S2.cell 5 rfl rfl, _, S2.cell 4 rfl rfl, _, S2.cell 4 rfl rfl, _, S2.cell 5 rfl rfl, _, S2.cell 4 rfl rfl, _, S2.cell 4 rfl rfl, (append_ok (S2.perm f12.symm) hD (by omega) name s hn).mono ?_⟩
    rintro _ w3 ⟨_, rfl, e, D', rfl, S3, hr⟩
    have ok' := AppendR.ok hD (files_nd (S2.perm f12.symm)) hr
    have S4 := S3.perm f12
    refine ⟨_, rfl, S4.cell 4 rfl rfl, S4.cell 4 rfl rfl, S4.cell 5 rfl rfl, (rappend_ok S4 hP.g (by omega) name s hn hs).mono ?_⟩
    rintro _ w4 ⟨_, rfl, ⟨e2, rfl⟩, G', hG, hR, S5⟩
    exact ⟨_, rfl, fin ok' (hr.calm hP.fused) G' hG hR S5⟩
  refine IFB_eq (fun _ => ?_) (fun h2 => ?_)
  · refine S1.draw fun w2 _ S2 => ⟨_, S2.cell 5 rfl rfl, _, S2.cell 4 rfl rfl, _, S2.cell 4 rfl rfl, _, S2.cell 5 rfl rfl, _, S2.cell 4 rfl rfl, _, S2.cell 4 rfl rfl, (rename_ok (S2.perm f12.symm) hD (by omega) name s hn (by omega)).mono ?_⟩
    rintro _ w3 ⟨_, rfl, e, D', rfl, S3, hr⟩
    have ok' := RenameR.ok hD hr
    have S4 := S3.perm f12
    refine ⟨_, rfl, S4.cell 4 rfl rfl, S4.cell 4 rfl rfl, S4.cell 5 rfl rfl, (rrename_ok S4 hP.g (by omega) name s hn (by omega)).mono ?_⟩
    rintro _ w4 ⟨_, rfl, ⟨e2, rfl⟩, G', hG, hR, S5⟩
    exact ⟨_, rfl, fin ok' (hr.calm hP.fused) G' hG hR S5⟩
  refine IFB_eq (fun _ => ?_) (fun h3 => ?_)
  · refine S1.draw fun w2 _ S2 => ⟨_, S2.cell 5 rfl rfl, _, S2.cell 4 rfl rfl, _, S2.cell 5 rfl rfl, _, S2.cell 4 rfl rfl, (remove_ok (S2.perm f12.symm) hD (by omega) name hn).mono ?_⟩
    rintro _ w3 ⟨_, rfl, e, D', rfl, S3, hr⟩
    have ok' := RemoveR.ok hD hr
    have S4 := S3.perm f12
    refine ⟨_, rfl, S4.cell 4 rfl rfl, S4.cell 5 rfl rfl, (rremove_ok S4 hP.g (by omega) name hn).mono ?_⟩
    rintro _ w4 ⟨_, rfl, ⟨e2, rfl⟩, G', hG, hR, S5⟩
    exact ⟨_, rfl, fin ok' (hr.calm hP.fused) G' hG hR S5⟩
  refine IFB_eq (fun _ => ?_) (fun h4 => ?_)
  · refine S1.draw fun w2 _ S2 => ⟨_, S2.cell 5 rfl rfl, _, S2.cell 4 rfl rfl, _, S2.cell 5 rfl rfl, _, S2.cell 4 rfl rfl, (sync_ok (S2.perm f12.symm) hD (by omega) name hn).mono ?_⟩
    rintro _ w3 ⟨_, rfl, e, D', rfl, S3, hr⟩
    have ok' := SyncR.ok hD hr
    have S4 := S3.perm f12
    refine ⟨_, rfl, S4.cell 4 rfl rfl, S4.cell 5 rfl rfl, (rsync_ok S4 hP.g (by omega) name hn).mono ?_⟩
    rintro _ w4 ⟨_, rfl, ⟨e2, rfl⟩, G', hG, hR, S5⟩
    exact ⟨_, rfl, fin ok' (hr.calm hP.fused) G' hG hR S5⟩
  refine IFB_eq (fun _ => ?_) (fun h5 => ?_)
  · refine S1.draw fun w2 _ S2 => ⟨_, S2.cell 5 rfl rfl, _, S2.cell 5 rfl rfl, (dir_ok (S2.perm f12.symm) hD (by omega) ).mono ?_⟩
    rintro _ w3 ⟨_, rfl, e, D', rfl, S3, hr⟩
    have ok' := DirR.ok hD hr
    have S4 := S3.perm f12
    refine ⟨_, rfl, S4.cell 5 rfl rfl, (rsyncDir_ok S4 hP.g).mono ?_⟩
    rintro _ w4 ⟨_, rfl, ⟨e2, rfl⟩, G', hG, hR, S5⟩
    exact ⟨_, rfl, fin ok' (hr.calm hP.fused) G' hG hR S5⟩
  exact IFB_eq (fun h => by omega) (fun h6 => IFB_eq (fun h => by omega) (fun h7 => by omega))
theorem small_ok (S : ST w0 w H) (k : Int) (name s : ByteArray) (n : Int) (ka : Option Addr) (kl kc : Nat) : Calls Tryd.prog f.law18_small #[.agg (opC k name s n ka kl kc)] w (Ret fun v w' => (∃ s', s'.size ≤ 300 ∧ v = .agg (opC k name s' n ka kl kc)) ∧ ST w0 w' H) := by
  apply R.law18_small_calls
  unfold R.law18_small
  refine S.newB fun b6 w1 _ _ S1 => S1.newB fun b7 w2 _ _ S2 => ?_
  refine ⟨_, S2.cell 1 rfl rfl, _, S2.cell 1 rfl rfl, ?_⟩
  have hb : 0 ≤ (if (300 : Int) < (s.size : Int) then 300 else (s.size : Int)) ∧ (if (300 : Int) < (s.size : Int) then 300 else (s.size : Int)) ≤ (s.size : Int) ∧ (if (300 : Int) < (s.size : Int) then 300 else (s.size : Int)) ≤ 300 := by split <;> omega
  refine ⟨⟨by omega, hb.1, hb.2.1⟩, ?_⟩
  generalize hq : (if (300 : Int) < (s.size : Int) then 300 else (s.size : Int)) = q at hb
  have hz : (s.extract 0 q.toNat).size ≤ 300 := by rw [ByteArray.size_extract]; omega
  generalize s.extract 0 q.toNat = s' at hz
  refine S2.sto 1 rfl (cs' := opC k name s' n ka kl kc) (by show 2 < 5; decide) rfl fun w3 S3 => ?_
  refine ⟨_, S3.cell 1 rfl rfl, _, S3.cell 1 rfl rfl, _, S3.cell 1 rfl rfl, _, S3.cell 1 rfl rfl, _, _, _, S3.cell 1 rfl rfl, ?_⟩
  refine S3.sto 0 rfl (cs' := #[.int .i64 k, .string ⟨#[]⟩, .string ⟨#[]⟩, .int .i64 0, .slice none 0 0]) (by decide) rfl fun w4 S4 => ?_
  refine S4.sto 0 rfl (cs' := #[.int .i64 k, .string name, .string ⟨#[]⟩, .int .i64 0, .slice none 0 0]) (by show 1 < 5; decide) rfl fun w5 S5 => ?_
  refine S5.sto 0 rfl (cs' := #[.int .i64 k, .string name, .string s', .int .i64 0, .slice none 0 0]) (by show 2 < 5; decide) rfl fun w6 S6 => ?_
  refine S6.sto 0 rfl (cs' := #[.int .i64 k, .string name, .string s', .int .i64 n, .slice none 0 0]) (by show 3 < 5; decide) rfl fun w7 S7 => ?_
  refine S7.sto 0 rfl (cs' := opC k name s' n ka kl kc) (by show 4 < 5; decide) rfl fun w8 S8 => ?_
  exact ⟨_, S8.cell 0 rfl rfl, _, S8.cell 0 rfl rfl, _, S8.cell 0 rfl rfl, _, S8.cell 0 rfl rfl, _, _, _, S8.cell 0 rfl rfl, ⟨s', hz, rfl⟩, S8.drop 2⟩
end
abbrev OpR := Int × ByteArray × ByteArray × Int × Option Addr × Nat × Nat
def opL (o : OpR) : List Value := [.int .i64 o.1, .string o.2.1, .string o.2.2.1, .int .i64 o.2.2.2.1, .slice o.2.2.2.2.1 o.2.2.2.2.2.1 o.2.2.2.2.2.2]
theorem opL_len (o : OpR) : (opL o).length = 5 := rfl
theorem Pair.mono {D : DiskC} {G : RefC} {m n : Nat} (h : Pair D G m) (hn : m ≤ n) : Pair D G n := ⟨h.d.mono (by omega), h.g.mono hn, h.off, h.fused, h.room⟩
structure Made (D : DiskC) : Prop where
  ok : DiskOk D 400
  off : D.off = false
  fused : D.fused = false
  room : D.room = 5000
section
variable {w0 w : World} {E H : List It} {m : Nat}
theorem made_ok (S : ST w0 w H) {a : Option Addr} {c : Nat} (ops : List OpR) (h : Rd w0 a (ops.flatMap opL)) (hz : ∀ o ∈ ops, o.2.1.size ≤ 9223372036854775807) :
    Calls Tryd.prog f.law18_made #[.int .i64 5000, .slice a ops.length c] w (Ret fun v w' => ∃ D, v = .tuple #[ptrV D.b, .bool true] ∧ Made D ∧ ST w0 w' (dkE D H)) := by
  apply R.law18_made_calls
  unfold R.law18_made
  refine (new_ok S 5000).mono ?_
  rintro _ w1 ⟨_, rfl, ⟨h, _⟩ | ⟨_, b, db, lb, rfl, S1⟩⟩
  · omega
  refine ⟨_, _, rfl, IFB_ne (fun h => absurd rfl h) (fun _ => IFB_false (S1.newB fun b6 w2 _ _ S2 => S2.newB fun b7 w3 _ _ S3 => ?_))⟩
  have S4 := ((((((S3.pull 1 rfl).nil ty.ref18_Change 3).nil ty.ref18_Name 2).nil ty.ref18_File 2).pull 3 rfl))
  have S4 : ST w0 w3 (refE ⟨b6, 5000, none, 0, [], none, 0, [], none, 0, 0, none, 0, []⟩ (It.cells b7 #[ptrV (disk0 b 5000 db lb).b, ptrV b6] ty.law18_pair :: dkE (disk0 b 5000 db lb) H)) := S4
  refine ⟨fun st w4 => ∃ (i : Nat) (D : DiskC) (G : RefC), st = [.int .i64 (i : Int)] ∧ i ≤ ops.length ∧ i ≤ 200 ∧ D.b = b ∧ G.b = b6 ∧ Pair D G i ∧ ST w0 w4 (refE G (It.cells b7 #[ptrV D.b, ptrV G.b] ty.law18_pair :: dkE D H)), fun st _ => match st with
    | [.int _ i] => ops.length - i.toNat
    | _ => 0, ⟨0, disk0 b 5000 db lb, ⟨b6, 5000, none, 0, [], none, 0, [], none, 0, 0, none, 0, []⟩, rfl, by omega, by omega, rfl, rfl, ⟨disk0_ok (by decide), ⟨by simp, by simp, by simp, by simp, by simp⟩, rfl, rfl, rfl⟩, S4⟩, ?_⟩
  rintro _ w4 ⟨i, D, G, hst, hi, hi2, hDb, hGb, hP, S5⟩
  cases hst
  have fin : Ret (fun v w' => ∃ D, v = .tuple #[ptrV D.b, .bool true] ∧ Made D ∧ ST w0 w' (dkE D H)) (.returned (.tuple #[ptrV b, .bool true])) w4 := ⟨_, rfl, D, by rw [hDb], ⟨hP.d.mono (by omega), hP.off, hP.fused, hP.room⟩, S5.drop 5⟩
  obtain ⟨_, hv, fin⟩ := fin
  cases hv
  refine IFB_dec (fun hlt => IFB_dec (fun h200 => ?_) (fun _ => fin)) (fun _ => fin)
  have hil : i < ops.length := by omega
  obtain ⟨q, rfl, hc⟩ := row_at opL_len (by omega) (h.grown S5.bel) hil
  have hdec : ops.length - ((i + 1 : Nat) : Int).toNat < ops.length - ((i : Nat) : Int).toNat := by simp only [Int.toNat_natCast]; omega
  refine ⟨⟨by omega, hlt⟩, _, by rw [Int.toNat_natCast]; exact hc 0 _ rfl, ?_⟩
  rw [wrap_succ (by omega)]
  show IFB (decide (kindN ops[i].1 < 6)) _ _
  refine IFB_dec (fun hk => ?_) (fun _ => ⟨⟨i + 1, D, G, rfl, by omega, by omega, hDb, hGb, hP.mono (by omega), S5⟩, hdec⟩)
  refine ⟨⟨by omega, hlt⟩, _, by rw [Int.toNat_natCast]; exact hc 0 _ rfl, _, by rw [Int.toNat_natCast]; exact hc 1 _ rfl, _, by rw [Int.toNat_natCast]; exact hc 2 _ rfl, _, by rw [Int.toNat_natCast]; exact hc 3 _ rfl, _, _, _, by rw [Int.toNat_natCast]; exact hc 4 _ rfl, ?_⟩
  refine (small_ok S5 _ _ _ _ _ _ _).mono ?_
  rintro _ w5 ⟨_, rfl, ⟨s', hs', rfl⟩, S6⟩
  refine ⟨_, _, _, _, _, _, _, rfl, ?_⟩
  refine (does_ok (t := 0) S6 hP (by omega) _ _ s' _ _ _ _ hk (hz _ (List.getElem_mem hil)) (by omega)).mono ?_
  rintro _ w6 ⟨_, rfl, ⟨b', rfl⟩, D', G', hD', hG', hP', S7⟩
  refine ⟨_, rfl, ⟨i + 1, D', G', rfl, by omega, by omega, hD'.trans hDb, hG'.trans hGb, hP', ?_⟩, hdec⟩
  rw [hD', hG']
  exact S7
end
end Go.Proofs.YtfgbfodohmeamaaDoor
namespace Go.Dn
set_option maxRecDepth 100000
def Good (P : Program) (w : World) : Nat → TypeId → List Value → Prop
  | 0, _, _ => False
  | n + 1, t, cs =>
    match P.underlying t with
    | some .bool => ∃ b, cs = [.bool b]
    | some (.int k) => ∃ x, cs = [.int k x] ∧ (Lit.int k x).wf = true
    | some .string => ∃ s : ByteArray, cs = [.string s] ∧ s.size ≤ maxLen
    | some (.slice e) => ∃ a len cap, cs = [.slice a len cap] ∧ len ≤ cap ∧ cap ≤ maxLen ∧ (a = none → cap = 0) ∧
        ∃ rows : List (List Value), rows.length = len ∧ Rd w a rows.flatten ∧ ∀ r ∈ rows, r.length = P.cellsOf e ∧ Good P w n e r
    | some (.struct fs) => cs.length = P.cellsOf t ∧ ∀ f ∈ fs.toList, Good P w n f.type ((cs.drop f.offset).take (P.cellsOf f.type))
    | _ => True
section
variable {P : Program} {w : World}
theorem Good.int {n : Nat} {t : TypeId} {cs : List Value} {k : IntKind} (h : Good P w n t cs) (ht : P.underlying t = some (.int k)) : ∃ x, cs = [.int k x] ∧ (Lit.int k x).wf = true := by
  cases n with
  | zero => exact h.elim
  | succ n => unfold Good at h; rw [ht] at h; exact h
theorem Good.str {n : Nat} {t : TypeId} {cs : List Value} (h : Good P w n t cs) (ht : P.underlying t = some .string) : ∃ s : ByteArray, cs = [.string s] ∧ s.size ≤ maxLen := by
  cases n with
  | zero => exact h.elim
  | succ n => unfold Good at h; rw [ht] at h; exact h
theorem Good.slice {n : Nat} {t e : TypeId} {cs : List Value} (h : Good P w n t cs) (ht : P.underlying t = some (.slice e)) : ∃ a len cap, cs = [.slice a len cap] ∧ len ≤ cap ∧ cap ≤ maxLen ∧ (a = none → cap = 0) ∧
        ∃ (m : Nat) (rows : List (List Value)), rows.length = len ∧ Rd w a rows.flatten ∧ ∀ r ∈ rows, r.length = P.cellsOf e ∧ Good P w m e r := by
  cases n with
  | zero => exact h.elim
  | succ n =>
    unfold Good at h
    rw [ht] at h
    obtain ⟨a, len, cap, h1, h2, h3, h4, rows, h5⟩ := h
    exact ⟨a, len, cap, h1, h2, h3, h4, n, rows, h5⟩
theorem Good.struct {n : Nat} {t : TypeId} {cs : List Value} {fs : Array Field} (h : Good P w n t cs) (ht : P.underlying t = some (.struct fs)) :
    cs.length = P.cellsOf t ∧ ∃ m, ∀ f ∈ fs.toList, Good P w m f.type ((cs.drop f.offset).take (P.cellsOf f.type)) := by
  cases n with
  | zero => exact h.elim
  | succ n =>
    unfold Good at h
    rw [ht] at h
    exact ⟨h.1, n, h.2⟩
def fieldsT (P : Program) (t : TypeId) : Option (List (TypeId × Nat)) :=
  match P.underlying t with
  | some (.struct fs) => some (fs.toList.map fun f => (f.type, f.offset))
  | _ => none
theorem Good.fields {n : Nat} {t : TypeId} {cs : List Value} {l : List (TypeId × Nat)} (h : Good P w n t cs) (ht : fieldsT P t = some l) :
    cs.length = P.cellsOf t ∧ ∃ m, ∀ x ∈ l, Good P w m x.1 ((cs.drop x.2).take (P.cellsOf x.1)) := by
  unfold fieldsT at ht
  split at ht
  · rename_i fs hu
    obtain ⟨h1, m, h2⟩ := h.struct hu
    cases ht
    refine ⟨h1, m, fun x hx => ?_⟩
    obtain ⟨f, hf, rfl⟩ := List.mem_map.1 hx
    exact h2 f hf
  · cases ht
theorem flatten_get (sz : Nat) : ∀ (rows : List (List Value)), (∀ r ∈ rows, r.length = sz) → ∀ j v, rows.flatten[j]? = some v → 0 < sz ∧ j / sz < rows.length ∧ ∃ r, rows[j / sz]? = some r ∧ r[j % sz]? = some v
  | [], _, j, v, h => by simp at h
  | r :: rows, hl, j, v, h => by
    have hr : r.length = sz := hl r (by simp)
    rw [List.flatten_cons] at h
    by_cases hj : j < sz
    · rw [List.getElem?_append_left (by omega)] at h
      refine ⟨by omega, by rw [Nat.div_eq_of_lt hj]; simp, r, by rw [Nat.div_eq_of_lt hj]; rfl, by rw [Nat.mod_eq_of_lt hj]; exact h⟩
    · rw [List.getElem?_append_right (by omega), hr] at h
      obtain ⟨h0, h1, r', h2, h3⟩ := flatten_get sz rows (fun r hr => hl r (by simp [hr])) (j - sz) v h
      have e : j / sz = (j - sz) / sz + 1 := by
        have := Nat.add_div_right (j - sz) h0
        rw [show j - sz + sz = j by omega] at this
        exact this
      have e2 : j % sz = (j - sz) % sz := Nat.mod_eq_sub_mod (by omega)
      refine ⟨h0, by rw [e]; simp; exact h1, r', by rw [e]; simpa using h2, by rw [e2]; exact h3⟩
theorem good_of_trod {H : Type} {enc : TypeId × Value → H} {spare : Nat → Bool} {held : Bool} {base : Nat} : ∀ (n : Nat) (t : TypeId) (cs : List Value) (x : DataW H × List MemPlace), DataW.trod enc P w base spare held n t cs = some x → Good P w n t cs
  | 0, _, _, _, h => by simp [DataW.trod] at h
  | n + 1, t, cs, x, h => by
    unfold Good
    split
    · rename_i ht; obtain ⟨b, rfl, _⟩ := DataW.trod_bool ht h; exact ⟨b, rfl⟩
    · rename_i k ht; obtain ⟨z, rfl, _, hw⟩ := DataW.trod_int ht h; exact ⟨z, rfl, hw⟩
    · rename_i ht; obtain ⟨s, rfl, _, hw⟩ := DataW.trod_string ht h; exact ⟨s, rfl, hw⟩
    · rename_i e ht
      rcases DataW.trod_slice ht h with ⟨rfl, _⟩ | ⟨a, len, cap, elems, rest, m, hn, rfl, _, hb, hl, hm, hlen, hel, _, _⟩
      · exact ⟨none, 0, 0, rfl, Nat.le_refl _, Nat.zero_le _, fun _ => rfl, [], rfl, Rd.nil _ _, by simp⟩
      · have hnm : n = m := by omega
        subst hnm
        have hx : ∀ i, i < len → ∃ cs' : List Value, w.cells? base (a.add (i * P.cellsOf e)) (P.cellsOf e) = some cs' ∧ Good P w n e cs' := by
          intro i hi
          have := hel i hi
          rw [List.getElem?_eq_getElem (by omega)] at this
          obtain ⟨cs', h1, h2⟩ := Option.bind_eq_some_iff.1 this
          exact ⟨cs', h1, good_of_trod n e cs' _ h2⟩
        obtain ⟨V, hV⟩ := Deep.choose_lt (α := List Value) hx
        have hrows : ∀ r ∈ (List.range len).map V, r.length = P.cellsOf e ∧ Good P w n e r := by
          intro r hr
          obtain ⟨i, hi, rfl⟩ := List.mem_map.1 hr
          have := hV i (by simpa using hi)
          exact ⟨(World.cells?_some this.1).2.1, this.2⟩
        refine ⟨some a, len, cap, rfl, hl, hm, (fun h => nomatch h), (List.range len).map V, by simp, ?_, hrows⟩
        intro j v hv
        obtain ⟨h0, h1, r, h2, h3⟩ := flatten_get (P.cellsOf e) _ (fun r hr => (hrows r hr).1) j v hv
        refine ⟨a, rfl, ?_⟩
        simp only [List.length_map, List.length_range] at h1
        simp only [List.getElem?_map, List.getElem?_range h1, Option.map_some, Option.some.injEq] at h2
        subst h2
        obtain ⟨hc, hg⟩ := hV _ h1
        have hlt : j % P.cellsOf e < P.cellsOf e := Nat.mod_lt _ h0
        have := (World.cells?_some hc).2.2 _ hlt
        rw [addr_add_add, h3] at this
        rw [← this]
        congr 2
        rw [Nat.mul_comm]
        exact (Nat.div_add_mod j _).symm
    · rename_i fs ht
      unfold DataW.trod at h
      rw [ht] at h
      simp only at h
      split at h
      · rename_i hlen
        refine ⟨hlen, fun f hf => ?_⟩
        obtain ⟨xs, hxs, _⟩ := Option.map_eq_some_iff.1 h
        obtain ⟨i, hi⟩ := List.getElem?_of_mem hf
        have hl := mapM_some_length hxs
        have hlt := (List.getElem?_eq_some_iff.1 hi).1
        have hg := mapM_some_get hxs i f hi
        rw [List.getElem?_eq_getElem (by omega)] at hg
        exact good_of_trod n _ _ _ hg
      · cases h
    · trivial
theorem rows_of {α : Type} {rows : List (List Value)} {g : α → List Value} {q : α → Prop} (h : ∀ r ∈ rows, ∃ x, r = g x ∧ q x) : ∃ xs : List α, rows = xs.map g ∧ ∀ x ∈ xs, q x := by
  induction rows with
  | nil => exact ⟨[], rfl, by simp⟩
  | cons r rows ih =>
    obtain ⟨x, rfl, hx⟩ := h r (by simp)
    obtain ⟨xs, rfl, hxs⟩ := ih fun r hr => h r (by simp [hr])
    exact ⟨x :: xs, rfl, by simpa using ⟨hx, hxs⟩⟩
theorem Good.list {α : Type} {n : Nat} {t e : TypeId} {cs : List Value} (h : Good P w n t cs) (ht : P.underlying t = some (.slice e)) (g : α → List Value) (q : α → Prop) (hg : ∀ m r, r.length = P.cellsOf e → Good P w m e r → ∃ x, r = g x ∧ q x) :
    ∃ a cap, ∃ xs : List α, cs = [.slice a xs.length cap] ∧ xs.length ≤ cap ∧ cap ≤ maxLen ∧ (a = none → cap = 0) ∧ Rd w a (xs.flatMap g) ∧ ∀ x ∈ xs, q x := by
  obtain ⟨a, len, cap, rfl, h1, h2, h3, m, rows, rfl, hr, hrs⟩ := h.slice ht
  obtain ⟨xs, rfl, hq⟩ := rows_of (fun r hr => hg m r (hrs r hr).1 (hrs r hr).2)
  simp only [List.length_map] at h1 ⊢
  exact ⟨a, cap, xs, rfl, h1, h2, h3, by rw [List.flatMap_def]; exact hr, hq⟩
def GL {α : Type} (w : World) (g : α → List Value) (q : α → Prop) (a : Option Addr) (xs : List α) (c : Nat) : Prop :=
  xs.length ≤ c ∧ c ≤ maxLen ∧ (a = none → c = 0) ∧ Rd w a (xs.flatMap g) ∧ ∀ x ∈ xs, q x
theorem Good.gl {α : Type} {n : Nat} {t e : TypeId} {a0 : Option Addr} {l0 c0 : Nat} (h : Good P w n t (Value.slice a0 l0 c0).cells.toList) (ht : P.underlying t = some (.slice e)) (g : α → List Value) (q : α → Prop) (hg : ∀ m r, r.length = P.cellsOf e → Good P w m e r → ∃ x, r = g x ∧ q x) :
    ∃ xs : List α, l0 = xs.length ∧ GL w g q a0 xs c0 := by
  obtain ⟨a, c, xs, he, h1⟩ := h.list ht g q hg
  have he' : [Value.slice a0 l0 c0] = [.slice a xs.length c] := he
  simp only [List.cons.injEq, Value.slice.injEq, and_true] at he'
  obtain ⟨rfl, rfl, rfl⟩ := he'
  exact ⟨xs, rfl, h1⟩
def intC (k : IntKind) (x : Int) : List Value := [.int k x]
def intQ (k : IntKind) (x : Int) : Prop := (Lit.int k x).wf = true
theorem good_int {e : TypeId} {k : IntKind} (he : P.underlying e = some (.int k)) : ∀ m r, r.length = P.cellsOf e → Good P w m e r → ∃ x, r = intC k x ∧ intQ k x := fun _ _ _ h => h.int he
theorem flat1 {α β : Type} (f : α → β) : ∀ l : List α, (l.flatMap fun x => [f x]) = l.map f
  | [] => rfl
  | x :: l => by rw [List.flatMap_cons, flat1 f l]; rfl
end
end Go.Dn
namespace Go.Proofs.YtfgbfodohmeamaaDoor
set_option maxRecDepth 100000
open Go.Dn Go.Proofs
open Go.RowKit (Below)
set_option linter.unusedVariables false
structure OpQ (o : OpR) : Prop where
  name : o.2.1.size ≤ maxLen
  data : o.2.2.1.size ≤ maxLen
theorem cells_int : Tryd.prog.cellsOf ty.int = 1 := by kernel_rfl
theorem cells_str : Tryd.prog.cellsOf ty.string = 1 := by kernel_rfl
theorem cells_ints : Tryd.prog.cellsOf ty.L_int = 1 := by kernel_rfl
theorem und_int : Tryd.prog.underlying ty.int = some (.int .i64) := by kernel_rfl
theorem und_ints : Tryd.prog.underlying ty.L_int = some (.slice ty.int) := by kernel_rfl
theorem und_op : fieldsT Tryd.prog ty.law18_Op = some [(ty.int, 0), (ty.string, 1), (ty.string, 2), (ty.int, 3), (ty.L_int, 4)] := by kernel_rfl
theorem cells_op : Tryd.prog.cellsOf ty.law18_Op = 5 := by kernel_rfl
theorem good_stackyardlaw18_Op {w : World} : ∀ m r, r.length = Tryd.prog.cellsOf ty.law18_Op → Go.Dn.Good Tryd.prog w m ty.law18_Op r → ∃ x, r = opL x ∧ OpQ x := by
  intro m r hl h
  obtain ⟨_, n, hf⟩ := h.fields und_op
  rw [cells_op] at hl
  match r, hl with
  | [v0, v1, v2, v3, v4], _ =>
    simp only [List.mem_cons, List.not_mem_nil, or_false, forall_eq_or_imp, forall_eq, cells_int, cells_ints, cells_str] at hf
    obtain ⟨h0, h1, h2, h3, h4⟩ := hf
    obtain ⟨x0, e0, q0⟩ := h0.int und_int
    obtain ⟨x1, e1, q1⟩ := h1.str und_str
    obtain ⟨x2, e2, q2⟩ := h2.str und_str
    obtain ⟨x3, e3, q3⟩ := h3.int und_int
    obtain ⟨a, l, c, e4, _⟩ := h4.slice und_ints
    refine ⟨(x0, x1, x2, x3, a, l, c), ?_, ⟨q1, q2⟩⟩
    simp only [List.drop_zero, List.take_succ_cons, List.take_zero, List.drop_succ_cons, List.cons.injEq, and_true] at e0 e1 e2 e3 e4
    rw [e0, e1, e2, e3, e4]
    rfl
theorem ops_arg {w : World} {a : Option Addr} {ops : List OpR} {c : Nat} (g : GL w opL OpQ a ops c) : Rd w a (ops.flatMap opL) ∧ ∀ o ∈ ops, o.2.1.size ≤ 9223372036854775807 :=
  ⟨g.2.2.2.1, fun o ho => Nat.le_trans (g.2.2.2.2 o ho).name (by decide)⟩
theorem ints_arg {w : World} {a : Option Addr} {xs : List Int} {c : Nat} (g : GL w (intC .i64) (intQ .i64) a xs c) : Rd w a (xs.map intI) ∧ xs.length ≤ c := by
  have h := g.2.2.2.1
  rw [show xs.flatMap (intC .i64) = xs.map intI from flat1 intI xs] at h
  exact ⟨h, g.1⟩
def NoEnv (_ : World) : Prop := True
theorem fileD_upd {D D' : DiskC} {pre post : List FileC} {f g : FileC} (nd : NdF D.files) (hf : D.files = pre ++ f :: post) (hf' : D'.files = pre ++ g :: post) (hb : g.b = f.b) : fileD D' f.b = some g := by
  have nd' : NdF D'.files := by
    rw [hf']
    rw [hf] at nd
    unfold NdF at *
    rw [List.pairwise_append, List.pairwise_cons] at *
    rw [hb]
    exact ⟨nd.1, nd.2.1, fun a ha c hc => by
      rcases List.mem_cons.1 hc with rfl | hc
      · rw [hb]; exact nd.2.2 a ha f (by simp)
      · exact nd.2.2 a ha c (by simp [hc])⟩
  rw [← hb]
  exact fileD_of nd' hf'
structure Has (D : DiskC) (s : ByteArray) (data : List UInt8) (ls : Nat) : Prop where
  fused : D.fused = false
  room : D.room = 5000
  file : ∃ f, D.dir (bl s) = some f.b ∧ fileD D f.b = some f ∧ f.data = data ∧ f.lasts = ls
section
variable {D D' : DiskC} {s : ByteArray} {data : List UInt8} {ls m : Nat} {e : Int}
theorem StepE.zero {pre : Int} {ok : DiskC → Prop} (h : StepE D 0 D' pre ok) : ok D' := by
  rcases h with ⟨h1, h2, _⟩ | ⟨_, _, h2, _⟩ | ⟨_, _, _, h2⟩
  · exact absurd h2.symm h1
  · cases h2
  · exact h2
theorem Has.create (hf : D.fused = false) (hR : D.room = 5000) (hr : CreateR D s 0 D') (nd' : NdF D'.files) : Has D' s [] 0 ∧ nameB s = true := by
  have hl : liveE D.off [s] = 0 := by
    rcases hr with ⟨h1, h2, _⟩ | ⟨_, _, h2, _⟩ | ⟨h1, _⟩
    · exact absurd h2.symm h1
    · cases h2
    · exact h1
  obtain ⟨b1, b2, b, wa, wc, rfl⟩ := StepE.zero hr
  exact ⟨⟨hf, hR, ⟨b, D.made + 1, none, 0, [], 0⟩, if_pos rfl, fileD_of nd' (post := []) rfl, rfl, rfl⟩, (live1 hl).2⟩
theorem Has.same (h : Has D s data ls) (nd : NdF D.files) {pre post : List FileC} {f : FileC} (hf : D.files = pre ++ f :: post) (hd : D.dir (bl s) = some f.b) : f.data = data ∧ f.lasts = ls := by
  obtain ⟨g, g1, g2, g3, g4⟩ := h.file
  have e1 := fileD_of nd hf
  rw [Option.some.inj (hd.symm.trans g1), g2] at e1
  obtain rfl := Option.some.inj e1
  exact ⟨g3, g4⟩
theorem Has.append (h : Has D s data ls) (nd : NdF D.files) {r : ByteArray} (hr : AppendR D s r 0 D') : Has D' s (data ++ bl r) ls ∧ D'.last = D.last ∧ D'.waits = D.waits ∧ D'.dir = D.dir := by
  obtain ⟨pre, f, post, da, dc, hf, hd, rfl⟩ := StepE.zero hr
  obtain ⟨h1, h2⟩ := h.same nd hf hd
  exact ⟨⟨h.fused, h.room, { f with data := f.data ++ bl r, da := da, dc := dc }, hd, fileD_upd (f := f) nd hf rfl rfl, by rw [h1], h2⟩, rfl, rfl, rfl⟩
theorem Has.sync (h : Has D s data ls) (nd : NdF D.files) (hr : SyncR D s 0 D') : Has D' s data data.length := by
  obtain ⟨pre, f, post, hf, hd, rfl⟩ := StepE.zero hr
  obtain ⟨h1, h2⟩ := h.same nd hf hd
  exact ⟨h.fused, h.room, { f with lasts := f.data.length }, hd, fileD_upd (f := f) nd hf rfl rfl, h1, by rw [h1]⟩
theorem Has.dirR (h : Has D s data ls) (hr : DirR D 0 D') : Has D' s data ls ∧ D'.last = D'.dir ∧ D'.waits = [] := by
  obtain ⟨lb, rfl⟩ := StepE.zero hr
  exact ⟨⟨h.fused, h.room, h.file⟩, rfl, rfl⟩
theorem Has.more (h : Has D s data ls) (nd : NdF D.files) {r : ByteArray} (hr : AppendR D s r e D') : ((e = 0 ∧ Has D' s (data ++ bl r) ls) ∨ (e ≠ 0 ∧ Has D' s data ls)) ∧ D'.last = D.last ∧ D'.waits = D.waits ∧ D'.dir = D.dir := by
  have hr0 := hr
  rcases hr with ⟨h1, rfl, rfl⟩ | ⟨_, hb, _⟩ | ⟨_, _, rfl, _⟩
  · exact ⟨.inr ⟨h1, h⟩, rfl, rfl, rfl⟩
  · have := hb.1
    rw [h.fused] at this
    cases this
  · have := h.append nd hr0
    exact ⟨.inl ⟨rfl, this.1⟩, this.2⟩
theorem Has.crash (h : Has D s data ls) (hn : nameB s = true) (nd : NdF D.files) (nd' : NdF D'.files) (hls : ls ≤ data.length) (hl : D.last = D.dir) (hw : D.waits = []) {dir : Int} {keeps : List Int} {gs : List FileC} (hr : CrashR D dir keeps gs D') :
    ∃ k, ls ≤ k ∧ k ≤ data.length ∧ readE D' s = (sof (data.take k), 0) := by
  obtain ⟨f, f1, f2, rfl, rfl⟩ := h.file
  have hlast : lastD D dir (bl s) = some f.b := by
    unfold lastD
    rw [hw, List.take_nil]
    show D.last _ = _
    rw [hl, f1]
  obtain ⟨i, hi, hi', e1, e2⟩ := hr.someF _ _ hlast
  have hg : gs[i] = f := by
    have hm := ((hr.by_num.mem _).1 (List.getElem_mem hi)).1
    obtain ⟨h1, h2⟩ := fileD_mem f2
    exact nd_inj nd hm h1 e1
  have hk := keptN_le (keeps := keeps) (i := i) hls
  refine ⟨keptN keeps i f, hk.1, hk.2, ?_⟩
  have hnm : namedE D' s = (some D'.files[i].b, 0) := by
    unfold namedE
    rw [hr.off, e2]
    have : liveE false [s] = 0 := by unfold liveE; simp [hn]
    rw [this]
    simp
  unfold readE
  rw [hnm, dataD_of e2 (fileD_get nd' hi'), (hr.file i hi hi').2.1, hg]
  simp
end
def xyz : ByteArray := ⟨#[120, 121, 122]⟩
theorem DiskLasts_ok {w : World} (he : NoEnv w) (a : Option Addr) (ops : List OpR) (c : Nat) (g : GL w opL OpQ a ops c) (y : c * Tryd.prog.bytesOf ty.law18_Op ≤ reachBytes) (name : ByteArray) (yn : name.data.toList.length ≤ reachBytes) (data : ByteArray) (yd : data.data.toList.length ≤ reachBytes)
    (dir : Int) (wd : (Lit.int .i64 dir).wf = true) (ka : Option Addr) (keeps : List Int) (kc : Nat) (gk : GL w (intC .i64) (intQ .i64) ka keeps kc) (yk : kc * Tryd.prog.bytesOf ty.int ≤ reachBytes) :
    Calls Tryd.prog f.law18_DiskLasts #[.slice a ops.length c, .string name, .string data, .int .i64 dir, .slice ka keeps.length kc] w (Ret fun v w' => v = .bool true ∧ Below w.heap.size w w') := by
  have hnz : name.size ≤ 9223372036854775807 := by
    rw [← bl_length]
    exact Nat.le_trans yn (by decide)
  obtain ⟨hk, hkc⟩ := ints_arg gk
  apply R.law18_DiskLasts_calls
  unfold R.law18_DiskLasts
  refine (shown_ok w).mono ?_
  rintro _ w1 ⟨_, rfl, rfl, B1⟩
  refine ⟨_, rfl, (made_ok ((ST.start w).grown B1) ops (ops_arg g).1 (ops_arg g).2).mono ?_⟩
  rintro _ w2 ⟨_, rfl, D, rfl, hM, S2⟩
  refine ⟨_, _, rfl, IFB_false (IFB_dec (fun _ => IFB_true ⟨rfl, S2.bel⟩) (fun hdz => (create_ok S2 hM.ok (by omega) name hnz).mono ?_))⟩
  rintro _ w3 ⟨_, rfl, e1, D1, rfl, S3, h1⟩
  have ok1 := CreateR.ok hM.ok h1 (files_nd S3)
  have eb1 : D1.b = D.b := by
    rcases h1 with ⟨_, _, rfl⟩ | ⟨_, _, _, rfl⟩ | ⟨_, _, _, _, _, _, _, _, rfl⟩ <;> rfl
  refine ⟨_, rfl, IFB_ne (fun _ => ⟨rfl, S3.bel⟩) (fun he1 => ?_)⟩
  obtain rfl : e1 = 0 := by omega
  obtain ⟨a1, hnm⟩ := Has.create hM.fused hM.room h1 (files_nd S3)
  rw [← eb1]
  refine (append_ok S3 ok1 (by omega) name data hnz).mono ?_
  rintro _ w4 ⟨_, rfl, e2, D2, rfl, S4, h2⟩
  have ok2 := AppendR.ok ok1 (files_nd S3) h2
  have eb2 : D2.b = D1.b := by
    rcases h2 with ⟨_, _, rfl⟩ | ⟨_, _, _, rfl⟩ | ⟨_, _, _, _, _, _, _, _, _, _, rfl⟩ <;> rfl
  refine ⟨_, rfl, IFB_ne (fun _ => ⟨rfl, S4.bel⟩) (fun he2 => ?_)⟩
  obtain rfl : e2 = 0 := by omega
  obtain ⟨a2, _⟩ := a1.append (files_nd S3) h2
  rw [← eb2]
  refine (sync_ok S4 ok2 (by omega) name hnz).mono ?_
  rintro _ w5 ⟨_, rfl, e3, D3, rfl, S5, h3⟩
  have ok3 := SyncR.ok ok2 h3
  have eb3 : D3.b = D2.b := by
    rcases h3 with ⟨_, _, rfl⟩ | ⟨_, _, _, rfl⟩ | ⟨_, _, _, _, _, _, _, _, rfl⟩ <;> rfl
  refine ⟨_, rfl, IFB_ne (fun _ => ⟨rfl, S5.bel⟩) (fun he3 => ?_)⟩
  obtain rfl : e3 = 0 := by omega
  have a3 := a2.sync (files_nd S4) h3
  rw [← eb3]
  refine (dir_ok S5 ok3 (by omega)).mono ?_
  rintro _ w6 ⟨_, rfl, e4, D4, rfl, S6, h4⟩
  have ok4 := DirR.ok ok3 h4
  have eb4 : D4.b = D3.b := by
    rcases h4 with ⟨_, _, rfl⟩ | ⟨_, _, _, rfl⟩ | ⟨_, _, _, _, rfl⟩ <;> rfl
  refine ⟨_, rfl, IFB_ne (fun _ => ⟨rfl, S6.bel⟩) (fun he4 => ?_)⟩
  obtain rfl : e4 = 0 := by omega
  obtain ⟨a4, hl4, hw4⟩ := a3.dirR h4
  rw [← eb4]
  refine (append_ok S6 ok4 (by omega) name xyz hnz).mono ?_
  rintro _ w7 ⟨_, rfl, e5, D5, rfl, S7, h5⟩
  have ok5 := AppendR.ok ok4 (files_nd S6) h5
  have eb5 : D5.b = D4.b := by
    rcases h5 with ⟨_, _, rfl⟩ | ⟨_, _, _, rfl⟩ | ⟨_, _, _, _, _, _, _, _, _, _, rfl⟩ <;> rfl
  obtain ⟨a5, l5, v5, d5⟩ := a4.more (files_nd S6) h5
  refine ⟨_, rfl, ?_⟩
  rw [← eb5]
  refine (crash_ok S7 ok5 (by omega) dir keeps (fun w' S' => hk.grown S'.bel) hkc).mono ?_
  rintro _ w8 ⟨_, rfl, gs, D6, rfl, S8, h6⟩
  have ok6 := CrashR.ok ok5 (files_nd S8) h6
  have nd5 : NdF D5.files := files_nd S7
  have hlast : D5.last = D5.dir := by rw [l5, d5, hl4]
  have hw5 : D5.waits = [] := by rw [v5, hw4]
  have e0 : (([] : List UInt8) ++ bl data) = bl data := rfl
  rw [e0] at a5
  have key : ∃ (r : List UInt8), readE D6 name = (sof (bl data ++ r), 0) ∧ (r = [] ∨ (e5 = 0 ∧ ∃ k, k ≤ 3 ∧ r = (bl xyz).take k)) := by
    rcases a5 with ⟨rfl, a5⟩ | ⟨_, a5⟩
    · obtain ⟨k, k1, k2, hre⟩ := a5.crash hnm nd5 (files_nd S8) (by simp) hlast hw5 h6
      rw [List.take_append, List.take_of_length_le k1] at hre
      exact ⟨_, hre, .inr ⟨rfl, k - (bl data).length, by rw [List.length_append] at k2; have : (bl xyz).length = 3 := rfl; omega, rfl⟩⟩
    · obtain ⟨k, k1, k2, hre⟩ := a5.crash hnm nd5 (files_nd S8) (Nat.le_refl _) hlast hw5 h6
      rw [List.take_of_length_le k1] at hre
      exact ⟨[], by rw [List.append_nil]; exact hre, .inl rfl⟩
  obtain ⟨r, hre, hr⟩ := key
  refine ⟨_, rfl, (read_ok S8 ok6 name hnz).mono ?_⟩
  rintro _ w9 ⟨_, rfl, rfl, S9⟩
  rw [hre]
  have hsz : (sof (bl data ++ r)).size = data.size + r.length := by rw [← bl_length, bl_sof, List.length_append, bl_length]
  have hx1 : (sof (bl data ++ r)).extract 0 data.size = data := bl_inj (by rw [bl_extract, bl_sof, List.drop_zero, Nat.sub_zero, ← bl_length, List.take_left])
  have hx2 : (sof (bl data ++ r)).extract data.size (sof (bl data ++ r)).size = sof r := bl_inj (by rw [bl_extract, bl_sof, bl_sof, hsz, ← bl_length, List.drop_left, List.take_of_length_le (by omega)])
  refine ⟨_, _, rfl, IFB_ne (fun h => absurd rfl h) (fun _ => IFB_dec (fun h => ?_) (fun _ => ⟨⟨by omega, by omega, ?_⟩, ?_⟩))⟩
  · have h : ((sof (bl data ++ r)).size : Int) < (data.size : Int) := h
    rw [hsz] at h
    omega
  · show (data.size : Int) ≤ ((sof (bl data ++ r)).size : Int)
    rw [hsz]
    omega
  show IFB (!bytesEq ((sof (bl data ++ r)).extract 0 data.size) data) _ _
  rw [hx1, bytesEq_iff, decide_eq_true rfl]
  refine IFB_false ⟨⟨by omega, ?_, by omega⟩, IFB_true ?_⟩
  · show (data.size : Int) ≤ ((sof (bl data ++ r)).size : Int)
    rw [hsz]
    omega
  show IFB (bytesEq ((sof (bl data ++ r)).extract data.size (sof (bl data ++ r)).size) ⟨#[]⟩) _ _
  rw [hx2]
  have hrs : (sof r).size = r.length := by rw [← bl_length, bl_sof]
  refine IFB_of (fun _ => ⟨rfl, S9.bel⟩) (fun hne => ?_)
  rcases hr with rfl | ⟨rfl, k, hk3, rfl⟩
  · exfalso
    rw [bytesEq_iff] at hne
    exact absurd hne (by decide)
  · have hkl : ((bl xyz).take k).length = k := by rw [List.length_take]; have : (bl xyz).length = 3 := rfl; omega
    refine IFB_eq (fun _ => ?_) (fun h => absurd rfl h)
    rw [hkl] at hrs
    have hmin : (if (3 : Int) < (((sof ((bl xyz).take k)).size : Nat) : Int) then 3 else (((sof ((bl xyz).take k)).size : Nat) : Int)) = (k : Int) := by rw [hrs]; split <;> omega
    rw [hmin]
    refine ⟨⟨by omega, by omega, by show (k : Int) ≤ 3; omega⟩, ?_, S9.bel⟩
    rw [bytesEq_iff]
    refine congrArg Value.bool (decide_eq_true ?_)
    refine bl_inj ?_
    rw [bl_sof, bl_extract, List.drop_zero, Nat.sub_zero, Int.toNat_natCast]
    rfl
end Go.Proofs.YtfgbfodohmeamaaDoor
