/-
  Texts of this claim, laid one behind the other by a program of mine (install.py): K.Rf4, K.Lw1, K.Lw2, K.Lw3, K.Lw4, K.Lw5, Dn.Open, K.DkArg.
-/
import Derived.Test.YtfgbfodohmeamaaGreatDoorM4
import Derived.Test.YtfgbfodohmeamaaGreatDoorM3
import Derived.ChangeArms
import Derived.Deep.Slices
import Derived.OpenShut
namespace Go.Proofs.YtfgbfodohmeamaaGreatDoor
set_option maxRecDepth 100000
open Go.Dn Go.Proofs
open Go.RowKit (Below)
set_option linter.unusedVariables false
theorem flat_set (ns : List NmR) (i : Nat) (hi : i < ns.length) (p : NmR) (j : Nat) (v : Value) (hj : j < 2) (hp : (nmC ns[i]).set j v = nmC p) : (ns.flatMap nmC).set (i * 2 + j) v = (ns.set i p).flatMap nmC := by
  induction ns generalizing i with
  | nil => simp at hi
  | cons n ns ih =>
    cases i with
    | zero =>
      simp only [List.flatMap_cons, Nat.zero_mul, Nat.zero_add, List.set_cons_zero, List.getElem_cons_zero] at hp ⊢
      rw [List.set_append_left _ _ (by rw [nmC_len]; exact hj), hp]
    | succ i =>
      simp only [List.flatMap_cons, List.set_cons_succ, List.getElem_cons_succ] at hp ⊢
      rw [List.set_append_right _ _ (by rw [nmC_len]; omega), nmC_len, show (i + 1) * 2 + j - 2 = i * 2 + j by omega, ih i (by simpa using hi) hp]
section
variable {w0 w : World} {G : RefC} {E H : List It} {m : Nat}
theorem sto_nm (S : ST w0 w H) (n : Nat) {e : TypeId} {g c : Nat} {ns : List NmR} (hn : H[n]? = some (It.row e 2 (some ⟨g, 0, none⟩) ns.length c (ns.flatMap nmC))) {i : Nat} (hi : i < ns.length) (p : NmR) (j : Nat) (v : Value) (hj : j < 2) (hp : (nmC ns[i]).set j v = nmC p) {k : World → Prop}
    (hk : ∀ w', ST w0 w' (H.set n (It.row e 2 (some ⟨g, 0, none⟩) (ns.set i p).length c ((ns.set i p).flatMap nmC))) → k w') : STO ⟨g, i * 2 + j, none⟩ v k w := by
  refine Row.sto (S.rw n hn) (by omega) fun w' hr K => hk w' (S.chg n hn (K.mono fun k _ h => by subst h; rfl) _ ?_ (fun k hk => .inl hk))
  rw [List.length_set, ← flat_set ns i hi p j v hj hp]
  exact hr
theorem row_blk {e : TypeId} {a : Option Addr} {c : Nat} {ns : List NmR} (h : Row w e 2 a ns.length c (ns.flatMap nmC)) (hn : 0 < ns.length) : ∃ g, a = some ⟨g, 0, none⟩ := by
  rcases h.2 with ⟨_, h0, _⟩ | ⟨g, _, h1, _⟩
  · omega
  · exact ⟨g, h1⟩
theorem RefOk.setFile (hR : RefOk G m) {i : Nat} {p : NmR} (hp : p.1.size ≤ 1000 * (m + 1)) : RefOk { G with files := G.files.set i p } (m + 1) :=
  ⟨by simp; exact Nat.le_succ_of_le hR.fn, Nat.le_succ_of_le hR.dn, Nat.le_succ_of_le hR.wn, fun q hq => by simp; exact hR.num q hq, fun q hq => by
    rcases List.mem_or_eq_of_mem_set hq with h | rfl
    · exact Nat.le_trans (hR.size q h) (by omega)
    · exact hp⟩
theorem rappend_ok (S : ST w0 w (refE G E)) (hR : RefOk G m) (hm : m < 900000) (s data : ByteArray) (hs : s.size ≤ 9223372036854775807) (hd : data.size ≤ 1000) : Calls Tryz.prog f.ref18_Disk_Append #[ptrV G.b, .string s, .string data] w (Ret fun v w' => ROut w0 G E m v w') := by
  apply R.ref18_Disk_Append_calls
  unfold R.ref18_Disk_Append
  have hdn := hR.dn
  have hfn := hR.fn
  refine (rmet_ok S hR hm s hs true).mono ?_
  rintro _ w1 ⟨_, rfl, ⟨e, rfl, he⟩, rfl⟩
  refine ⟨_, rfl, IFB_ne (fun _ => rstay S hR e) (fun h0 => (rfree_ok S hR hm).mono ?_)⟩
  have hf0 := he h0 rfl
  rintro _ w2 ⟨_, rfl, ⟨e2, rfl⟩, S2⟩
  refine ⟨_, rfl, IFB_dec (fun _ => rstay S2 hR 181) (fun _ => (rmay_ok (S2.cell 0 rfl rfl)).mono ?_)⟩
  rintro _ w3 ⟨_, rfl, rfl, rfl⟩
  refine ⟨_, rfl, IFB_eq (fun _ => ⟨_, _, _, S2.cell 0 rfl rfl, (rfile_ok (S2.rd 2 rfl) (by omega) s).mono ?_⟩) (fun h => absurd rfl h)⟩
  rintro _ w4 ⟨_, rfl, rfl, rfl⟩
  refine ⟨_, rfl, S2.draw fun w5 _ S5 => ⟨_, _, _, S5.cell 0 rfl rfl, _, _, _, S5.cell 0 rfl rfl, ?_⟩⟩
  obtain ⟨h1, h2⟩ : 1 ≤ fileN G.dir s ∧ fileN G.dir s ≤ G.files.length := by
    rcases fileN_mem G.dir s with h | ⟨q, hq, h⟩
    · exact absurd h hf0
    · rw [h]; exact hR.num q hq
  generalize fileN G.dir s = k at h1 h2
  have hil : k - 1 < G.files.length := by omega
  have ew : IntKind.i64.wrap ((k : Int) - 1) = ((k - 1 : Nat) : Int) := by rw [wrap_i64 (by omega) (by omega)]; omega
  rw [ew]
  obtain ⟨g, hg⟩ := row_blk (S5.rw 1 rfl) (by omega)
  obtain ⟨q, hq, hc⟩ := row_at nmC_len (by omega) (S5.rd 1 rfl) hil
  rw [hg] at hq
  cases hq
  have hz := hR.size _ (List.getElem_mem hil)
  rw [hg]
  refine ⟨⟨by omega, by omega⟩, _, by rw [Int.toNat_natCast]; exact hc 0 _ rfl, by omega, ⟨by omega, by omega⟩, ?_⟩
  have hrow : (refE G E)[1]? = some (It.row ty.ref18_File 2 (some ⟨g, 0, none⟩) G.files.length G.lc (G.files.flatMap nmC)) := by rw [← hg]; rfl
  have ea : (⟨g, 0, none⟩ : Addr).add (((k - 1 : Nat) : Int).toNat * 2) = ⟨g, (k - 1) * 2 + 0, none⟩ := by rw [addr_add_blk, Int.toNat_natCast]; simp
  show STO ((⟨g, 0, none⟩ : Addr).add (((k - 1 : Nat) : Int).toNat * 2)) _ _ _
  rw [ea]
  refine sto_nm S5 1 hrow hil (G.files[k - 1].1 ++ data, G.files[k - 1].2) 0 _ (by omega) rfl fun w6 S6 => ⟨⟨_, rfl⟩, { G with files := G.files.set (k - 1) (G.files[k - 1].1 ++ data, G.files[k - 1].2) }, rfl, hR.setFile (by show (G.files[k - 1].1 ++ data).size ≤ _; rw [ByteArray.size_append]; omega), ?_⟩
  have : ({ G with files := G.files.set (k - 1) (G.files[k - 1].1 ++ data, G.files[k - 1].2) } : RefC).cells = G.cells := by simp [RefC.cells]
  unfold refE
  rw [this]
  show ST w0 w6 (_ :: It.row ty.ref18_File 2 G.la _ G.lc _ :: _)
  rw [hg]
  exact S6
theorem rsync_ok (S : ST w0 w (refE G E)) (hR : RefOk G m) (hm : m < 900000) (s : ByteArray) (hs : s.size ≤ 9223372036854775807) : Calls Tryz.prog f.ref18_Disk_Sync #[ptrV G.b, .string s] w (Ret fun v w' => ROut w0 G E m v w') := by
  apply R.ref18_Disk_Sync_calls
  unfold R.ref18_Disk_Sync
  have hdn := hR.dn
  have hfn := hR.fn
  refine (rmet_ok S hR hm s hs true).mono ?_
  rintro _ w1 ⟨_, rfl, ⟨e, rfl, he⟩, rfl⟩
  refine ⟨_, rfl, IFB_ne (fun _ => rstay S hR e) (fun h0 => (rmay_ok (S.cell 0 rfl rfl)).mono ?_)⟩
  have hf0 := he h0 rfl
  rintro _ w3 ⟨_, rfl, rfl, rfl⟩
  refine ⟨_, rfl, IFB_eq (fun _ => ⟨_, _, _, S.cell 0 rfl rfl, (rfile_ok (S.rd 2 rfl) (by omega) s).mono ?_⟩) (fun h => absurd rfl h)⟩
  rintro _ w4 ⟨_, rfl, rfl, rfl⟩
  refine ⟨_, rfl, S.draw fun w5 _ S5 => ⟨_, _, _, S5.cell 0 rfl rfl, _, _, _, S5.cell 0 rfl rfl, ?_⟩⟩
  obtain ⟨h1, h2⟩ : 1 ≤ fileN G.dir s ∧ fileN G.dir s ≤ G.files.length := by
    rcases fileN_mem G.dir s with h | ⟨q, hq, h⟩
    · exact absurd h hf0
    · rw [h]; exact hR.num q hq
  generalize fileN G.dir s = k at h1 h2
  have hil : k - 1 < G.files.length := by omega
  have ew : IntKind.i64.wrap ((k : Int) - 1) = ((k - 1 : Nat) : Int) := by rw [wrap_i64 (by omega) (by omega)]; omega
  rw [ew]
  obtain ⟨g, hg⟩ := row_blk (S5.rw 1 rfl) (by omega)
  obtain ⟨q, hq, hc⟩ := row_at nmC_len (by omega) (S5.rd 1 rfl) hil
  rw [hg] at hq
  cases hq
  have hz := hR.size _ (List.getElem_mem hil)
  rw [hg]
  refine ⟨⟨by omega, by omega⟩, _, by rw [Int.toNat_natCast]; exact hc 0 _ rfl, ⟨by omega, by omega⟩, ?_⟩
  have hrow : (refE G E)[1]? = some (It.row ty.ref18_File 2 (some ⟨g, 0, none⟩) G.files.length G.lc (G.files.flatMap nmC)) := by rw [← hg]; rfl
  have ea : ((⟨g, 0, none⟩ : Addr).add (((k - 1 : Nat) : Int).toNat * 2)).add 1 = ⟨g, (k - 1) * 2 + 1, none⟩ := by rw [addr_add_add, addr_add_blk, Int.toNat_natCast]; simp
  show STO (((⟨g, 0, none⟩ : Addr).add (((k - 1 : Nat) : Int).toNat * 2)).add 1) _ _ _
  rw [ea]
  refine sto_nm S5 1 hrow hil (G.files[k - 1].1, G.files[k - 1].1.size) 1 _ (by omega) rfl fun w6 S6 => ⟨⟨_, rfl⟩, { G with files := G.files.set (k - 1) (G.files[k - 1].1, G.files[k - 1].1.size) }, rfl, hR.setFile (by show G.files[k - 1].1.size ≤ _; omega), ?_⟩
  have : ({ G with files := G.files.set (k - 1) (G.files[k - 1].1, G.files[k - 1].1.size) } : RefC).cells = G.cells := by simp [RefC.cells]
  unfold refE
  rw [this]
  show ST w0 w6 (_ :: It.row ty.ref18_File 2 G.la _ G.lc _ :: _)
  rw [hg]
  exact S6
theorem rsyncDir_ok (S : ST w0 w (refE G E)) (hR : RefOk G m) : Calls Tryz.prog f.ref18_Disk_SyncDir #[ptrV G.b] w (Ret fun v w' => ROut w0 G E m v w') := by
  apply R.ref18_Disk_SyncDir_calls
  unfold R.ref18_Disk_SyncDir
  refine ⟨_, S.cell 0 rfl rfl, IFB_false ((rmay_ok (S.cell 0 rfl rfl)).mono ?_)⟩
  rintro _ w3 ⟨_, rfl, rfl, rfl⟩
  refine ⟨_, rfl, IFB_eq (fun _ => ⟨_, _, _, S.cell 0 rfl rfl, ?_⟩) (fun h => absurd rfl h)⟩
  show STO ⟨G.b, 3, none⟩ (.slice G.da G.dir.length G.dc) (fun w2 => STO ⟨G.b, 4, none⟩ (.slice none 0 0) (fun w3 => ROut w0 G E m (.int .i64 0) w3) w2) _
  refine S.sto 0 rfl (i := 3) (v := .slice G.da G.dir.length G.dc) (cs' := RefC.cells { G with xa := G.da, xl := G.dir.length, xc := G.dc }) (r7 (n := 3) (by decide)) rfl fun w1 S1 => ?_
  refine S1.sto 0 rfl (i := 4) (v := .slice none 0 0) (cs' := RefC.cells { G with xa := G.da, xl := G.dir.length, xc := G.dc, wa := none, wc := 0, waits := [] }) (r7 (G := { G with xa := G.da, xl := G.dir.length, xc := G.dc }) (n := 4) (by decide)) rfl fun w2 S2 => ?_
  refine ⟨⟨_, rfl⟩, { G with xa := G.da, xl := G.dir.length, xc := G.dc, wa := none, wc := 0, waits := [] }, rfl, ⟨Nat.le_succ_of_le hR.fn, Nat.le_succ_of_le hR.dn, Nat.zero_le _, hR.num, fun p hp => Nat.le_trans (hR.size p hp) (by omega)⟩, ?_⟩
  have S3 := S2.nil ty.ref18_Change 3
  have S4 : ST w0 w2 (It.row ty.ref18_Change 3 none 0 0 [] :: It.cells G.b (RefC.cells { G with xa := G.da, xl := G.dir.length, xc := G.dc, wa := none, wc := 0, waits := [] }) ty.ref18_Disk :: It.row ty.ref18_File 2 G.la G.files.length G.lc (G.files.flatMap nmC) :: It.row ty.ref18_Name 2 G.da G.dir.length G.dc (G.dir.flatMap nmC) :: E) :=
    S3.sub ((((List.Sublist.cons _ (List.Sublist.refl _)).cons_cons _).cons_cons _).cons_cons _ |>.cons_cons _)
  exact (((S4.pull 3 rfl).pull 3 rfl).pull 3 rfl)
end
structure Calm (D D' : DiskC) : Prop where
  b : D'.b = D.b
  off : D'.off = D.off
  fused : D'.fused = D.fused
  room : D'.room = D.room
theorem StepE.calm {D D' : DiskC} {e pre : Int} {ok : DiskC → Prop} (h : StepE D e D' pre ok) (hf : D.fused = false) (hok : ok D' → Calm D D') : Calm D D' := by
  rcases h with ⟨_, _, rfl⟩ | ⟨_, hb, _⟩ | ⟨_, _, _, h⟩
  · exact ⟨rfl, rfl, rfl, rfl⟩
  · have := hb.1; rw [hf] at this; cases this
  · exact hok h
section
variable {D D' : DiskC} {e : Int}
theorem CreateR.calm {s : ByteArray} (h : CreateR D s e D') (hf : D.fused = false) : Calm D D' := StepE.calm h hf (by rintro ⟨_, _, _, _, _, rfl⟩; exact ⟨rfl, rfl, rfl, rfl⟩)
theorem AppendR.calm {s d : ByteArray} (h : AppendR D s d e D') (hf : D.fused = false) : Calm D D' := StepE.calm h hf (by rintro ⟨_, _, _, _, _, _, _, rfl⟩; exact ⟨rfl, rfl, rfl, rfl⟩)
theorem RenameR.calm {o s : ByteArray} (h : RenameR D o s e D') (hf : D.fused = false) : Calm D D' := StepE.calm h hf (by rintro ⟨_, _, _, _, _, _, _, rfl⟩; exact ⟨rfl, rfl, rfl, rfl⟩)
theorem RemoveR.calm {s : ByteArray} (h : RemoveR D s e D') (hf : D.fused = false) : Calm D D' := StepE.calm h hf (by rintro ⟨_, _, _, rfl⟩; exact ⟨rfl, rfl, rfl, rfl⟩)
theorem SyncR.calm {s : ByteArray} (h : SyncR D s e D') (hf : D.fused = false) : Calm D D' := StepE.calm h hf (by rintro ⟨_, _, _, _, _, rfl⟩; exact ⟨rfl, rfl, rfl, rfl⟩)
theorem DirR.calm (h : DirR D e D') (hf : D.fused = false) : Calm D D' := StepE.calm h hf (by rintro ⟨_, rfl⟩; exact ⟨rfl, rfl, rfl, rfl⟩)
end
def kindN (k : Int) : Int := Int.tmod (IntKind.i64.wrap (Int.tmod k 9 + 9)) 9
theorem kindN_lo (k : Int) : 0 ≤ kindN k := by
  unfold kindN
  have h1 := Int.tmod_lt_of_pos k (show (0 : Int) < 9 by omega)
  have h2 : -9 < Int.tmod k 9 := by have := Int.lt_tmod_of_pos k (show (0 : Int) < 9 by omega); omega
  rw [wrap_i64 (by omega) (by omega)]
  exact Int.tmod_nonneg _ (by omega)
def opC (k : Int) (name s : ByteArray) (n : Int) (ka : Option Addr) (kl kc : Nat) : Array Value := #[.int .i64 k, .string name, .string s, .int .i64 n, .slice ka kl kc]
structure Pair (D : DiskC) (G : RefC) (m : Nat) : Prop where
  d : DiskOk D (2 * m)
  g : RefOk G m
  off : D.off = false
  fused : D.fused = false
  room : D.room = 5000
section
variable {w0 w : World} {D : DiskC} {G : RefC} {E H : List It} {m : Nat}
theorem f12 {D : DiskC} {G : RefC} {x y : It} {E : List It} : (dkE D (refE G (x :: y :: E))).Perm (refE G (x :: y :: dkE D E)) := dkE_perm D (refE G [x, y]) E
theorem does_ok {pb : Nat} {t : TypeId} (S : ST w0 w (refE G (It.cells pb #[ptrV D.b, ptrV G.b] ty.law18_pair :: dkE D E))) (hP : Pair D G m) (hm : m ≤ 1000) (k : Int) (name s : ByteArray) (n : Int) (ka : Option Addr) (kl kc : Nat) (hk : kindN k < 6) (hn : name.size ≤ 9223372036854775807) (hs : s.size ≤ 1000) :
    Calls Tryz.prog f.law18_pair_does #[ptrV pb, .agg (opC k name s n ka kl kc)] w (Ret fun v w' => (∃ b : Bool, v = .bool b) ∧ ∃ D' G', D'.b = D.b ∧ G'.b = G.b ∧ Pair D' G' (m + 1) ∧ ST w0 w' (refE G' (It.cells pb #[ptrV D.b, ptrV G.b] ty.law18_pair :: dkE D' E))) := by
  apply R.law18_pair_does_calls
  unfold R.law18_pair_does
  have hk0 := kindN_lo k
  refine S.newB fun b7 w1 _ _ S1 => ⟨_, S1.cell 0 rfl rfl, ?_⟩
  have S1 : ST w0 w1 (refE G (It.cells b7 (opC k name s n ka kl kc) ty.law18_Op :: It.cells pb #[ptrV D.b, ptrV G.b] ty.law18_pair :: dkE D E)) := (((S1.pull 4 rfl).pull 4 rfl).pull 4 rfl).pull 4 rfl
  have hD := hP.d
  have fin : ∀ {b : Bool} {D' : DiskC} {w' : World}, DiskOk D' (2 * m + 2) → Calm D D' → ∀ G' : RefC, G'.b = G.b → RefOk G' (m + 1) → ST w0 w' (refE G' (It.cells b7 (opC k name s n ka kl kc) ty.law18_Op :: It.cells pb #[ptrV D.b, ptrV G.b] ty.law18_pair :: dkE D' E)) →
      (∃ b' : Bool, Value.bool b = .bool b') ∧ ∃ D' G', D'.b = D.b ∧ G'.b = G.b ∧ Pair D' G' (m + 1) ∧ ST w0 w' (refE G' (It.cells pb #[ptrV D.b, ptrV G.b] ty.law18_pair :: dkE D' E)) := fun {b D' w'} h1 h2 G' h3 h4 S' =>
    ⟨⟨b, rfl⟩, D', G', h2.b, h3, ⟨h1, h4, h2.off.trans hP.off, h2.fused.trans hP.fused, h2.room.trans hP.room⟩, S'.sub ((((List.Sublist.cons _ (List.Sublist.refl _)).cons_cons _).cons_cons _).cons_cons _ |>.cons_cons _)⟩
  show IFB (kindN k == 0) _ (IFB (kindN k == 1) _ (IFB (kindN k == 2) _ (IFB (kindN k == 3) _ (IFB (kindN k == 4) _ (IFB (kindN k == 5) _ (IFB (kindN k == 6) _ (IFB (kindN k == 7) _ _)))))))
  refine IFB_eq (fun _ => ?_) (fun h0 => ?_)
  · refine S1.draw fun w2 _ S2 => ⟨_, S2.cell 5 rfl rfl, _, S2.cell 4 rfl rfl, _, S2.cell 5 rfl rfl, _, S2.cell 4 rfl rfl, (create_ok (S2.perm f12.symm) hD (by omega) name hn).mono ?_⟩
    rintro _ w3 ⟨_, rfl, e, D', rfl, S3, hr⟩
    have ok' := CreateR.ok hD hr (files_nd S3)
    have S4 := S3.perm f12
    refine ⟨_, rfl, S4.cell 4 rfl rfl, S4.cell 5 rfl rfl, (rcreate_ok S4 hP.g (by omega) name hn).mono ?_⟩
    rintro _ w4 ⟨_, rfl, ⟨e2, rfl⟩, G', hG, hR, S5⟩
    exact ⟨_, rfl, fin ok' (hr.calm hP.fused) G' hG hR S5⟩
  refine IFB_eq (fun _ => ?_) (fun h1 => ?_)
  · refine S1.draw fun w2 _ S2 => ⟨_, S2.cell 5 rfl rfl, _, S2.cell 4 rfl rfl, _, S2.cell 4 rfl rfl, _, S2.cell 5 rfl rfl, _, S2.cell 4 rfl rfl, _, S2.cell 4 rfl rfl, (append_ok (S2.perm f12.symm) hD (by omega) name s hn).mono ?_⟩
    rintro _ w3 ⟨_, rfl, e, D', rfl, S3, hr⟩
    have ok' := AppendR.ok hD (files_nd (S2.perm f12.symm)) hr
    have S4 := S3.perm f12
    refine ⟨_, rfl, S4.cell 4 rfl rfl, S4.cell 4 rfl rfl, S4.cell 5 rfl rfl, (rappend_ok S4 hP.g (by omega) name s hn hs).mono ?_⟩
    rintro _ w4 ⟨_, rfl, ⟨e2, rfl⟩, G', hG, hR, S5⟩
    exact ⟨_, rfl, fin ok' (hr.calm hP.fused) G' hG hR S5⟩
  refine IFB_eq (fun _ => ?_) (fun h2 => ?_)
  · refine S1.draw fun w2 _ S2 => ⟨_, S2.cell 5 rfl rfl, _, S2.cell 4 rfl rfl, _, S2.cell 4 rfl rfl, _, S2.cell 5 rfl rfl, _, S2.cell 4 rfl rfl, _, S2.cell 4 rfl rfl, (rename_ok (S2.perm f12.symm) hD (by omega) name s hn (by omega)).mono ?_⟩
    rintro _ w3 ⟨_, rfl, e, D', rfl, S3, hr⟩
    have ok' := RenameR.ok hD hr
    have S4 := S3.perm f12
    refine ⟨_, rfl, S4.cell 4 rfl rfl, S4.cell 4 rfl rfl, S4.cell 5 rfl rfl, (rrename_ok S4 hP.g (by omega) name s hn (by omega)).mono ?_⟩
    rintro _ w4 ⟨_, rfl, ⟨e2, rfl⟩, G', hG, hR, S5⟩
    exact ⟨_, rfl, fin ok' (hr.calm hP.fused) G' hG hR S5⟩
  refine IFB_eq (fun _ => ?_) (fun h3 => ?_)
  · refine S1.draw fun w2 _ S2 => ⟨_, S2.cell 5 rfl rfl, _, S2.cell 4 rfl rfl, _, S2.cell 5 rfl rfl, _, S2.cell 4 rfl rfl, (remove_ok (S2.perm f12.symm) hD (by omega) name hn).mono ?_⟩
    rintro _ w3 ⟨_, rfl, e, D', rfl, S3, hr⟩
    have ok' := RemoveR.ok hD hr
    have S4 := S3.perm f12
    refine ⟨_, rfl, S4.cell 4 rfl rfl, S4.cell 5 rfl rfl, (rremove_ok S4 hP.g (by omega) name hn).mono ?_⟩
    rintro _ w4 ⟨_, rfl, ⟨e2, rfl⟩, G', hG, hR, S5⟩
    exact ⟨_, rfl, fin ok' (hr.calm hP.fused) G' hG hR S5⟩
  refine IFB_eq (fun _ => ?_) (fun h4 => ?_)
  · refine S1.draw fun w2 _ S2 => ⟨_, S2.cell 5 rfl rfl, _, S2.cell 4 rfl rfl, _, S2.cell 5 rfl rfl, _, S2.cell 4 rfl rfl, (sync_ok (S2.perm f12.symm) hD (by omega) name hn).mono ?_⟩
    rintro _ w3 ⟨_, rfl, e, D', rfl, S3, hr⟩
    have ok' := SyncR.ok hD hr
    have S4 := S3.perm f12
    refine ⟨_, rfl, S4.cell 4 rfl rfl, S4.cell 5 rfl rfl, (rsync_ok S4 hP.g (by omega) name hn).mono ?_⟩
    rintro _ w4 ⟨_, rfl, ⟨e2, rfl⟩, G', hG, hR, S5⟩
    exact ⟨_, rfl, fin ok' (hr.calm hP.fused) G' hG hR S5⟩
  refine IFB_eq (fun _ => ?_) (fun h5 => ?_)
  · refine S1.draw fun w2 _ S2 => ⟨_, S2.cell 5 rfl rfl, _, S2.cell 5 rfl rfl, (dir_ok (S2.perm f12.symm) hD (by omega) ).mono ?_⟩
    rintro _ w3 ⟨_, rfl, e, D', rfl, S3, hr⟩
    have ok' := DirR.ok hD hr
    have S4 := S3.perm f12
    refine ⟨_, rfl, S4.cell 5 rfl rfl, (rsyncDir_ok S4 hP.g).mono ?_⟩
    rintro _ w4 ⟨_, rfl, ⟨e2, rfl⟩, G', hG, hR, S5⟩
    exact ⟨_, rfl, fin ok' (hr.calm hP.fused) G' hG hR S5⟩
  exact IFB_eq (fun h => by omega) (fun h6 => IFB_eq (fun h => by omega) (fun h7 => by omega))
theorem small_ok (S : ST w0 w H) (k : Int) (name s : ByteArray) (n : Int) (ka : Option Addr) (kl kc : Nat) : Calls Tryz.prog f.law18_small #[.agg (opC k name s n ka kl kc)] w (Ret fun v w' => (∃ s', s'.size ≤ 300 ∧ v = .agg (opC k name s' n ka kl kc)) ∧ ST w0 w' H) := by
  apply R.law18_small_calls
  unfold R.law18_small
  refine S.newB fun b6 w1 _ _ S1 => S1.newB fun b7 w2 _ _ S2 => ?_
  refine ⟨_, S2.cell 1 rfl rfl, _, S2.cell 1 rfl rfl, ?_⟩
  have hb : 0 ≤ (if (300 : Int) < (s.size : Int) then 300 else (s.size : Int)) ∧ (if (300 : Int) < (s.size : Int) then 300 else (s.size : Int)) ≤ (s.size : Int) ∧ (if (300 : Int) < (s.size : Int) then 300 else (s.size : Int)) ≤ 300 := by split <;> omega
  refine ⟨⟨by omega, hb.1, hb.2.1⟩, ?_⟩
  generalize hq : (if (300 : Int) < (s.size : Int) then 300 else (s.size : Int)) = q at hb
  have hz : (s.extract 0 q.toNat).size ≤ 300 := by rw [ByteArray.size_extract]; omega
  generalize s.extract 0 q.toNat = s' at hz
  refine S2.sto 1 rfl (cs' := opC k name s' n ka kl kc) (by show 2 < 5; decide) rfl fun w3 S3 => ?_
  refine ⟨_, S3.cell 1 rfl rfl, _, S3.cell 1 rfl rfl, _, S3.cell 1 rfl rfl, _, S3.cell 1 rfl rfl, _, _, _, S3.cell 1 rfl rfl, ?_⟩
  refine S3.sto 0 rfl (cs' := #[.int .i64 k, .string ⟨#[]⟩, .string ⟨#[]⟩, .int .i64 0, .slice none 0 0]) (by decide) rfl fun w4 S4 => ?_
  refine S4.sto 0 rfl (cs' := #[.int .i64 k, .string name, .string ⟨#[]⟩, .int .i64 0, .slice none 0 0]) (by show 1 < 5; decide) rfl fun w5 S5 => ?_
  refine S5.sto 0 rfl (cs' := #[.int .i64 k, .string name, .string s', .int .i64 0, .slice none 0 0]) (by show 2 < 5; decide) rfl fun w6 S6 => ?_
  refine S6.sto 0 rfl (cs' := #[.int .i64 k, .string name, .string s', .int .i64 n, .slice none 0 0]) (by show 3 < 5; decide) rfl fun w7 S7 => ?_
  refine S7.sto 0 rfl (cs' := opC k name s' n ka kl kc) (by show 4 < 5; decide) rfl fun w8 S8 => ?_
  exact ⟨_, S8.cell 0 rfl rfl, _, S8.cell 0 rfl rfl, _, S8.cell 0 rfl rfl, _, S8.cell 0 rfl rfl, _, _, _, S8.cell 0 rfl rfl, ⟨s', hz, rfl⟩, S8.drop 2⟩
end
abbrev OpR := Int × ByteArray × ByteArray × Int × Option Addr × Nat × Nat
def opL (o : OpR) : List Value := [.int .i64 o.1, .string o.2.1, .string o.2.2.1, .int .i64 o.2.2.2.1, .slice o.2.2.2.2.1 o.2.2.2.2.2.1 o.2.2.2.2.2.2]
theorem opL_len (o : OpR) : (opL o).length = 5 := rfl
theorem Pair.mono {D : DiskC} {G : RefC} {m n : Nat} (h : Pair D G m) (hn : m ≤ n) : Pair D G n := ⟨h.d.mono (by omega), h.g.mono hn, h.off, h.fused, h.room⟩
structure Made (D : DiskC) : Prop where
  ok : DiskOk D 400
  off : D.off = false
  fused : D.fused = false
  room : D.room = 5000
section
variable {w0 w : World} {E H : List It} {m : Nat}
theorem made_ok (S : ST w0 w H) {a : Option Addr} {c : Nat} (ops : List OpR) (h : Rd w0 a (ops.flatMap opL)) (hz : ∀ o ∈ ops, o.2.1.size ≤ 9223372036854775807) :
    Calls Tryz.prog f.law18_made #[.int .i64 5000, .slice a ops.length c] w (Ret fun v w' => ∃ D, v = .tuple #[ptrV D.b, .bool true] ∧ Made D ∧ ST w0 w' (dkE D H)) := by
  apply R.law18_made_calls
  unfold R.law18_made
  refine (new_ok S 5000).mono ?_
  rintro _ w1 ⟨_, rfl, ⟨h, _⟩ | ⟨_, b, db, lb, rfl, S1⟩⟩
  · omega
  refine ⟨_, _, rfl, IFB_ne (fun h => absurd rfl h) (fun _ => IFB_false (S1.newB fun b6 w2 _ _ S2 => S2.newB fun b7 w3 _ _ S3 => ?_))⟩
  have S4 := ((((((S3.pull 1 rfl).nil ty.ref18_Change 3).nil ty.ref18_Name 2).nil ty.ref18_File 2).pull 3 rfl))
  have S4 : ST w0 w3 (refE ⟨b6, 5000, none, 0, [], none, 0, [], none, 0, 0, none, 0, []⟩ (It.cells b7 #[ptrV (disk0 b 5000 db lb).b, ptrV b6] ty.law18_pair :: dkE (disk0 b 5000 db lb) H)) := S4
  refine ⟨fun st w4 => ∃ (i : Nat) (D : DiskC) (G : RefC), st = [.int .i64 (i : Int)] ∧ i ≤ ops.length ∧ i ≤ 200 ∧ D.b = b ∧ G.b = b6 ∧ Pair D G i ∧ ST w0 w4 (refE G (It.cells b7 #[ptrV D.b, ptrV G.b] ty.law18_pair :: dkE D H)), fun st _ => match st with
    | [.int _ i] => ops.length - i.toNat
    | _ => 0, ⟨0, disk0 b 5000 db lb, ⟨b6, 5000, none, 0, [], none, 0, [], none, 0, 0, none, 0, []⟩, rfl, by omega, by omega, rfl, rfl, ⟨disk0_ok (by decide), ⟨by simp, by simp, by simp, by simp, by simp⟩, rfl, rfl, rfl⟩, S4⟩, ?_⟩
  rintro _ w4 ⟨i, D, G, hst, hi, hi2, hDb, hGb, hP, S5⟩
  cases hst
  have fin : Ret (fun v w' => ∃ D, v = .tuple #[ptrV D.b, .bool true] ∧ Made D ∧ ST w0 w' (dkE D H)) (.returned (.tuple #[ptrV b, .bool true])) w4 := ⟨_, rfl, D, by rw [hDb], ⟨hP.d.mono (by omega), hP.off, hP.fused, hP.room⟩, S5.drop 5⟩
  obtain ⟨_, hv, fin⟩ := fin
  cases hv
  refine IFB_dec (fun hlt => IFB_dec (fun h200 => ?_) (fun _ => fin)) (fun _ => fin)
  have hil : i < ops.length := by omega
  obtain ⟨q, rfl, hc⟩ := row_at opL_len (by omega) (h.grown S5.bel) hil
  have hdec : ops.length - ((i + 1 : Nat) : Int).toNat < ops.length - ((i : Nat) : Int).toNat := by simp only [Int.toNat_natCast]; omega
  refine ⟨⟨by omega, hlt⟩, _, by rw [Int.toNat_natCast]; exact hc 0 _ rfl, ?_⟩
  rw [wrap_succ (by omega)]
  show IFB (decide (kindN ops[i].1 < 6)) _ _
  refine IFB_dec (fun hk => ?_) (fun _ => ⟨⟨i + 1, D, G, rfl, by omega, by omega, hDb, hGb, hP.mono (by omega), S5⟩, hdec⟩)
  refine ⟨⟨by omega, hlt⟩, _, by rw [Int.toNat_natCast]; exact hc 0 _ rfl, _, by rw [Int.toNat_natCast]; exact hc 1 _ rfl, _, by rw [Int.toNat_natCast]; exact hc 2 _ rfl, _, by rw [Int.toNat_natCast]; exact hc 3 _ rfl, _, _, _, by rw [Int.toNat_natCast]; exact hc 4 _ rfl, ?_⟩
  refine (small_ok S5 _ _ _ _ _ _ _).mono ?_
  rintro _ w5 ⟨_, rfl, ⟨s', hs', rfl⟩, S6⟩
  refine ⟨_, _, _, _, _, _, _, rfl, ?_⟩
  refine (does_ok (t := 0) S6 hP (by omega) _ _ s' _ _ _ _ hk (hz _ (List.getElem_mem hil)) (by omega)).mono ?_
  rintro _ w6 ⟨_, rfl, ⟨b', rfl⟩, D', G', hD', hG', hP', S7⟩
  refine ⟨_, rfl, ⟨i + 1, D', G', rfl, by omega, by omega, hD'.trans hDb, hG'.trans hGb, hP', ?_⟩, hdec⟩
  rw [hD', hG']
  exact S7
theorem rdS_at {a : Option Addr} {t : List (List UInt8)} (h : Rd w a (t.map encStr)) {i : Nat} (hi : i < t.length) : ∃ p, a = some p ∧ w.cell? (p.add (i * 1)) = some (.string (sof t[i])) := by
  obtain ⟨p, hp, hc⟩ := h i (encStr t[i]) (by simp [hi])
  exact ⟨p, hp, by rw [Nat.mul_one]; exact hc⟩
theorem same_ok {a b : Option Addr} {c d : Nat} (t : List (List UInt8)) (ha : Rd w a (t.map encStr)) (hb : Rd w b (t.map encStr)) (hn : t.length ≤ 1000000) :
    Calls Tryz.prog f.ref18_Same #[.slice a t.length c, .slice b t.length d] w (Ret fun v w' => v = .bool true ∧ Below w.heap.size w w') := by
  apply R.ref18_Same_calls
  unfold R.ref18_Same
  refine IFB_ne (fun h => absurd rfl h) (fun _ => ?_)
  refine ⟨fun st w1 => ∃ i : Nat, st = [.int .i64 (i : Int)] ∧ i ≤ t.length ∧ Below w.heap.size w w1, fun st _ => match st with
    | [.int _ i] => t.length - i.toNat
    | _ => 0, ⟨0, rfl, by omega, .refl _ _⟩, ?_⟩
  rintro _ w1 ⟨i, hst, hi, B1⟩
  cases hst
  refine IFB_dec (fun hlt => ?_) (fun _ => ⟨rfl, B1⟩)
  have hil : i < t.length := by omega
  have B2 : Below w.heap.size w w1.drew := B1.drew
  obtain ⟨p, hp, hc⟩ := rdS_at (ha.grown B2) hil
  obtain ⟨q, hq, hd⟩ := rdS_at (hb.grown B2) hil
  rw [hp, hq]
  refine ⟨⟨by omega, hlt⟩, ⟨by omega, hlt⟩, _, by rw [Int.toNat_natCast]; exact hc, _, by rw [Int.toNat_natCast]; exact hd, ?_⟩
  rw [bytesEq_iff, decide_eq_true rfl]
  refine IFB_false ?_
  rw [wrap_succ (by omega)]
  exact ⟨⟨i + 1, rfl, by omega, B2⟩, by show t.length - ((i + 1 : Nat) : Int).toNat < t.length - ((i : Nat) : Int).toNat; simp only [Int.toNat_natCast]; omega⟩
end
structure Twin (D C : DiskC) : Prop where
  dom : ∀ x, (D.dir x).isSome = (C.dir x).isSome
  data : ∀ x, dataD D x = dataD C x
  room : D.room = C.room
  offD : D.off = false
  offC : C.off = false
theorem Twin.left {D C : DiskC} (h : Twin D C) : leftD D = leftD C := by
  have hdom : ∀ ks, Dom D.dir ks → Dom C.dir ks := fun ks hk => ⟨hk.nd, fun x => by rw [hk.mem, h.dom]⟩
  by_cases hx : ∃ ks, Dom D.dir ks
  · obtain ⟨ks, hk⟩ := hx
    rw [leftD_eq hk, leftD_eq (hdom ks hk), h.room]
    congr 2
    simp only [sumD, h.data]
  · have hy : ¬ ∃ ks, Dom C.dir ks := fun ⟨ks, hk⟩ => hx ⟨ks, hk.nd, fun x => by rw [hk.mem, ← h.dom]⟩
    rw [leftD, leftD, dif_neg hx, dif_neg hy]
theorem read_of {D : DiskC} {m : Nat} (h : DiskOk D m) (hoff : D.off = false) {x : List UInt8} (hx : (D.dir x).isSome = true) : readE D (sof x) = (sof (dataD D x), 0) := by
  obtain ⟨b, hb⟩ := Option.isSome_iff_exists.1 hx
  have hn : namedE D (sof x) = (some b, 0) := by
    unfold namedE
    have : liveE D.off [sof x] = 0 := by rw [hoff]; unfold liveE; simp [h.nmD hb]
    rw [this, bl_sof, hb]
    simp
  unfold readE
  rw [hn, bl_sof]
  simp
theorem crash_twin {D D' : DiskC} {m : Nat} {dir : Int} {keeps : List Int} {gs : List FileC} (h : DiskOk D m) (hoff : D.off = false) (nd : NdF D.files) (nd' : NdF D'.files) (hr : CrashR D dir keeps gs D') (hlast : lastD D dir = D.dir) (hkeep : ∀ i (h : i < gs.length), keptN keeps i gs[i] = gs[i].data.length) : Twin D D' := by
  have hcase : ∀ x, (D.dir x = none ∧ D'.dir x = none) ∨ ∃ b i, ∃ (hi : i < gs.length) (hi' : i < D'.files.length), D.dir x = some b ∧ gs[i].b = b ∧ D'.dir x = some D'.files[i].b := fun x => by
    cases hx : D.dir x with
    | none => exact .inl ⟨rfl, hr.noneF x (by rw [hlast]; exact hx)⟩
    | some b =>
      obtain ⟨i, hi, hi', e1, e2⟩ := hr.someF x b (by rw [hlast]; exact hx)
      exact .inr ⟨b, i, hi, hi', rfl, e1, e2⟩
  refine ⟨fun x => ?_, fun x => ?_, hr.room.symm, hoff, hr.off⟩
  · rcases hcase x with ⟨h1, h2⟩ | ⟨b, i, hi, hi', h1, _, h2⟩ <;> rw [h1, h2] <;> rfl
  · rcases hcase x with ⟨h1, h2⟩ | ⟨b, i, hi, hi', h1, e, h2⟩
    · simp [dataD, h1, h2]
    · have hg : gs[i] ∈ D.files := ((hr.by_num.mem _).1 (List.getElem_mem hi)).1
      obtain ⟨j, hj, hjg⟩ := List.mem_iff_getElem.1 hg
      have hf : fileD D b = some gs[i] := by
        have := fileD_get nd hj
        rw [hjg, e] at this
        exact this
      rw [dataD_of h1 hf, dataD_of h2 (fileD_get nd' hi'), (hr.file i hi hi').2.1, hkeep i hi, List.take_length]
theorem dkE_app (D : DiskC) (E : List It) : dkE D [] ++ E = dkE D E := by simp [dkE]
theorem dkE_swap (A B : DiskC) (Z : List It) : (dkE A (dkE B Z)).Perm (dkE B (dkE A Z)) := by
  have h := dkE_perm A (dkE B []) Z
  rwa [dkE_app, dkE_app] at h
section
variable {w0 w : World} {C X : DiskC} {Z : List It} {m : Nat}
theorem dkE_in (A B : DiskC) (x : It) (Z : List It) : (x :: dkE A (dkE B Z)).Perm (dkE A (dkE B (x :: Z))) := by
  have h1 : (dkE A (dkE B (x :: Z))).Perm (dkE A (x :: dkE B Z)) := by
    rw [dkE_eq A, dkE_eq A]
    exact List.Perm.append_left _ (List.Perm.append_left _ (dkE_perm B [x] Z))
  exact ((dkE_perm A [x] (dkE B Z)).symm).trans h1.symm
theorem DiskTwice_core {w : World} {a : Option Addr} {c : Nat} (ops : List OpR) (h : Rd w a (ops.flatMap opL)) (hz : ∀ o ∈ ops, o.2.1.size ≤ 9223372036854775807) (dir : Int) {ka : Option Addr} {kc : Nat} (keeps : List Int) (hk : Rd w ka (keeps.map intI)) (hkc : keeps.length ≤ kc)
    (again : Int) {ma : Option Addr} {mc : Nat} (mores : List Int) (hm : Rd w ma (mores.map intI)) (hmc : mores.length ≤ mc) :
    Calls Tryz.prog f.law18_DiskTwice #[.slice a ops.length c, .int .i64 dir, .slice ka keeps.length kc, .int .i64 again, .slice ma mores.length mc] w (Ret fun v w' => v = .bool true ∧ Below w.heap.size w w') := by
  apply R.law18_DiskTwice_calls
  unfold R.law18_DiskTwice
  refine (shown_ok w).mono ?_
  rintro _ w1 ⟨_, rfl, rfl, B1⟩
  refine ⟨_, rfl, (made_ok ((ST.start w).grown B1) ops h hz).mono ?_⟩
  rintro _ w2 ⟨_, rfl, D, rfl, hM, S2⟩
  refine ⟨_, _, rfl, IFB_false ?_⟩
  refine (crash_ok S2 hM.ok (by omega) dir keeps (fun w' S' => hk.grown S'.bel) hkc).mono ?_
  rintro _ w3 ⟨_, rfl, gs, C, rfl, S3, hrC⟩
  have okC := CrashR.ok hM.ok (files_nd S3) hrC
  refine ⟨_, rfl, (crash_ok S3 okC (by omega) again mores (fun w' S' => hm.grown S'.bel) hmc).mono ?_⟩
  rintro _ w4 ⟨_, rfl, hs, X, rfl, S4, hrX⟩
  have okX := CrashR.ok okC (files_nd S4) hrX
  have S4 := S4.perm (dkE_swap X C (dkE D []))
  have tw : Twin C X := by
    have ndC := files_nd S3
    refine crash_twin okC hrC.off ndC (files_nd (S4.perm (dkE_swap C X (dkE D [])))) hrX ?_ fun i hi => ?_
    · unfold lastD
      rw [hrC.waits, List.take_nil, hrC.last]
      rfl
    · have hg : hs[i] ∈ C.files := ((hrX.by_num.mem _).1 (List.getElem_mem hi)).1
      obtain ⟨j, hj, hjg⟩ := List.mem_iff_getElem.1 hg
      have hjg' : j < gs.length := by rw [← hrC.len]; exact hj
      obtain ⟨_, e1, e2⟩ := hrC.file j hjg' hj
      have hl := (keptN_le (keeps := keeps) (i := j) (hM.ok.lasts gs[j] ((hrC.by_num.mem _).1 (List.getElem_mem hjg')).1)).2
      have e3 : hs[i].lasts = hs[i].data.length := by
        rw [← hjg, e1, e2, List.length_take]
        omega
      have := keptN_le (keeps := mores) (i := i) (f := hs[i]) (by omega)
      omega
  refine ⟨_, rfl, (names_ok S4 okC (by omega)).mono ?_⟩
  rintro _ w5 ⟨_, rfl, na, nc, t, rfl, S5, ht, htn, _⟩
  rw [hrC.off] at ht
  have ht : Up C.dir t := ht
  refine ⟨_, _, _, rfl, ?_⟩
  have S5' := (S5.perm (dkE_in C X _ (dkE D []))).perm (dkE_swap C X _)
  refine (names_ok S5' okX (by omega)).mono ?_
  rintro _ w6 ⟨_, rfl, xa, xc, u, rfl, S6, hu, hun, _⟩
  rw [hrX.off] at hu
  have hu : Up X.dir u := hu
  obtain rfl := Up.one ht hu tw.dom
  refine ⟨_, _, _, rfl, ?_⟩
  have S7 := (S6.perm (dkE_in X C _ _)).perm (dkE_swap X C _)
  have S8 := S7.perm (dkE_in C X _ _).symm
  have S9 : ST w w6 (It.row ty.string 1 xa t.length xc (t.map encStr) :: It.row ty.string 1 na t.length nc (t.map encStr) :: dkE C (dkE X (dkE D []))) := S8.perm (List.Perm.cons _ (dkE_in C X _ _).symm)
  refine (same_ok t (S9.rd 1 rfl) (S9.rd 0 rfl) (by omega)).mono ?_
  rintro _ w7 ⟨_, rfl, rfl, B7⟩
  refine ⟨_, rfl, IFB_false ?_⟩
  have S10 := (S9.drop 1).grown B7
  have S10 := S10.perm (dkE_in C X _ _)
  refine (left_ok S10 okC (by omega)).mono ?_
  rintro _ w8 ⟨_, rfl, rfl, _, S11⟩
  refine ⟨_, rfl, (left_ok (S11.perm (dkE_swap C X _)) okX (by omega)).mono ?_⟩
  rintro _ w9 ⟨_, rfl, rfl, _, S12⟩
  refine ⟨_, rfl, IFB_ne (fun h => absurd tw.left h) (fun _ => ?_)⟩
  have S13 := (S12.perm (dkE_swap X C _)).perm (dkE_in C X _ _).symm
  refine ⟨fun st w10 => ∃ i : Nat, st = [.int .i64 (i : Int)] ∧ i ≤ t.length ∧ ST w w10 (It.row ty.string 1 na t.length nc (t.map encStr) :: dkE C (dkE X (dkE D []))), fun st _ => match st with
    | [.int _ i] => t.length - i.toNat
    | _ => 0, ⟨0, rfl, by omega, S13⟩, ?_⟩
  rintro _ w10 ⟨i, hst, hi, S14⟩
  cases hst
  refine IFB_dec (fun hlt => ?_) (fun _ => ⟨rfl, S14.bel⟩)
  have hil : i < t.length := by omega
  obtain ⟨p, rfl, hc⟩ := rdS_at (S14.rd 0 rfl) hil
  have hx : (C.dir t[i]).isSome = true := (ht.mem _).1 (List.getElem_mem hil)
  have hsz : (sof t[i]).size ≤ 9223372036854775807 := by
    obtain ⟨b, hb⟩ := Option.isSome_iff_exists.1 hx
    exact Nat.le_trans (nameB_size (okC.nmD hb)) (by decide)
  refine ⟨⟨by omega, hlt⟩, _, by rw [Int.toNat_natCast]; exact hc, (read_ok (S14.perm (dkE_in C X _ _)) okC _ hsz).mono ?_⟩
  rintro _ w11 ⟨_, rfl, rfl, S15⟩
  have S16 := S15.perm (dkE_in C X _ _).symm
  obtain ⟨p', hp', hc'⟩ := rdS_at (S16.rd 0 rfl) hil
  cases hp'
  refine ⟨_, _, rfl, ⟨by omega, hlt⟩, _, by rw [Int.toNat_natCast]; exact hc', (read_ok (S15.perm (dkE_swap C X _)) okX _ hsz).mono ?_⟩
  rintro _ w12 ⟨_, rfl, rfl, S17⟩
  refine ⟨_, _, rfl, ?_⟩
  rw [read_of okC hrC.off hx, read_of okX hrX.off (by rw [← tw.dom]; exact hx), tw.data, bytesEq_iff, decide_eq_true rfl]
  refine IFB_false (IFB_ne (fun h => absurd rfl h) (fun _ => IFB_ne (fun h => absurd rfl h) (fun _ => ?_)))
  rw [wrap_succ (by omega)]
  exact ⟨⟨i + 1, rfl, by omega, (S17.perm (dkE_swap X C _)).perm (dkE_in C X _ _).symm⟩, by show t.length - ((i + 1 : Nat) : Int).toNat < t.length - ((i : Nat) : Int).toNat; simp only [Int.toNat_natCast]; omega⟩
end
end Go.Proofs.YtfgbfodohmeamaaGreatDoor
namespace Go.Dn
set_option maxRecDepth 100000
def Good (P : Program) (w : World) : Nat → TypeId → List Value → Prop
  | 0, _, _ => False
  | n + 1, t, cs =>
    match P.underlying t with
    | some .bool => ∃ b, cs = [.bool b]
    | some (.int k) => ∃ x, cs = [.int k x] ∧ (Lit.int k x).wf = true
    | some .string => ∃ s : ByteArray, cs = [.string s] ∧ s.size ≤ maxLen
    | some (.slice e) => ∃ a len cap, cs = [.slice a len cap] ∧ len ≤ cap ∧ cap ≤ maxLen ∧ (a = none → cap = 0) ∧
        ∃ rows : List (List Value), rows.length = len ∧ Rd w a rows.flatten ∧ ∀ r ∈ rows, r.length = P.cellsOf e ∧ Good P w n e r
    | some (.struct fs) => cs.length = P.cellsOf t ∧ ∀ f ∈ fs.toList, Good P w n f.type ((cs.drop f.offset).take (P.cellsOf f.type))
    | _ => True
section
variable {P : Program} {w : World}
theorem Good.int {n : Nat} {t : TypeId} {cs : List Value} {k : IntKind} (h : Good P w n t cs) (ht : P.underlying t = some (.int k)) : ∃ x, cs = [.int k x] ∧ (Lit.int k x).wf = true := by
  cases n with
  | zero => exact h.elim
  | succ n => unfold Good at h; rw [ht] at h; exact h
theorem Good.str {n : Nat} {t : TypeId} {cs : List Value} (h : Good P w n t cs) (ht : P.underlying t = some .string) : ∃ s : ByteArray, cs = [.string s] ∧ s.size ≤ maxLen := by
  cases n with
  | zero => exact h.elim
  | succ n => unfold Good at h; rw [ht] at h; exact h
theorem Good.slice {n : Nat} {t e : TypeId} {cs : List Value} (h : Good P w n t cs) (ht : P.underlying t = some (.slice e)) : ∃ a len cap, cs = [.slice a len cap] ∧ len ≤ cap ∧ cap ≤ maxLen ∧ (a = none → cap = 0) ∧
        ∃ (m : Nat) (rows : List (List Value)), rows.length = len ∧ Rd w a rows.flatten ∧ ∀ r ∈ rows, r.length = P.cellsOf e ∧ Good P w m e r := by
  cases n with
  | zero => exact h.elim
  | succ n =>
    unfold Good at h
    rw [ht] at h
    obtain ⟨a, len, cap, h1, h2, h3, h4, rows, h5⟩ := h
    exact ⟨a, len, cap, h1, h2, h3, h4, n, rows, h5⟩
theorem Good.struct {n : Nat} {t : TypeId} {cs : List Value} {fs : Array Field} (h : Good P w n t cs) (ht : P.underlying t = some (.struct fs)) :
    cs.length = P.cellsOf t ∧ ∃ m, ∀ f ∈ fs.toList, Good P w m f.type ((cs.drop f.offset).take (P.cellsOf f.type)) := by
  cases n with
  | zero => exact h.elim
  | succ n =>
    unfold Good at h
    rw [ht] at h
    exact ⟨h.1, n, h.2⟩
def fieldsT (P : Program) (t : TypeId) : Option (List (TypeId × Nat)) :=
  match P.underlying t with
  | some (.struct fs) => some (fs.toList.map fun f => (f.type, f.offset))
  | _ => none
theorem Good.fields {n : Nat} {t : TypeId} {cs : List Value} {l : List (TypeId × Nat)} (h : Good P w n t cs) (ht : fieldsT P t = some l) :
    cs.length = P.cellsOf t ∧ ∃ m, ∀ x ∈ l, Good P w m x.1 ((cs.drop x.2).take (P.cellsOf x.1)) := by
  unfold fieldsT at ht
  split at ht
  · rename_i fs hu
    obtain ⟨h1, m, h2⟩ := h.struct hu
    cases ht
    refine ⟨h1, m, fun x hx => ?_⟩
    obtain ⟨f, hf, rfl⟩ := List.mem_map.1 hx
    exact h2 f hf
  · cases ht
theorem flatten_get (sz : Nat) : ∀ (rows : List (List Value)), (∀ r ∈ rows, r.length = sz) → ∀ j v, rows.flatten[j]? = some v → 0 < sz ∧ j / sz < rows.length ∧ ∃ r, rows[j / sz]? = some r ∧ r[j % sz]? = some v
  | [], _, j, v, h => by simp at h
  | r :: rows, hl, j, v, h => by
    have hr : r.length = sz := hl r (by simp)
    rw [List.flatten_cons] at h
    by_cases hj : j < sz
    · rw [List.getElem?_append_left (by omega)] at h
      refine ⟨by omega, by rw [Nat.div_eq_of_lt hj]; simp, r, by rw [Nat.div_eq_of_lt hj]; rfl, by rw [Nat.mod_eq_of_lt hj]; exact h⟩
    · rw [List.getElem?_append_right (by omega), hr] at h
      obtain ⟨h0, h1, r', h2, h3⟩ := flatten_get sz rows (fun r hr => hl r (by simp [hr])) (j - sz) v h
      have e : j / sz = (j - sz) / sz + 1 := by
        have := Nat.add_div_right (j - sz) h0
        rw [show j - sz + sz = j by omega] at this
        exact this
      have e2 : j % sz = (j - sz) % sz := Nat.mod_eq_sub_mod (by omega)
      refine ⟨h0, by rw [e]; simp; exact h1, r', by rw [e]; simpa using h2, by rw [e2]; exact h3⟩
theorem good_of_trod {H : Type} {enc : TypeId × Value → H} {spare : Nat → Bool} {held : Bool} {base : Nat} : ∀ (n : Nat) (t : TypeId) (cs : List Value) (x : DataW H × List MemPlace), DataW.trod enc P w base spare held n t cs = some x → Good P w n t cs
  | 0, _, _, _, h => by simp [DataW.trod] at h
  | n + 1, t, cs, x, h => by
    unfold Good
    split
    · rename_i ht; obtain ⟨b, rfl, _⟩ := DataW.trod_bool ht h; exact ⟨b, rfl⟩
    · rename_i k ht; obtain ⟨z, rfl, _, hw⟩ := DataW.trod_int ht h; exact ⟨z, rfl, hw⟩
    · rename_i ht; obtain ⟨s, rfl, _, hw⟩ := DataW.trod_string ht h; exact ⟨s, rfl, hw⟩
    · rename_i e ht
      rcases DataW.trod_slice ht h with ⟨rfl, _⟩ | ⟨a, len, cap, elems, rest, m, hn, rfl, _, hb, hl, hm, hlen, hel, _, _⟩
      · exact ⟨none, 0, 0, rfl, Nat.le_refl _, Nat.zero_le _, fun _ => rfl, [], rfl, Rd.nil _ _, by simp⟩
      · have hnm : n = m := by omega
        subst hnm
        have hx : ∀ i, i < len → ∃ cs' : List Value, w.cells? base (a.add (i * P.cellsOf e)) (P.cellsOf e) = some cs' ∧ Good P w n e cs' := by
          intro i hi
          have := hel i hi
          rw [List.getElem?_eq_getElem (by omega)] at this
          obtain ⟨cs', h1, h2⟩ := Option.bind_eq_some_iff.1 this
          exact ⟨cs', h1, good_of_trod n e cs' _ h2⟩
        obtain ⟨V, hV⟩ := Deep.choose_lt (α := List Value) hx
        have hrows : ∀ r ∈ (List.range len).map V, r.length = P.cellsOf e ∧ Good P w n e r := by
          intro r hr
          obtain ⟨i, hi, rfl⟩ := List.mem_map.1 hr
          have := hV i (by simpa using hi)
          exact ⟨(World.cells?_some this.1).2.1, this.2⟩
        refine ⟨some a, len, cap, rfl, hl, hm, (fun h => nomatch h), (List.range len).map V, by simp, ?_, hrows⟩
        intro j v hv
        obtain ⟨h0, h1, r, h2, h3⟩ := flatten_get (P.cellsOf e) _ (fun r hr => (hrows r hr).1) j v hv
        refine ⟨a, rfl, ?_⟩
        simp only [List.length_map, List.length_range] at h1
        simp only [List.getElem?_map, List.getElem?_range h1, Option.map_some, Option.some.injEq] at h2
        subst h2
        obtain ⟨hc, hg⟩ := hV _ h1
        have hlt : j % P.cellsOf e < P.cellsOf e := Nat.mod_lt _ h0
        have := (World.cells?_some hc).2.2 _ hlt
        rw [addr_add_add, h3] at this
        rw [← this]
        congr 2
        rw [Nat.mul_comm]
        exact (Nat.div_add_mod j _).symm
    · rename_i fs ht
      unfold DataW.trod at h
      rw [ht] at h
      simp only at h
      split at h
      · rename_i hlen
        refine ⟨hlen, fun f hf => ?_⟩
        obtain ⟨xs, hxs, _⟩ := Option.map_eq_some_iff.1 h
        obtain ⟨i, hi⟩ := List.getElem?_of_mem hf
        have hl := mapM_some_length hxs
        have hlt := (List.getElem?_eq_some_iff.1 hi).1
        have hg := mapM_some_get hxs i f hi
        rw [List.getElem?_eq_getElem (by omega)] at hg
        exact good_of_trod n _ _ _ hg
      · cases h
    · trivial
theorem rows_of {α : Type} {rows : List (List Value)} {g : α → List Value} {q : α → Prop} (h : ∀ r ∈ rows, ∃ x, r = g x ∧ q x) : ∃ xs : List α, rows = xs.map g ∧ ∀ x ∈ xs, q x := by
  induction rows with
  | nil => exact ⟨[], rfl, by simp⟩
  | cons r rows ih =>
    obtain ⟨x, rfl, hx⟩ := h r (by simp)
    obtain ⟨xs, rfl, hxs⟩ := ih fun r hr => h r (by simp [hr])
    exact ⟨x :: xs, rfl, by simpa using ⟨hx, hxs⟩⟩
theorem Good.list {α : Type} {n : Nat} {t e : TypeId} {cs : List Value} (h : Good P w n t cs) (ht : P.underlying t = some (.slice e)) (g : α → List Value) (q : α → Prop) (hg : ∀ m r, r.length = P.cellsOf e → Good P w m e r → ∃ x, r = g x ∧ q x) :
    ∃ a cap, ∃ xs : List α, cs = [.slice a xs.length cap] ∧ xs.length ≤ cap ∧ cap ≤ maxLen ∧ (a = none → cap = 0) ∧ Rd w a (xs.flatMap g) ∧ ∀ x ∈ xs, q x := by
  obtain ⟨a, len, cap, rfl, h1, h2, h3, m, rows, rfl, hr, hrs⟩ := h.slice ht
  obtain ⟨xs, rfl, hq⟩ := rows_of (fun r hr => hg m r (hrs r hr).1 (hrs r hr).2)
  simp only [List.length_map] at h1 ⊢
  exact ⟨a, cap, xs, rfl, h1, h2, h3, by rw [List.flatMap_def]; exact hr, hq⟩
def GL {α : Type} (w : World) (g : α → List Value) (q : α → Prop) (a : Option Addr) (xs : List α) (c : Nat) : Prop :=
  xs.length ≤ c ∧ c ≤ maxLen ∧ (a = none → c = 0) ∧ Rd w a (xs.flatMap g) ∧ ∀ x ∈ xs, q x
theorem Good.gl {α : Type} {n : Nat} {t e : TypeId} {a0 : Option Addr} {l0 c0 : Nat} (h : Good P w n t (Value.slice a0 l0 c0).cells.toList) (ht : P.underlying t = some (.slice e)) (g : α → List Value) (q : α → Prop) (hg : ∀ m r, r.length = P.cellsOf e → Good P w m e r → ∃ x, r = g x ∧ q x) :
    ∃ xs : List α, l0 = xs.length ∧ GL w g q a0 xs c0 := by
  obtain ⟨a, c, xs, he, h1⟩ := h.list ht g q hg
  have he' : [Value.slice a0 l0 c0] = [.slice a xs.length c] := he
  simp only [List.cons.injEq, Value.slice.injEq, and_true] at he'
  obtain ⟨rfl, rfl, rfl⟩ := he'
  exact ⟨xs, rfl, h1⟩
def intC (k : IntKind) (x : Int) : List Value := [.int k x]
def intQ (k : IntKind) (x : Int) : Prop := (Lit.int k x).wf = true
theorem good_int {e : TypeId} {k : IntKind} (he : P.underlying e = some (.int k)) : ∀ m r, r.length = P.cellsOf e → Good P w m e r → ∃ x, r = intC k x ∧ intQ k x := fun _ _ _ h => h.int he
theorem flat1 {α β : Type} (f : α → β) : ∀ l : List α, (l.flatMap fun x => [f x]) = l.map f
  | [] => rfl
  | x :: l => by rw [List.flatMap_cons, flat1 f l]; rfl
end
end Go.Dn
namespace Go.Proofs.YtfgbfodohmeamaaGreatDoor
set_option maxRecDepth 100000
open Go.Dn Go.Proofs
open Go.RowKit (Below)
set_option linter.unusedVariables false
structure OpQ (o : OpR) : Prop where
  name : o.2.1.size ≤ maxLen
  data : o.2.2.1.size ≤ maxLen
theorem cells_int : Tryz.prog.cellsOf ty.int = 1 := by kernel_rfl
theorem cells_str : Tryz.prog.cellsOf ty.string = 1 := by kernel_rfl
theorem cells_ints : Tryz.prog.cellsOf ty.L_int = 1 := by kernel_rfl
theorem und_int : Tryz.prog.underlying ty.int = some (.int .i64) := by kernel_rfl
theorem und_ints : Tryz.prog.underlying ty.L_int = some (.slice ty.int) := by kernel_rfl
theorem und_op : fieldsT Tryz.prog ty.law18_Op = some [(ty.int, 0), (ty.string, 1), (ty.string, 2), (ty.int, 3), (ty.L_int, 4)] := by kernel_rfl
theorem cells_op : Tryz.prog.cellsOf ty.law18_Op = 5 := by kernel_rfl
theorem good_stackyardlaw18_Op {w : World} : ∀ m r, r.length = Tryz.prog.cellsOf ty.law18_Op → Go.Dn.Good Tryz.prog w m ty.law18_Op r → ∃ x, r = opL x ∧ OpQ x := by
  intro m r hl h
  obtain ⟨_, n, hf⟩ := h.fields und_op
  rw [cells_op] at hl
  match r, hl with
  | [v0, v1, v2, v3, v4], _ =>
    simp only [List.mem_cons, List.not_mem_nil, or_false, forall_eq_or_imp, forall_eq, cells_int, cells_ints, cells_str] at hf
    obtain ⟨h0, h1, h2, h3, h4⟩ := hf
    obtain ⟨x0, e0, q0⟩ := h0.int und_int
    obtain ⟨x1, e1, q1⟩ := h1.str und_str
    obtain ⟨x2, e2, q2⟩ := h2.str und_str
    obtain ⟨x3, e3, q3⟩ := h3.int und_int
    obtain ⟨a, l, c, e4, _⟩ := h4.slice und_ints
    refine ⟨(x0, x1, x2, x3, a, l, c), ?_, ⟨q1, q2⟩⟩
    simp only [List.drop_zero, List.take_succ_cons, List.take_zero, List.drop_succ_cons, List.cons.injEq, and_true] at e0 e1 e2 e3 e4
    rw [e0, e1, e2, e3, e4]
    rfl
theorem ops_arg {w : World} {a : Option Addr} {ops : List OpR} {c : Nat} (g : GL w opL OpQ a ops c) : Rd w a (ops.flatMap opL) ∧ ∀ o ∈ ops, o.2.1.size ≤ 9223372036854775807 :=
  ⟨g.2.2.2.1, fun o ho => Nat.le_trans (g.2.2.2.2 o ho).name (by decide)⟩
theorem ints_arg {w : World} {a : Option Addr} {xs : List Int} {c : Nat} (g : GL w (intC .i64) (intQ .i64) a xs c) : Rd w a (xs.map intI) ∧ xs.length ≤ c := by
  have h := g.2.2.2.1
  rw [show xs.flatMap (intC .i64) = xs.map intI from flat1 intI xs] at h
  exact ⟨h, g.1⟩
def NoEnv (_ : World) : Prop := True
theorem DiskTwice_ok {w : World} (he : NoEnv w) (a : Option Addr) (ops : List OpR) (c : Nat) (g : GL w opL OpQ a ops c) (y : c * Tryz.prog.bytesOf ty.law18_Op ≤ reachBytes)
    (dir : Int) (wd : (Lit.int .i64 dir).wf = true) (ka : Option Addr) (keeps : List Int) (kc : Nat) (gk : GL w (intC .i64) (intQ .i64) ka keeps kc) (yk : kc * Tryz.prog.bytesOf ty.int ≤ reachBytes)
    (again : Int) (wa : (Lit.int .i64 again).wf = true) (ma : Option Addr) (mores : List Int) (mc : Nat) (gm : GL w (intC .i64) (intQ .i64) ma mores mc) (ym : mc * Tryz.prog.bytesOf ty.int ≤ reachBytes) :
    Calls Tryz.prog f.law18_DiskTwice #[.slice a ops.length c, .int .i64 dir, .slice ka keeps.length kc, .int .i64 again, .slice ma mores.length mc] w (Ret fun v w' => v = .bool true ∧ Below w.heap.size w w') :=
  DiskTwice_core ops (ops_arg g).1 (ops_arg g).2 dir keeps (ints_arg gk).1 (ints_arg gk).2 again mores (ints_arg gm).1 (ints_arg gm).2
end Go.Proofs.YtfgbfodohmeamaaGreatDoor
