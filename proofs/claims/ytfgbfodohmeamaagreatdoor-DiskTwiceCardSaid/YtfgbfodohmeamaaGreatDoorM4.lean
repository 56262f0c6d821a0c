/-
  Texts of this claim, laid one behind the other by a program of mine (install.py): K.Dk5, K.Dk6, K.ShClone, K.Dk7, K.Dk8, K.Dk9, K.ShSort, K.Dk10, K.Dk11, K.Dk12, K.Dk13, K.Rf1, K.Rf2, K.Rf3.
-/
import Derived.Test.YtfgbfodohmeamaaGreatDoorM3
import Derived.Shelf.SlMaps.Clone
import Derived.Test.YtfgbfodohmeamaaGreatDoorProg
import Derived.Shelf.SlSortCmp.Whole1
import Derived.Shelf.SlSortCmp.NoneTotal
namespace Go.Proofs.YtfgbfodohmeamaaGreatDoor
set_option maxRecDepth 100000
open Go.Dn Go.Proofs
open Go.RowKit (Below)
set_option linter.unusedVariables false
theorem app_text {t : TypeId} {w0 w : World} {H : List It} (S : ST w0 w H) (n : Nat) {a : Option Addr} {c : Nat} {l : List UInt8} (hn : H[n]? = some (bytesI a c l)) (s : ByteArray) (hl : l.length + s.size ≤ 140737488355328) {f : Value → World → Prop}
    (hf : ∀ a' c' w', ST w0 w' (H.set n (bytesI a' c' (l ++ bl s))) → f (.slice a' (l ++ bl s).length c') w') :
    OPR Tryz.prog (Builtin.append_ #[ty.L_uint8, ty.string] ty.L_uint8 #[.slice a l.length c, .string s]) f w :=
  append_text (S.rw n hn) s hl fun a' c' w' hrow hk hnew => hf a' c' w' (S.chg n hn hk _ hrow hnew)
section
variable {w0 w : World} {D : DiskC} {E H : List It} {m : Nat}
noncomputable def appendPre (D : DiskC) (s data : ByteArray) : Int := if (namedE D s).2 ≠ 0 then (namedE D s).2 else if (data.size : Int) > leftD D then 181 else 0
def AppendR (D : DiskC) (s data : ByteArray) (e : Int) (D' : DiskC) : Prop := StepE D e D' (appendPre D s data) fun D' => ∃ pre f post da dc, D.files = pre ++ f :: post ∧ D.dir (bl s) = some f.b ∧
  D' = { D with fuse := D.fuse - 1, files := pre ++ { f with data := f.data ++ bl data, da := da, dc := dc } :: post }
theorem append_ok (S : ST w0 w (dkE D E)) (hD : DiskOk D m) (hm : m + 1 < 1000000) (s data : ByteArray) (hs : s.size ≤ 9223372036854775807) :
    Calls Tryz.prog f.disk_Disk_Append #[ptrV D.b, .string s, .string data] w (Ret fun v w' => ∃ e D', v = .int .i64 e ∧ ST w0 w' (dkE D' E) ∧ AppendR D s data e D') := by
  apply R.disk_Disk_Append_calls
  unfold R.disk_Disk_Append
  refine (named_ok S s hs).mono ?_
  rintro _ w1 ⟨_, rfl, rfl, S1⟩
  refine ⟨_, _, rfl, IFB_ne (fun h => ⟨_, D, rfl, S1, .inl ⟨?_, ?_, rfl⟩⟩) (fun h => ?_)⟩
  · rw [appendPre, if_pos h]; exact h
  · rw [appendPre, if_pos h]
  obtain ⟨_, _, b, hb, hn⟩ := namedE_zero h
  rw [hn]
  refine (left_ok S1 hD (by omega)).mono ?_
  rintro _ w2 ⟨_, rfl, rfl, ⟨ks, hdom, _⟩, S2⟩
  refine ⟨_, rfl, IFB_dec (fun h2 => ⟨_, D, rfl, S2, .inl ⟨?_, ?_, rfl⟩⟩) (fun h2 => ?_)⟩
  · rw [appendPre, if_neg (by simpa using h), if_pos h2]; decide
  · rw [appendPre, if_neg (by simpa using h), if_pos h2]
  have hpre : appendPre D s data = 0 := by rw [appendPre, if_neg (by simpa using h), if_neg h2]
  refine (change_ok S2 (by have := hD.fuseLo; omega) hD.fuseHi).mono ?_
  rintro _ w3 ⟨_, rfl, ⟨hf, h0, rfl, S3⟩ | ⟨hno, rfl, S3⟩⟩
  · exact ⟨_, rfl, IFB_eq (fun h => absurd h (by decide)) (fun _ => ⟨_, _, rfl, S3, .inr (.inl ⟨hpre, ⟨hf, h0⟩, rfl, rfl⟩)⟩)⟩
  refine ⟨_, rfl, IFB_eq (fun _ => ?_) (fun h => absurd rfl h)⟩
  obtain ⟨pre, f, post, hfs, rfl, hfd, S4⟩ := pick_ok S3 (show ∃ f ∈ D.files, f.b = b from hD.hasD hb)
  have hfs : D.files = pre ++ f :: post := hfs
  have hfl := hD.len f (by rw [hfs]; simp)
  rw [leftD_eq hdom] at h2
  have hroom := hD.room
  refine ⟨_, _, _, S4.cell 0 rfl rfl, app_text (t := ty.L_uint8) S4 1 rfl data (by omega) fun da dc w4 S5 => ⟨_, _, _, rfl, ?_⟩⟩
  refine S5.sto 0 rfl (cs' := FileC.cells { f with data := f.data ++ bl data, da := da, dc := dc }) (by simp [FileC.cells]) rfl fun w5 S6 => ?_
  have S7 := unpick (D := { D with fuse := D.fuse - 1 }) pre post { f with data := f.data ++ bl data, da := da, dc := dc } S6
  exact ⟨_, _, rfl, S7, .inr (.inr ⟨hpre, fun hb => hno hb, rfl, pre, f, post, da, dc, hfs, hb, rfl⟩)⟩
def SyncR (D : DiskC) (s : ByteArray) (e : Int) (D' : DiskC) : Prop := StepE D e D' (namedE D s).2 fun D' => ∃ pre f post, D.files = pre ++ f :: post ∧ D.dir (bl s) = some f.b ∧
  D' = { D with fuse := D.fuse - 1, files := pre ++ { f with lasts := f.data.length } :: post }
theorem sync_ok (S : ST w0 w (dkE D E)) (hD : DiskOk D m) (hm : m + 1 < 1000000) (s : ByteArray) (hs : s.size ≤ 9223372036854775807) :
    Calls Tryz.prog f.disk_Disk_Sync #[ptrV D.b, .string s] w (Ret fun v w' => ∃ e D', v = .int .i64 e ∧ ST w0 w' (dkE D' E) ∧ SyncR D s e D') := by
  apply R.disk_Disk_Sync_calls
  unfold R.disk_Disk_Sync
  refine (named_ok S s hs).mono ?_
  rintro _ w1 ⟨_, rfl, rfl, S1⟩
  refine ⟨_, _, rfl, IFB_ne (fun h => ⟨_, D, rfl, S1, .inl ⟨h, rfl, rfl⟩⟩) (fun h => ?_)⟩
  obtain ⟨_, _, b, hb, hn⟩ := namedE_zero h
  rw [hn]
  refine (change_ok S1 (by have := hD.fuseLo; omega) hD.fuseHi).mono ?_
  rintro _ w3 ⟨_, rfl, ⟨hf, h0, rfl, S3⟩ | ⟨hno, rfl, S3⟩⟩
  · exact ⟨_, rfl, IFB_eq (fun h => absurd h (by decide)) (fun _ => ⟨_, _, rfl, S3, .inr (.inl ⟨h, ⟨hf, h0⟩, rfl, rfl⟩)⟩)⟩
  refine ⟨_, rfl, IFB_eq (fun _ => ?_) (fun h => absurd rfl h)⟩
  obtain ⟨pre, f, post, hfs, rfl, hfd, S4⟩ := pick_ok S3 (show ∃ f ∈ D.files, f.b = b from hD.hasD hb)
  have hfs : D.files = pre ++ f :: post := hfs
  refine ⟨_, _, _, S4.cell 0 rfl rfl, ?_⟩
  refine S4.sto 0 rfl (cs' := FileC.cells { f with lasts := f.data.length }) (by simp [FileC.cells]) rfl fun w5 S6 => ?_
  have S7 := unpick (D := { D with fuse := D.fuse - 1 }) pre post { f with lasts := f.data.length } S6
  exact ⟨_, _, rfl, S7, .inr (.inr ⟨h, fun hb => hno hb, rfl, pre, f, post, hfs, hb, rfl⟩)⟩
def turned (D : DiskC) (c : ChgC) (wa : Option Addr) (wc : Nat) : DiskC := { D with fuse := D.fuse - 1, dir := c.app D.dir, dn := D.dn + 1, waits := D.waits ++ [c], wa := wa, wc := wc }
def RemoveR (D : DiskC) (s : ByteArray) (e : Int) (D' : DiskC) : Prop := StepE D e D' (namedE D s).2 fun D' => ∃ b1 wa wc, D' = turned D (.remove b1 s) wa wc
theorem remove_ok (S : ST w0 w (dkE D E)) (hD : DiskOk D m) (hm : m + 1 < 1000000) (s : ByteArray) (hs : s.size ≤ 9223372036854775807) :
    Calls Tryz.prog f.disk_Disk_Remove #[ptrV D.b, .string s] w (Ret fun v w' => ∃ e D', v = .int .i64 e ∧ ST w0 w' (dkE D' E) ∧ RemoveR D s e D') := by
  apply R.disk_Disk_Remove_calls
  unfold R.disk_Disk_Remove
  refine S.newB fun b3 w1 _ _ S1 => ⟨_, S1.cell 0 rfl rfl, ?_⟩
  have S2 : ST w0 w1 (dkE D ((ChgC.remove b3 s).its ++ E)) := (show ST w0 w1 ((ChgC.remove b3 s).its ++ dkE D E) from S1).perm (dkE_perm D _ E).symm
  refine (named_ok S2 s hs).mono ?_
  rintro _ w2 ⟨_, rfl, rfl, S3⟩
  refine ⟨_, _, rfl, IFB_ne (fun h => ⟨_, D, rfl, S3.sub (dkE_sub _ _ _), .inl ⟨h, rfl, rfl⟩⟩) (fun h => ?_)⟩
  obtain ⟨hnb, _, b, hb, hn⟩ := namedE_zero h
  refine (turn_ok (.remove b3 s) S3 (by have := hD.fuseLo; omega) hD.fuseHi (by have := hD.dn; omega) (by have := hD.wn; omega) (nameB_size hnb)).mono ?_
  rintro _ w7 ⟨_, rfl, ⟨hf, h0, rfl, S13⟩ | ⟨hno, rfl, wa, wc, S13⟩⟩
  · exact ⟨_, rfl, _, _, rfl, S13.sub (dkE_sub _ _ _), .inr (.inl ⟨h, ⟨hf, h0⟩, rfl, rfl⟩)⟩
  · exact ⟨_, rfl, _, _, rfl, S13, .inr (.inr ⟨h, fun hb => hno hb, rfl, b3, wa, wc, rfl⟩)⟩
def renamePre (D : DiskC) (o s : ByteArray) : Int := if liveE D.off [o, s] ≠ 0 then liveE D.off [o, s] else (namedE D o).2
def RenameR (D : DiskC) (o s : ByteArray) (e : Int) (D' : DiskC) : Prop := StepE D e D' (renamePre D o s) fun D' => ∃ b1 b2 b3 f wa wc, D.dir (bl o) = some f ∧ D' = turned D (.rename b1 b2 b3 o s f) wa wc
theorem live2 {off : Bool} {o s : ByteArray} (h : liveE off [o, s] = 0) : off = false ∧ nameB o = true ∧ nameB s = true := by
  unfold liveE at h
  cases off with
  | true => simp at h
  | false =>
    cases h1 : nameB o <;> cases h2 : nameB s <;> simp [h1, h2] at h ⊢
theorem rename_ok (S : ST w0 w (dkE D E)) (hD : DiskOk D m) (hm : m + 1 < 1000000) (o s : ByteArray) (ho : o.size ≤ 9223372036854775807) (hs : s.size ≤ 9223372036854775807) :
    Calls Tryz.prog f.disk_Disk_Rename #[ptrV D.b, .string o, .string s] w (Ret fun v w' => ∃ e D', v = .int .i64 e ∧ ST w0 w' (dkE D' E) ∧ RenameR D o s e D') := by
  apply R.disk_Disk_Rename_calls
  unfold R.disk_Disk_Rename
  refine S.newB fun b4 w1 _ B1 S1 => S1.newB fun b5 w2 _ B2 S2 => ⟨_, S2.cell 1 rfl rfl, _, S2.cell 0 rfl rfl, S2.newB fun b8 w3 _ B3 S3 => ?_⟩
  have hc5 : w3.cell? ⟨D.b, 5, none⟩ = some (.bool D.off) := S3.cell 3 rfl rfl
  have hr : Rd w3 (some ⟨b8, 0, none⟩) ([o, s].map strV) := S3.rdc 0 rfl
  refine (live_ok hc5 [o, s] hr (by simp) (by simp [ho, hs])).mono ?_
  rintro _ w4 ⟨_, rfl, rfl, B4⟩
  have S4 := (S3.grown B4).drop 1
  refine ⟨_, rfl, IFB_ne (fun h => ⟨_, D, rfl, S4.drop 2, .inl ⟨?_, ?_, rfl⟩⟩) (fun h => ?_)⟩
  · rw [renamePre, if_pos h]; exact h
  · rw [renamePre, if_pos h]
  have hpre : renamePre D o s = (namedE D o).2 := by rw [renamePre, if_neg (by simpa using h)]
  obtain ⟨_, n1, n2⟩ := live2 h
  refine ⟨_, S4.cell 1 rfl rfl, ?_⟩
  have S5 : ST w0 w4 (dkE D ([It.cells b5 #[.string s] ty.string, It.cells b4 #[.string o] ty.string] ++ E)) := (show ST w0 w4 ([It.cells b5 #[.string s] ty.string, It.cells b4 #[.string o] ty.string] ++ dkE D E) from S4).perm (dkE_perm D _ E).symm
  refine (named_ok S5 o ho).mono ?_
  rintro _ w5 ⟨_, rfl, rfl, S6⟩
  refine ⟨_, _, rfl, S6.newB fun b15 w6 _ _ S7 => S7.sto 0 rfl (cs' := #[ptrO (namedE D o).1]) (by simp) rfl fun w7 S8 => ?_⟩
  refine IFB_ne (fun h => ⟨_, D, rfl, (S8.drop 1).sub (dkE_sub _ _ _), .inl ⟨hpre ▸ h, hpre.symm, rfl⟩⟩) (fun h => ?_)
  obtain ⟨_, _, b, hb, hn⟩ := namedE_zero h
  rw [hn] at S8
  have S9 : ST w0 w7 (It.cells b15 #[ptrV b] ty.P_disk_file :: dkE D ([It.cells b5 #[.string s] ty.string, It.cells b4 #[.string o] ty.string] ++ E)) := S8
  have S10 : ST w0 w7 (It.cells b15 #[ptrV b] ty.P_disk_file :: It.cells b5 #[.string s] ty.string :: It.cells b4 #[.string o] ty.string :: dkE D E) := S9.perm (List.Perm.cons _ (dkE_perm D _ E))
  have S11 := (S10.pull 1 rfl).pull 1 rfl
  have S12 := S11.pull 2 rfl
  have S12 : ST w0 w7 ((ChgC.rename b4 b15 b5 o s b).its ++ dkE D E) := by
    refine S10.perm ?_
    exact (List.Perm.cons _ (List.Perm.swap _ _ _)).trans (List.Perm.swap _ _ _)
  have S13 : ST w0 w7 (dkE D ((ChgC.rename b4 b15 b5 o s b).its ++ E)) := S12.perm (dkE_perm D _ E).symm
  refine (turn_ok (.rename b4 b15 b5 o s b) S13 (by have := hD.fuseLo; omega) hD.fuseHi (by have := hD.dn; omega) (by have := hD.wn; omega) ⟨nameB_size n1, nameB_size n2⟩).mono ?_
  rintro _ w8 ⟨_, rfl, ⟨hf, h0, rfl, S14⟩ | ⟨hno, rfl, wa, wc, S14⟩⟩
  · exact ⟨_, rfl, _, _, rfl, S14.sub (dkE_sub _ _ _), .inr (.inl ⟨hpre.trans h, ⟨hf, h0⟩, rfl, rfl⟩)⟩
  · exact ⟨_, rfl, _, _, rfl, S14, .inr (.inr ⟨hpre.trans h, fun hb => hno hb, rfl, b4, b15, b5, b, wa, wc, hb, rfl⟩)⟩
end
abbrev NdF (l : List FileC) : Prop := l.Pairwise (fun f g => f.b ≠ g.b)
section
variable {D D' : DiskC} {m : Nat} {e : Int}
theorem DiskOk.offT (h : DiskOk D m) : DiskOk { D with off := true } m :=
  ⟨h.room, h.made, h.nums, h.lasts, h.len, h.all, h.inj, h.has, h.small, h.dn, h.ln, h.wn, h.fn, h.fuseLo, h.fuseHi, h.nm⟩
theorem StepE.ok {pre : Int} {ok : DiskC → Prop} (h : DiskOk D m) (hs : StepE D e D' pre ok) (hok : ok D' → DiskOk D' (m + 2)) : DiskOk D' (m + 2) := by
  rcases hs with ⟨_, _, rfl⟩ | ⟨_, _, _, rfl⟩ | ⟨_, _, _, h'⟩
  · exact h.mono (by omega)
  · exact h.offT.mono (by omega)
  · exact hok h'
theorem turned_ok (h : DiskOk D m) (c : ChgC) (wa : Option Addr) (wc : Nat) (hsm : c.small) (hinj : InjD (c.app D.dir)) (hhas : ∀ x b, c.app D.dir x = some b → ∃ f ∈ D.files, f.b = b) (hnm : ∀ x b, c.app D.dir x = some b → nameB (sof x) = true) : DiskOk (turned D c wa wc) (m + 1) where
  room := h.room
  made := h.made
  nums := h.nums
  lasts := h.lasts
  len := h.len
  all := by show appAll D.last (D.waits ++ [c]) = c.app D.dir; rw [appAll_snoc, h.all]
  inj := fun n hn => by
    have hn : n ≤ (D.waits ++ [c]).length := hn
    show InjD (appAll D.last ((D.waits ++ [c]).take n))
    rcases Nat.lt_or_ge D.waits.length n with hlt | hle
    · rw [List.take_of_length_le (by simp; omega), appAll_snoc, h.all]
      exact hinj
    · rw [List.take_append_of_le_length hle]
      exact h.inj n hle
  has := fun n hn x b hb => by
    have hn : n ≤ (D.waits ++ [c]).length := hn
    have hb : appAll D.last ((D.waits ++ [c]).take n) x = some b := hb
    rcases Nat.lt_or_ge D.waits.length n with hlt | hle
    · rw [List.take_of_length_le (by simp; omega), appAll_snoc, h.all] at hb
      exact hhas x b hb
    · rw [List.take_append_of_le_length hle] at hb
      exact h.has n hle x b hb
  small := fun d hd => by
    rcases List.mem_append.1 (show d ∈ D.waits ++ [c] from hd) with h1 | h1
    · exact h.small d h1
    · rw [List.mem_singleton.1 h1]; exact hsm
  dn := Nat.succ_le_succ h.dn
  ln := Nat.le_succ_of_le h.ln
  wn := by show (D.waits ++ [c]).length ≤ m + 1; have := h.wn; simp; omega
  fn := Nat.le_succ_of_le h.fn
  fuseLo := by show -((m + 1 : Nat) : Int) ≤ D.fuse - 1; have := h.fuseLo; omega
  fuseHi := by show D.fuse - 1 ≤ 9223372036854775807; have := h.fuseHi; omega
  nm := fun n hn x b hb => by
    have hn : n ≤ (D.waits ++ [c]).length := hn
    have hb : appAll D.last ((D.waits ++ [c]).take n) x = some b := hb
    rcases Nat.lt_or_ge D.waits.length n with hlt | hle
    · rw [List.take_of_length_le (by simp; omega), appAll_snoc, h.all] at hb
      exact hnm x b hb
    · rw [List.take_append_of_le_length hle] at hb
      exact h.nm n hle x b hb
theorem grown_ok (h : DiskOk D m) (b : Nat) : DiskOk { D with made := D.made + 1, files := D.files ++ [⟨b, D.made + 1, none, 0, [], 0⟩] } (m + 1) where
  room := h.room
  made := by simp [h.made]
  nums := fun i hi => by
    have hi : i < (D.files ++ [(⟨b, D.made + 1, none, 0, [], 0⟩ : FileC)]).length := hi
    show ((D.files ++ [(⟨b, D.made + 1, none, 0, [], 0⟩ : FileC)])[i]'hi).num = i + 1
    rcases Nat.lt_or_ge i D.files.length with hlt | hge
    · rw [List.getElem_append_left hlt]
      exact h.nums i hlt
    · have : i = D.files.length := by simp at hi; omega
      subst this
      rw [List.getElem_append_right (Nat.le_refl _)]
      simp [h.made]
  lasts := fun f hf => by
    rcases List.mem_append.1 (show f ∈ D.files ++ [_] from hf) with h1 | h1
    · exact h.lasts f h1
    · rw [List.mem_singleton.1 h1]; simp
  len := fun f hf => by
    rcases List.mem_append.1 (show f ∈ D.files ++ [_] from hf) with h1 | h1
    · exact h.len f h1
    · rw [List.mem_singleton.1 h1]; simp
  all := h.all
  inj := h.inj
  has := fun n hn x b hb => by
    obtain ⟨f, hf, e⟩ := h.has n hn x b hb
    exact ⟨f, List.mem_append_left _ hf, e⟩
  small := h.small
  dn := Nat.le_succ_of_le h.dn
  ln := Nat.le_succ_of_le h.ln
  wn := Nat.le_succ_of_le h.wn
  fn := by show (D.files ++ [_]).length ≤ m + 1; have := h.fn; simp; omega
  fuseLo := by show -((m + 1 : Nat) : Int) ≤ D.fuse; have := h.fuseLo; omega
  fuseHi := h.fuseHi
  nm := h.nm
theorem filed_ok (h : DiskOk D m) {pre post : List FileC} {f g : FileC} (hf : D.files = pre ++ f :: post) (hb : g.b = f.b) (hn : g.num = f.num) (hl : g.lasts ≤ g.data.length) (hd : g.data.length ≤ 16777216) :
    DiskOk { D with fuse := D.fuse - 1, files := pre ++ g :: post } (m + 1) where
  room := h.room
  made := by have := h.made; rw [hf] at this; simpa using this
  nums := fun i hi => by
    have hi : i < (pre ++ g :: post).length := hi
    show ((pre ++ g :: post)[i]'hi).num = i + 1
    have hi' : i < D.files.length := by rw [hf]; simpa using hi
    have hq := h.nums i hi'
    have e1 : D.files[i]? = some D.files[i] := List.getElem?_eq_getElem hi'
    have e2 : (pre ++ g :: post)[i]? = some ((pre ++ g :: post)[i]'hi) := List.getElem?_eq_getElem hi
    generalize D.files[i] = u at hq e1
    rw [hf] at e1
    rcases Nat.lt_or_ge i pre.length with hlt | hge
    · rw [List.getElem?_append_left hlt] at e1 e2
      rw [e1] at e2
      injection e2 with e2
      rw [← e2]
      exact hq
    · rw [List.getElem?_append_right hge] at e1 e2
      cases hk : i - pre.length with
      | zero =>
        rw [hk] at e1 e2
        simp only [List.getElem?_cons_zero, Option.some.injEq] at e1 e2
        rw [← e2, hn, e1]
        exact hq
      | succ k =>
        rw [hk] at e1 e2
        simp only [List.getElem?_cons_succ] at e1 e2
        rw [e1] at e2
        injection e2 with e2
        rw [← e2]
        exact hq
  lasts := fun x hx => by
    rcases List.mem_append.1 (show x ∈ pre ++ g :: post from hx) with h1 | h1
    · exact h.lasts x (by rw [hf]; simp [h1])
    · rcases List.mem_cons.1 h1 with rfl | h1
      · exact hl
      · exact h.lasts x (by rw [hf]; simp [h1])
  len := fun x hx => by
    rcases List.mem_append.1 (show x ∈ pre ++ g :: post from hx) with h1 | h1
    · exact h.len x (by rw [hf]; simp [h1])
    · rcases List.mem_cons.1 h1 with rfl | h1
      · exact hd
      · exact h.len x (by rw [hf]; simp [h1])
  all := h.all
  inj := h.inj
  has := fun n hn x b hb' => by
    obtain ⟨y, hy, e⟩ := h.has n hn x b hb'
    show ∃ f ∈ pre ++ g :: post, f.b = b
    rw [hf] at hy
    rcases List.mem_append.1 hy with h1 | h1
    · exact ⟨y, by simp [h1], e⟩
    · rcases List.mem_cons.1 h1 with rfl | h1
      · exact ⟨g, by simp, hb.trans e⟩
      · exact ⟨y, by simp [h1], e⟩
  small := h.small
  dn := Nat.le_succ_of_le h.dn
  ln := Nat.le_succ_of_le h.ln
  wn := Nat.le_succ_of_le h.wn
  fn := by have := h.fn; rw [hf] at this; show (pre ++ g :: post).length ≤ m + 1; simp at this ⊢; omega
  fuseLo := by show -((m + 1 : Nat) : Int) ≤ D.fuse - 1; have := h.fuseLo; omega
  fuseHi := by show D.fuse - 1 ≤ 9223372036854775807; have := h.fuseHi; omega
  nm := h.nm
theorem CreateR.ok {s : ByteArray} (h : DiskOk D m) (hr : CreateR D s e D') (nd : NdF D'.files) : DiskOk D' (m + 2) := by
  by_cases hl : liveE D.off [s] = 0
  case neg => exact StepE.ok h hr (fun _ => by
    rcases hr with ⟨_, _, rfl⟩ | ⟨h0, _⟩ | ⟨h0, _⟩
    · exact h.mono (by omega)
    · exact absurd h0 hl
    · exact absurd h0 hl)
  refine StepE.ok h hr ?_
  rintro ⟨b1, b2, b, wa, wc, rfl⟩
  have hfresh : ∀ f ∈ D.files, f.b ≠ b := fun f hf => (List.pairwise_append.1 (show NdF (D.files ++ [⟨b, D.made + 1, none, 0, [], 0⟩]) from nd)).2.2 f hf _ (List.mem_singleton.2 rfl)
  have hno : ∀ y, D.dir y ≠ some b := fun y hy => by obtain ⟨f, hf, e⟩ := h.hasD hy; exact hfresh f hf e
  refine turned_ok (grown_ok h b) (.create b1 b2 s b) wa wc (nameB_size (live1 hl).2) ?_ ?_ ?_
  · intro x y c hx hy
    simp only [ChgC.app] at hx hy
    by_cases h1 : x = bl s <;> by_cases h2 : y = bl s <;> simp only [h1, h2, if_true, if_false] at hx hy
    · rw [h1, h2]
    · rw [← hx] at hy; exact absurd hy (hno y)
    · rw [← hy] at hx; exact absurd hx (hno x)
    · exact h.injD x y c hx hy
  · intro x c hx
    simp only [ChgC.app] at hx
    by_cases h1 : x = bl s
    · simp only [h1, if_true] at hx
      cases hx
      exact ⟨_, List.mem_append_right _ (List.mem_singleton.2 rfl), rfl⟩
    · simp only [h1, if_false] at hx
      obtain ⟨f, hf, e⟩ := h.hasD hx
      exact ⟨f, List.mem_append_left _ hf, e⟩
  · intro x c hx
    simp only [ChgC.app] at hx
    by_cases h1 : x = bl s
    · rw [h1, sof_bl]; exact (live1 hl).2
    · simp only [h1, if_false] at hx
      exact h.nmD hx
theorem RemoveR.ok {s : ByteArray} (h : DiskOk D m) (hr : RemoveR D s e D') : DiskOk D' (m + 2) := by
  by_cases hl : (namedE D s).2 = 0
  case neg => exact StepE.ok h hr (fun _ => by
    rcases hr with ⟨_, _, rfl⟩ | ⟨h0, _⟩ | ⟨h0, _⟩
    · exact h.mono (by omega)
    · exact absurd h0 hl
    · exact absurd h0 hl)
  refine StepE.ok h hr ?_
  rintro ⟨b1, wa, wc, rfl⟩
  refine (turned_ok h (.remove b1 s) wa wc (nameB_size (namedE_zero hl).1) ?_ ?_ ?_).mono (by omega)
  · intro x y c hx hy
    simp only [ChgC.app] at hx hy
    by_cases h1 : x = bl s <;> by_cases h2 : y = bl s <;> simp only [h1, h2, if_true, if_false] at hx hy
    all_goals first | cases hx | cases hy | skip
    exact h.injD x y c hx hy
  · intro x c hx
    simp only [ChgC.app] at hx
    by_cases h1 : x = bl s
    · simp [h1] at hx
    · simp only [h1, if_false] at hx
      exact h.hasD hx
  · intro x c hx
    simp only [ChgC.app] at hx
    by_cases h1 : x = bl s
    · simp [h1] at hx
    · simp only [h1, if_false] at hx
      exact h.nmD hx
theorem RenameR.ok {o s : ByteArray} (h : DiskOk D m) (hr : RenameR D o s e D') : DiskOk D' (m + 2) := by
  by_cases hl : renamePre D o s = 0
  case neg => exact StepE.ok h hr (fun _ => by
    rcases hr with ⟨_, _, rfl⟩ | ⟨h0, _⟩ | ⟨h0, _⟩
    · exact h.mono (by omega)
    · exact absurd h0 hl
    · exact absurd h0 hl)
  have hlive : liveE D.off [o, s] = 0 := by
    unfold renamePre at hl
    split at hl
    · next h1 => exact absurd hl h1
    · next h1 => simpa using h1
  obtain ⟨_, n1, n2⟩ := live2 hlive
  refine StepE.ok h hr ?_
  rintro ⟨b1, b2, b3, f, wa, wc, hf, rfl⟩
  refine (turned_ok h (.rename b1 b2 b3 o s f) wa wc ⟨nameB_size n1, nameB_size n2⟩ ?_ ?_ ?_).mono (by omega)
  · intro x y c hx hy
    simp only [ChgC.app] at hx hy
    by_cases h1 : x = bl s
    · by_cases h2 : y = bl s
      · rw [h1, h2]
      · rw [if_pos h1] at hx
        rw [if_neg h2] at hy
        by_cases h3 : y = bl o
        · rw [if_pos h3] at hy; cases hy
        · rw [if_neg h3] at hy
          injection hx with hx
          subst hx
          exact absurd (h.injD y (bl o) _ hy hf) h3
    · rw [if_neg h1] at hx
      by_cases h3 : x = bl o
      · rw [if_pos h3] at hx; cases hx
      · rw [if_neg h3] at hx
        by_cases h2 : y = bl s
        · rw [if_pos h2] at hy
          injection hy with hy
          subst hy
          exact absurd (h.injD x (bl o) _ hx hf) h3
        · rw [if_neg h2] at hy
          by_cases h4 : y = bl o
          · rw [if_pos h4] at hy; cases hy
          · rw [if_neg h4] at hy
            exact h.injD x y c hx hy
  · intro x c hx
    simp only [ChgC.app] at hx
    by_cases h1 : x = bl s
    · rw [if_pos h1] at hx
      injection hx with hx
      subst hx
      exact h.hasD hf
    · rw [if_neg h1] at hx
      by_cases h3 : x = bl o
      · rw [if_pos h3] at hx; cases hx
      · rw [if_neg h3] at hx
        exact h.hasD hx
  · intro x c hx
    simp only [ChgC.app] at hx
    by_cases h1 : x = bl s
    · rw [h1, sof_bl]; exact n2
    · rw [if_neg h1] at hx
      by_cases h3 : x = bl o
      · rw [if_pos h3] at hx; cases hx
      · rw [if_neg h3] at hx
        exact h.nmD hx
theorem AppendR.ok {s data : ByteArray} (h : DiskOk D m) (nd : NdF D.files) (hr : AppendR D s data e D') : DiskOk D' (m + 2) := by
  by_cases hl : appendPre D s data = 0
  case neg => exact StepE.ok h hr (fun _ => by
    rcases hr with ⟨_, _, rfl⟩ | ⟨h0, _⟩ | ⟨h0, _⟩
    · exact h.mono (by omega)
    · exact absurd h0 hl
    · exact absurd h0 hl)
  refine StepE.ok h hr ?_
  rintro ⟨pre, f, post, da, dc, hf, hd, rfl⟩
  have hm : f ∈ D.files := by rw [hf]; simp
  have hle : (data.size : Int) ≤ leftD D := by
    unfold appendPre at hl
    split at hl
    · next h1 => exact absurd hl h1
    · split at hl
      · exact absurd hl (by decide)
      · omega
  refine (filed_ok h (g := { f with data := f.data ++ bl data, da := da, dc := dc }) hf rfl rfl ?_ ?_).mono (by omega)
  · have := h.lasts f hm
    simp only [List.length_append]
    omega
  · simp only [List.length_append, bl_length]
    have hlen := h.len f hm
    by_cases hx : ∃ ks, Dom D.dir ks
    · obtain ⟨ks, hks⟩ := hx
      rw [leftD_eq hks] at hle
      have hmem : bl s ∈ ks := (hks.mem _).2 (by rw [hd]; rfl)
      have := sumD_mem D hmem
      rw [dataD_of hd (fileD_of nd hf)] at this
      have := h.room
      omega
    · rw [leftD, dif_neg hx] at hle
      omega
theorem SyncR.ok {s : ByteArray} (h : DiskOk D m) (hr : SyncR D s e D') : DiskOk D' (m + 2) := by
  refine StepE.ok h hr ?_
  rintro ⟨pre, f, post, hf, hd, rfl⟩
  exact (filed_ok h (g := { f with lasts := f.data.length }) hf rfl rfl (Nat.le_refl _) (h.len f (by rw [hf]; simp))).mono (by omega)
def dired (D : DiskC) (lb : Nat) : DiskC := { D with fuse := D.fuse - 1, lb := lb, ln := D.dn, last := D.dir, waits := [], wa := none, wc := 0 }
def DirR (D : DiskC) (e : Int) (D' : DiskC) : Prop := StepE D e D' (liveE D.off []) fun D' => ∃ lb, D' = dired D lb
theorem DirR.ok (h : DiskOk D m) (hr : DirR D e D') : DiskOk D' (m + 2) := by
  refine StepE.ok h hr ?_
  rintro ⟨lb, rfl⟩
  exact {
    room := h.room
    made := h.made
    nums := h.nums
    lasts := h.lasts
    len := h.len
    all := rfl
    inj := fun n _ => by show InjD (appAll D.dir (([] : List ChgC).take n)); rw [List.take_nil]; exact h.injD
    has := fun n _ x b hb => by
      have hb : appAll D.dir (([] : List ChgC).take n) x = some b := hb
      rw [List.take_nil] at hb
      exact h.hasD hb
    small := fun c hc => absurd hc (by simp [dired])
    dn := Nat.le_trans h.dn (by omega)
    ln := Nat.le_trans h.dn (by omega)
    wn := Nat.zero_le _
    fn := Nat.le_trans h.fn (by omega)
    fuseLo := by show -((m + 2 : Nat) : Int) ≤ D.fuse - 1; have := h.fuseLo; omega
    fuseHi := by show D.fuse - 1 ≤ 9223372036854775807; have := h.fuseHi; omega
    nm := fun n _ x b hb => by
      have hb : appAll D.dir (([] : List ChgC).take n) x = some b := hb
      rw [List.take_nil] at hb
      exact h.nmD hb }
end
end Go.Proofs.YtfgbfodohmeamaaGreatDoor
namespace Go.Proofs
set_option maxRecDepth 100000
open Go.Shelf
def Tryz.clone46_ren : Go.Shelf.Ren := ⟨fun | 5 => 46 | 7 => 88 | n => n, fun | 23 => 101 | 25 => 9 | 3 => 106 | 4 => 4 | 20 => 20 | n => n, fun | n => n⟩
theorem Tryz.clone46 : Go.Proofs.SlLaysW.n5 Tryz.prog Tryz.clone46_ren := {
  mixed := by kernel_rfl
  f5 := ⟨Tryz.f46.name, by decide, Tryz.func46.trans (congrArg some (by kernel_rfl))⟩
  f7 := Tryz.func88.trans (congrArg some (by kernel_rfl))
  t4 := Tryz.underlying4
  a4 := Tryz.isAgg4
  z4 := Tryz.sizeOf4
  v4 := Tryz.zeroValue4
  t20 := Tryz.underlying20
  a20 := Tryz.isAgg20
  z20 := Tryz.sizeOf20
  v20 := Tryz.zeroValue20
  t23 := Tryz.underlying101
  a23 := Tryz.isAgg101
  z23 := Tryz.sizeOf101
  v23 := Tryz.zeroValue101 }
end Go.Proofs
namespace Go.Proofs.YtfgbfodohmeamaaGreatDoor
set_option maxRecDepth 100000
open Go.Dn Go.Proofs
open Go.RowKit (Below)
set_option linter.unusedVariables false
section
variable {w0 w : World} {D : DiskC} {E H : List It} {m : Nat}
theorem clone_ok (S : ST w0 w H) (i : Nat) {b n : Nat} {g : DirA} (hi : H[i]? = some (dirI b n g)) : Calls Tryz.prog f.maps_Clone_disk_names_string_disk_file #[.map (some b)] w (Ret fun v w' => ∃ b', v = .map (some b') ∧ ST w0 w' (dirI b' n g :: H)) := by
  have hM : MapP Tryz.prog ty.string w b n g := S.get i hi
  obtain ⟨es, clock, hb, hM'⟩ := hM.copy
  refine (AnyW.maps_Clone Tryz.clone46 b es clock w hb).mono ?_
  rintro _ w1 ⟨rfl, rfl⟩
  exact ⟨_, rfl, _, rfl, S.add ((Below.refl _ w).alloc (Nat.le_refl _) _) (dirI w.heap.size n g) hM' (fun k hk => by cases hk; exact Nat.le_refl _)⟩
theorem dir_ok (S : ST w0 w (dkE D E)) (hD : DiskOk D m) (hm : m + 1 < 1000000) : Calls Tryz.prog f.disk_Disk_Dir #[ptrV D.b] w (Ret fun v w' => ∃ e D', v = .int .i64 e ∧ ST w0 w' (dkE D' E) ∧ DirR D e D') := by
  apply R.disk_Disk_Dir_calls
  unfold R.disk_Disk_Dir
  have hc5 : w.cell? ⟨D.b, 5, none⟩ = some (.bool D.off) := S.cell 0 rfl rfl
  refine (live_ok (a := none) (c := 0) hc5 [] (Rd.nil w none) (by simp) (by simp)).mono ?_
  rintro _ w1 ⟨_, rfl, rfl, B1⟩
  have S1 := S.grown B1
  refine ⟨_, rfl, IFB_ne (fun h => ⟨_, D, rfl, S1, .inl ⟨h, rfl, rfl⟩⟩) (fun h => ?_)⟩
  refine (change_ok S1 (by have := hD.fuseLo; omega) hD.fuseHi).mono ?_
  rintro _ w3 ⟨_, rfl, ⟨hf, h0, rfl, S3⟩ | ⟨hno, rfl, S3⟩⟩
  · exact ⟨_, rfl, IFB_eq (fun h => absurd h (by decide)) (fun _ => ⟨_, _, rfl, S3, .inr (.inl ⟨h, ⟨hf, h0⟩, rfl, rfl⟩)⟩)⟩
  refine ⟨_, rfl, IFB_eq (fun _ => ?_) (fun h => absurd rfl h)⟩
  refine ⟨_, S3.cell 0 rfl rfl, (clone_ok S3 1 rfl).mono ?_⟩
  rintro _ w4 ⟨_, rfl, lb, rfl, S4⟩
  refine ⟨_, rfl, ?_⟩
  show STO ⟨D.b, 3, none⟩ (.map (some lb)) (fun w5 => STO ⟨D.b, 4, none⟩ (.slice none 0 0) (fun w6 => ∃ e D', Value.int .i64 0 = .int .i64 e ∧ ST w0 w6 (dkE D' E) ∧ DirR D e D') w5) w4
  refine S4.sto 1 rfl (cs' := DiskC.cells { D with fuse := D.fuse - 1, lb := lb }) (c8 (D := D) (n := 3) (by decide)) rfl fun w5 S5 => ?_
  refine S5.sto 1 rfl (cs' := DiskC.cells (dired D lb)) (c8 (D := D) (n := 4) (by decide)) rfl fun w6 S6 => ?_
  have S7 : ST w0 w6 (It.row tyFn 1 none 0 0 [] :: dirI lb D.dn D.dir :: It.cells D.b (dired D lb).cells ty.disk_Disk :: dirI D.db D.dn D.dir :: dirI D.lb D.ln D.last :: It.row tyFn 1 D.wa D.waits.length D.wc (D.waits.map ChgC.val) :: (D.waits.flatMap ChgC.its ++ (D.files.flatMap FileC.its ++ E))) := S6.nil tyFn 1
  have S8 : ST w0 w6 (It.row tyFn 1 none 0 0 [] :: dirI lb D.dn D.dir :: It.cells D.b (dired D lb).cells ty.disk_Disk :: dirI D.db D.dn D.dir :: (D.files.flatMap FileC.its ++ E)) :=
    S7.sub (((((List.Sublist.cons _ (List.Sublist.cons _ (List.sublist_append_right _ _))).cons_cons _).cons_cons _).cons_cons _).cons_cons _)
  have S9 := ((S8.pull 1 rfl).pull 3 rfl).pull 3 rfl
  have S10 : ST w0 w6 (dkE (dired D lb) E) := S9
  exact ⟨_, _, rfl, S10, .inr (.inr ⟨h, fun hb => hno hb, rfl, lb, rfl⟩)⟩
end
theorem st_recast {w0 w : World} {H : List It} (S : Go.Dn.ST w0 w H) (i : Nat) {x : It} (hi : H[i]? = some x) (y : It) (hy : y.ok w) (hb : ∀ k, y.blk = some k → x.blk = some k) : Go.Dn.ST w0 w (H.set i y) :=
  S.chg i hi (.refl _ _) y hy (fun k hk => .inl (hb k hk))
theorem tFiles : slT Tryz.prog ty.L_P_disk_file = some (ty.P_disk_file, 1, 8, .pointer none) := by kernel_rfl
section
variable {w0 w : World} {E H : List It}
theorem appendSeq_ok (S : ST w0 w H) (i j : Nat) {lb cb n : Nat} {L : DirA} (hi : H[i]? = some (dirI lb n L)) (hj : H[j]? = some (It.cells cb #[.map (some lb)] ty.disk_names)) (hn : n ≤ 1000000) :
    Calls Tryz.prog f.slices_AppendSeq_disk_file_disk_file #[.slice none 0 0, .func (.func f.maps_Values_disk_names_string_disk_file__c1) #[] #[ptrV cb]] w (Ret fun v w' => ∃ (a : Option Addr) (c : Nat) (ks : List (List UInt8)) (xs : List Nat), v = .slice a xs.length c ∧ Dom L ks ∧ ks.length ≤ n ∧ ks.map L = xs.map some ∧ ST w0 w' (It.row ty.P_disk_file 1 a xs.length c (xs.map ptrV) :: H)) := by
  apply R.slices_AppendSeq_disk_file_disk_file_calls
  unfold R.slices_AppendSeq_disk_file_disk_file
  refine S.newB fun b3 w1 _ _ S1 => ⟨by kernel_rfl, fun rr h1 h2 hyp => ?_⟩
  have S2 := S1.range rr
  refine (R.maps_Values_disk_names_string_disk_file__c1_calls (w1.heap.size + 1) cb (fun _ w7 => ENDL rr (w1.heap.size + 1) (fun j w8 => j = none ∧ ∃ (t : Option Addr) (tl tc : Nat), w8.cell? ⟨b3, 0, none⟩ = some (.slice t tl tc) ∧ w8.heap[w1.heap.size]? = some (.deferred (some [])) ∧
    (∃ (a : Option Addr) (c : Nat) (ks : List (List UInt8)) (xs : List Nat), Value.slice t tl tc = .slice a xs.length c ∧ Dom L ks ∧ ks.length ≤ n ∧ ks.map L = xs.map some ∧ ST w0 (w8.putObj w1.heap.size (.deferred none)) (It.row ty.P_disk_file 1 a xs.length c (xs.map ptrV) :: H))) w7) _ ?_).mono ?_
  case refine_2 =>
    rintro _ w7 ⟨v, rfl, h⟩
    exact ⟨⟨v, rfl⟩, h⟩
  unfold R.maps_Values_disk_names_string_disk_file__c1
  have S3 := S2.nil ty.P_disk_file 1
  have hi' : (It.row ty.P_disk_file 1 none 0 0 [] :: It.obj (w1.heap.size + 1) (.loop rr) :: It.obj w1.heap.size (.deferred (some [])) :: It.cells b3 #[.slice none 0 0] ty.L_P_disk_file :: H)[i + 4]? = some (dirI lb n L) := hi
  refine ⟨_, S3.cell (j + 4) hj rfl, S3.mrange (i + 4) hi' und_str und_names fun r w2 ks hR hmem hnd hlen S4 => ⟨_, rfl, ?_⟩⟩
  refine ⟨fun st w3 => ∃ (ls ds : List (List UInt8)) (xs : List Nat) (a : Option Addr) (c : Nat), RanP Tryz.prog ty.string w3 lb r n L ls ∧ (ds ++ ls).Perm ks ∧ ds.map L = xs.map some ∧ st = [] ∧
    ST w0 w3 (It.own r :: It.row ty.P_disk_file 1 a xs.length c (xs.map ptrV) :: It.obj (w1.heap.size + 1) (.loop rr) :: It.obj w1.heap.size (.deferred (some [])) :: It.cells b3 #[.slice a xs.length c] ty.L_P_disk_file :: H), fun _ w3 => w3.rangeLeft lb r,
    ⟨ks, [], [], none, 0, hR, .refl _, rfl, rfl, S4⟩, ?_⟩
  rintro w3 ⟨ls, ds, xs, a, c, hR3, hp, hds, _, S5⟩
  have hlx : xs.length ≤ n := by
    have h1 := congrArg List.length hds
    have h2 := hp.length_eq
    simp at h1 h2
    omega
  refine hR3.round und_str _ (fun h0 => ?_) fun x b w4 hx hb hxl K hR4 hlt hent => ?_
  · subst h0
    rw [List.append_nil] at hp
    refine S5.endl0 2 h1 h2 rfl fun w8 S8 => ⟨rfl, _, _, _, S8.cell 4 rfl rfl, S8.get 3 rfl, a, c, ds, xs, rfl, ⟨hp.nodup_iff.2 hnd, fun x => hp.mem_iff.trans (hmem x)⟩, by rw [hp.length_eq]; exact hlen, hds, ?_⟩
    have S9 := S8.put 3 rfl (.deferred none)
    exact (S9.drop 1).keep 3
  · have S6 := S5.ranged K hR4.lt.1
    unfold OPR
    rw [hent]
    refine ⟨_, _, rfl, ?_⟩
    -- the map and the range as they lie
    have hrs := hR4.lt.1
    have hls := hR4.map.lt
    have or : w4.heap[r]? = some w4.heap[r] := Array.getElem?_eq_getElem hrs
    have ol : w4.heap[lb]? = some w4.heap[lb] := Array.getElem?_eq_getElem hls
    have hi6 : (It.own r :: It.row ty.P_disk_file 1 a xs.length c (xs.map ptrV) :: It.obj (w1.heap.size + 1) (.loop rr) :: It.obj w1.heap.size (.deferred (some [])) :: It.cells b3 #[.slice a xs.length c] ty.L_P_disk_file :: H)[i + 5]? = some (dirI lb n L) := hi
    have S7 := S6.freeze (i + 5) hi6 rfl ol
    have S8 := S7.freeze 0 rfl rfl or
    have S8 : ST w0 w4 (It.obj r w4.heap[r] :: It.row ty.P_disk_file 1 a xs.length c (xs.map ptrV) :: It.obj (w1.heap.size + 1) (.loop rr) :: It.obj w1.heap.size (.deferred (some [])) :: It.cells b3 #[.slice a xs.length c] ty.L_P_disk_file :: H.set i (It.obj lb w4.heap[lb])) := S8
    refine hyp (some ⟨b, 0, none⟩) _ w4 (S8.get 2 rfl) ?_
    refine S8.begr 2 rfl fun w5 S9 => ⟨_, _, _, S9.cell 4 rfl rfl, S9.newB fun b7 w6 _ _ S10 => ?_⟩
    have hs : Rd w6 (some ⟨b7, 0, none⟩) ([b].map ptrV) := S10.rdc 0 rfl
    refine S10.app 2 rfl tFiles rfl (by omega) (by omega) hs (mm := 1) rfl (by simp; rfl) (by show (xs.length + 1) * 8 ≤ 140737488355328; omega) fun a' c' w7 S11 => ⟨_, _, _, rfl, ?_⟩
    refine S11.sto 5 rfl (cs' := #[.slice a' (xs.length + 1) c']) (by simp) rfl fun w8 S12 => ?_
    refine S12.endr0 3 h1 h2 rfl fun w9 S13 => ?_
    have S14 : ST w0 w9 (It.obj r w4.heap[r] :: It.row ty.P_disk_file 1 a' (xs.length + 1) c' (xs.map ptrV ++ [b].map ptrV) :: It.obj (w1.heap.size + 1) (.loop rr) :: It.obj w1.heap.size (.deferred (some [])) :: It.cells b3 #[.slice a' (xs.length + 1) c'] ty.L_P_disk_file :: H.set i (It.obj lb w4.heap[lb])) := S13.drop 1
    have hset : (H.set i (It.obj lb w4.heap[lb]))[i]? = some (It.obj lb w4.heap[lb]) := List.getElem?_set_self (List.getElem?_eq_some_iff.1 hi).1
    have er : w9.heap[r]? = w4.heap[r]? := (S14.get 0 rfl).trans or.symm
    have el : w9.heap[lb]? = w4.heap[lb]? := (S14.get (i + 5) hset).trans ol.symm
    have hR9 := hR4.same el er
    have S15 := st_recast S14 (i + 5) hset (dirI lb n L) hR9.map (fun k hk => hk)
    have S16 := st_recast S15 0 rfl (It.own r) hR9.lt.1 (fun k hk => hk)
    have S17 : ST w0 w9 (It.own r :: It.row ty.P_disk_file 1 a' (xs.length + 1) c' (xs.map ptrV ++ [b].map ptrV) :: It.obj (w1.heap.size + 1) (.loop rr) :: It.obj w1.heap.size (.deferred (some [])) :: It.cells b3 #[.slice a' (xs.length + 1) c'] ty.L_P_disk_file :: (H.set i (It.obj lb w4.heap[lb])).set i (dirI lb n L)) := S16
    rw [List.set_set, WideElems.set_self H i _ hi, ← List.map_append] at S17
    have e2 : (xs ++ [b]).length = xs.length + 1 := by simp
    rw [← e2] at S17
    refine ⟨⟨ls.erase x, ds ++ [x], xs ++ [b], a', c', hR9, ?_, ?_, rfl, S17⟩, ?_⟩
    · rw [List.append_assoc]
      exact (List.Perm.append_left ds (List.perm_cons_erase hx).symm).trans hp
    · rw [List.map_append, List.map_append, hds, List.map_singleton, List.map_singleton, hb]
    · show w9.rangeLeft lb r < w3.rangeLeft lb r
      rw [rangeLeft_same el er]
      exact hlt
theorem collect_ok (S : ST w0 w H) (i j : Nat) {lb cb n : Nat} {L : DirA} (hi : H[i]? = some (dirI lb n L)) (hj : H[j]? = some (It.cells cb #[.map (some lb)] ty.disk_names)) (hn : n ≤ 1000000) :
    Calls Tryz.prog f.slices_Collect_disk_file #[.func (.func f.maps_Values_disk_names_string_disk_file__c1) #[] #[ptrV cb]] w (Ret fun v w' => ∃ (a : Option Addr) (c : Nat) (ks : List (List UInt8)) (xs : List Nat), v = .slice a xs.length c ∧ Dom L ks ∧ ks.length ≤ n ∧ ks.map L = xs.map some ∧ ST w0 w' (It.row ty.P_disk_file 1 a xs.length c (xs.map ptrV) :: H)) := by
  apply R.slices_Collect_disk_file_calls
  unfold R.slices_Collect_disk_file
  refine (appendSeq_ok S i j hi hj hn).mono ?_
  rintro _ w1 ⟨_, rfl, a, c, ks, xs, rfl, h1, h2, h3, S1⟩
  exact ⟨_, _, _, rfl, a, c, ks, xs, rfl, h1, h2, h3, S1⟩
theorem values_ok (S : ST w0 w H) (lb : Nat) : Calls Tryz.prog f.maps_Values_disk_names_string_disk_file #[.map (some lb)] w (Ret fun v w' => ∃ cb, v = .func (.func f.maps_Values_disk_names_string_disk_file__c1) #[] #[ptrV cb] ∧ ST w0 w' (It.cells cb #[.map (some lb)] ty.disk_names :: H)) := by
  apply R.maps_Values_disk_names_string_disk_file_calls
  unfold R.maps_Values_disk_names_string_disk_file
  exact S.newB fun b w1 _ _ S1 => ⟨b, rfl, S1⟩
end
theorem pFile : Tryz.prog.underlying ty.P_disk_file = some (.pointer ty.disk_file) := by kernel_rfl
theorem infoFile : ∃ j, Tryz.prog.info? ty.disk_file = some j ∧ j.size ≠ 0 := by
  have h : (Tryz.prog.info? ty.disk_file).any (fun j => j.size != 0) = true := by kernel_rfl
  cases hi : Tryz.prog.info? ty.disk_file with
  | none => rw [hi] at h; cases h
  | some j => rw [hi] at h; exact ⟨j, rfl, by simpa using h⟩
theorem ptrOk_grown {w w' : World} {a : Nat} (h : PtrOk w a) (B : Below w.heap.size w w') : PtrOk w' a := by
  obtain ⟨cs, t, h⟩ := h
  exact ⟨cs, t, (B.block a (Array.getElem?_eq_some_iff.1 h).1).trans h⟩
theorem rdP_at {w : World} {a : Option Addr} {xs : List Nat} (h : Rd w a (xs.map ptrV)) {i : Nat} (hi : i < xs.length) : ∃ p, a = some p ∧ w.cell? (p.add (i * 1)) = some (ptrV xs[i]) := by
  obtain ⟨p, hp, hc⟩ := h i (ptrV xs[i]) (by simp [hi])
  exact ⟨p, hp, by rw [Nat.mul_one]; exact hc⟩
theorem compact_ok {w : World} {a : Option Addr} {c : Nat} (xs : List Nat) (hr : Rd w a (xs.map ptrV)) (hp : ∀ b ∈ xs, PtrOk w b) (hnd : xs.Nodup) (hn : xs.length ≤ 1000000) :
    Calls Tryz.prog f.slices_Compact_disk_file_disk_file #[.slice a xs.length c] w (Ret fun v w' => v = .slice a xs.length c ∧ Below w.heap.size w w') := by
  apply R.slices_Compact_disk_file_disk_file_calls
  unfold R.slices_Compact_disk_file_disk_file
  refine IFB_dec (fun _ => ⟨rfl, .refl _ _⟩) (fun h2 => ?_)
  refine ⟨fun st w1 => ∃ i : Nat, st = [.int .i64 (i : Int)] ∧ 1 ≤ i ∧ i ≤ xs.length ∧ Below w.heap.size w w1, fun st _ => match st with
    | [.int _ i] => xs.length - i.toNat
    | _ => 0, ⟨1, rfl, by omega, by omega, .refl _ _⟩, ?_⟩
  rintro _ w1 ⟨i, hst, h1, hi, B1⟩
  cases hst
  refine IFB_dec (fun hlt => ?_) (fun _ => ⟨rfl, B1⟩)
  have hil : i < xs.length := by omega
  have B2 : Below w.heap.size w w1.drew := B1.drew
  have ew : IntKind.i64.wrap ((i : Int) - 1) = ((i - 1 : Nat) : Int) := by rw [wrap_i64 (by omega) (by omega)]; omega
  obtain ⟨p, rfl, hp1⟩ := rdP_at (hr.grown B2) hil
  obtain ⟨p', hp', hp2⟩ := rdP_at (hr.grown B2) (show i - 1 < xs.length by omega)
  cases hp'
  show (0 ≤ (i : Int) ∧ (i : Int) < (xs.length : Int)) ∧ _
  refine ⟨⟨by omega, hlt⟩, ?_⟩
  rw [ew]
  refine ⟨⟨by omega, by omega⟩, _, by rw [Int.toNat_natCast]; exact hp1, _, by rw [Int.toNat_natCast]; exact hp2, ?_⟩
  obtain ⟨jf, hj1, hj2⟩ := infoFile
  have hne : xs[i] ≠ xs[i - 1] := fun e => (List.pairwise_iff_getElem.1 hnd) (i - 1) i (by omega) hil (by omega) e.symm
  unfold OPR
  rw [run_eql_ptr pFile hj1 hj2 (ptrOk_grown (hp xs[i] (List.getElem_mem _)) B2) (ptrOk_grown (hp xs[i - 1] (List.getElem_mem _)) B2)]
  refine ⟨_, rfl, ?_⟩
  rw [decide_eq_false hne]
  refine IFB_false ?_
  rw [wrap_succ (by omega)]
  exact ⟨⟨i + 1, rfl, by omega, by omega, B2⟩, by show xs.length - ((i + 1 : Nat) : Int).toNat < xs.length - ((i : Nat) : Int).toNat; simp only [Int.toNat_natCast]; omega⟩
section
variable {w0 w : World} {D : DiskC} {E H : List It} {m : Nat}
theorem row_empty {b : Nat} {t : TypeId} {sz : Nat} (h : w.heap[b]? = some (.cells #[] t (0, 0))) : Row w t sz (some ⟨b, 0, none⟩) 0 0 [] :=
  ⟨by simp, .inr ⟨b, #[], rfl, h, by omega, by omega, by simp, by simp⟩⟩
theorem cloneB_ok (S : ST w0 w H) {a : Option Addr} {c : Nat} {l : List UInt8} (h : Rd w a (l.map byteV)) (hl : l.length ≤ 100000000) : Calls Tryz.prog f.slices_Clone_byte_byte #[.slice a l.length c] w (Ret fun v w' => ∃ a' c', v = .slice a' l.length c' ∧ ST w0 w' (bytesI a' c' l :: H)) := by
  apply R.slices_Clone_byte_byte_calls
  unfold R.slices_Clone_byte_byte
  cases a with
  | none =>
    have : l = [] := by
      cases l with
      | nil => rfl
      | cons x l =>
        obtain ⟨p, hp, _⟩ := h 0 (byteV x) (by simp)
        cases hp
    subst this
    exact IFB_true ⟨none, 0, rfl, S.nil _ _⟩
  | some q =>
    refine IFB_false (S.newB fun b2 w1 _ B1 S => ?_)
    have S := S.chg 0 rfl (.refl _ _) (It.row ty.uint8 1 (some ⟨b2, 0, none⟩) 0 0 []) (row_empty (S.blk 0 rfl)) (fun k hk => .inl hk)
    refine S.app 0 rfl tB zB (by omega) (by omega) (h.grown B1) (mm := l.length) (by simp) (bytes_one _) (by omega) fun a' c' w' S => ⟨_, _, _, rfl, a', c', by rw [Nat.zero_add], ?_⟩
    simp only [Nat.zero_add, List.nil_append] at S
    exact S
theorem cmp_ok {a b : Nat} {n k : Int} (ha : w.cell? ⟨a, 0, none⟩ = some (.int .i64 n)) (hb : w.cell? ⟨b, 0, none⟩ = some (.int .i64 k)) (h1 : 0 ≤ n ∧ n ≤ 1000000) (h2 : 0 ≤ k ∧ k ≤ 1000000) :
    Calls Tryz.prog f.disk_Disk_Crash_c1 #[ptrV a, ptrV b] w (Ret fun v w' => v = .int .i64 (n - k) ∧ w' = w.drew) := by
  apply R.disk_Disk_Crash_c1_calls
  unfold R.disk_Disk_Crash_c1
  have ew : IntKind.i64.wrap (n - k) = n - k := wrap_i64 (by omega) (by omega)
  refine ⟨_, ha, _, hb, ?_⟩
  rw [ew]
  exact ⟨rfl, rfl⟩
end
end Go.Proofs.YtfgbfodohmeamaaGreatDoor
namespace Go.Proofs
set_option maxRecDepth 100000
open Go.Shelf
def Tryz.sort90_ren : Go.Shelf.Ren := ⟨fun | 6 => 90 | 15 => 119 | 14 => 118 | 28 => 147 | 29 => 148 | 20 => 139 | 21 => 140 | 22 => 141 | 23 => 142 | 24 => 143 | 25 => 144 | 26 => 145 | 27 => 146 | 46 => 164 | 47 => 165 | 48 => 166 | 49 => 167 | 50 => 168 | 57 => 176 | n => n, fun | 22 => 108 | 24 => 106 | 25 => 116 | 3 => 3 | 39 => 179 | 0 => 0 | 53 => 159 | 55 => 164 | 4 => 4 | 46 => 200 | 45 => 199 | 50 => 204 | 5 => 5 | 9 => 9 | 66 => 222 | 70 => 226 | 76 => 231 | 77 => 232 | n => n, fun | n => n⟩
theorem Tryz.sort90 : Go.Proofs.SlLaysF.n6 Tryz.prog Tryz.sort90_ren := {
  mixed := by kernel_rfl
  f6 := ⟨Tryz.f90.name, by decide, Tryz.func90.trans (congrArg some (by kernel_rfl))⟩
  f14 := ⟨Tryz.f118.name, by decide, Tryz.func118.trans (congrArg some (by kernel_rfl))⟩
  f15 := Tryz.func119.trans (congrArg some (by kernel_rfl))
  f20 := ⟨Tryz.f139.name, by decide, Tryz.func139.trans (congrArg some (by kernel_rfl))⟩
  f21 := ⟨Tryz.f140.name, by decide, Tryz.func140.trans (congrArg some (by kernel_rfl))⟩
  f22 := ⟨Tryz.f141.name, by decide, Tryz.func141.trans (congrArg some (by kernel_rfl))⟩
  f23 := ⟨Tryz.f142.name, by decide, Tryz.func142.trans (congrArg some (by kernel_rfl))⟩
  f24 := ⟨Tryz.f143.name, by decide, Tryz.func143.trans (congrArg some (by kernel_rfl))⟩
  f25 := ⟨Tryz.f144.name, by decide, Tryz.func144.trans (congrArg some (by kernel_rfl))⟩
  f26 := ⟨Tryz.f145.name, by decide, Tryz.func145.trans (congrArg some (by kernel_rfl))⟩
  f27 := ⟨Tryz.f146.name, by decide, Tryz.func146.trans (congrArg some (by kernel_rfl))⟩
  f28 := Tryz.func147.trans (congrArg some (by kernel_rfl))
  f29 := Tryz.func148.trans (congrArg some (by kernel_rfl))
  f46 := ⟨Tryz.f164.name, by decide, Tryz.func164.trans (congrArg some (by kernel_rfl))⟩
  f47 := Tryz.func165.trans (congrArg some (by kernel_rfl))
  f48 := Tryz.func166.trans (congrArg some (by kernel_rfl))
  f49 := ⟨Tryz.f167.name, by decide, Tryz.func167.trans (congrArg some (by kernel_rfl))⟩
  f50 := ⟨Tryz.f168.name, by decide, Tryz.func168.trans (congrArg some (by kernel_rfl))⟩
  f57 := ⟨Tryz.f176.name, by decide, Tryz.func176.trans (congrArg some (by kernel_rfl))⟩
  t0 := Tryz.underlying0
  a0 := Tryz.isAgg0
  z0 := Tryz.sizeOf0
  v0 := Tryz.zeroValue0
  t3 := Tryz.underlying3
  a3 := Tryz.isAgg3
  z3 := Tryz.sizeOf3
  v3 := Tryz.zeroValue3
  t4 := Tryz.underlying4
  a4 := Tryz.isAgg4
  z4 := Tryz.sizeOf4
  v4 := Tryz.zeroValue4
  t5 := Tryz.underlying5
  a5 := Tryz.isAgg5
  z5 := Tryz.sizeOf5
  v5 := Tryz.zeroValue5
  t9 := Tryz.underlying9
  a9 := Tryz.isAgg9
  z9 := Tryz.sizeOf9
  v9 := Tryz.zeroValue9
  t22 := Tryz.underlying108
  a22 := Tryz.isAgg108
  z22 := Tryz.sizeOf108
  v22 := Tryz.zeroValue108
  a24 := Tryz.isAgg106
  z24 := Tryz.sizeOf106
  t25 := Tryz.underlying116
  a25 := Tryz.isAgg116
  z25 := Tryz.sizeOf116
  v25 := Tryz.zeroValue116
  t39 := Tryz.underlying179
  a39 := Tryz.isAgg179
  z39 := Tryz.sizeOf179
  v39 := Tryz.zeroValue179
  t45 := Tryz.underlying199
  a45 := Tryz.isAgg199
  z45 := Tryz.sizeOf199
  v45 := Tryz.zeroValue199
  t46 := Tryz.underlying200
  a46 := Tryz.isAgg200
  z46 := Tryz.sizeOf200
  v46 := Tryz.zeroValue200
  t50 := Tryz.underlying204
  a50 := Tryz.isAgg204
  z50 := Tryz.sizeOf204
  v50 := Tryz.zeroValue204
  t53 := Tryz.underlying159
  a53 := Tryz.isAgg159
  z53 := Tryz.sizeOf159
  v53 := Tryz.zeroValue159
  t55 := Tryz.underlying164
  a55 := Tryz.isAgg164
  z55 := Tryz.sizeOf164
  v55 := Tryz.zeroValue164
  t66 := Tryz.underlying222
  a66 := Tryz.isAgg222
  z66 := Tryz.sizeOf222
  v66 := Tryz.zeroValue222
  t70 := Tryz.underlying226
  a70 := Tryz.isAgg226
  z70 := Tryz.sizeOf226
  v70 := Tryz.zeroValue226
  t76 := Tryz.underlying231
  a76 := Tryz.isAgg231
  z76 := Tryz.sizeOf231
  v76 := Tryz.zeroValue231
  t77 := Tryz.underlying232
  a77 := Tryz.isAgg232
  z77 := Tryz.sizeOf232
  v77 := Tryz.zeroValue232 }
end Go.Proofs
namespace Go.Proofs.YtfgbfodohmeamaaGreatDoor
set_option maxRecDepth 100000
open Go.Dn Go.Proofs
open Go.RowKit (Below)
open Go.Sort (Holds PermIn SortedIn putCells putRow SWO)
set_option linter.unusedVariables false
section
variable {α : Type} [Inhabited α]
theorem sortWorld_heap (enc : α → Value) (w : World) (blk off m : Nat) (dk : Array α) (os : Array Obj) {k : Nat} (hk : k < w.heap.size) : (sortWorld enc w blk off m dk os).heap[k]? = if blk = k then (w.heap[k]?).map (Go.Sort.onCells (putCells enc off dk)) else w.heap[k]? := by
  simp only [sortWorld, Go.Sort.grow, putRow, Go.Sort.mapBlock, Go.Sort.ahead]
  rw [Array.getElem?_append_left (by simpa using hk), Array.getElem?_modify]
theorem sortWorld_keeps (enc : α → Value) (w : World) (blk off m : Nat) (dk : Array α) (os : Array Obj) : Keeps (fun k => some blk = some k) w (sortWorld enc w blk off m dk os) where
  os := rfl
  tape := rfl
  output := rfl
  size := by simp [sortWorld, Go.Sort.grow, putRow, Go.Sort.mapBlock, Go.Sort.ahead]
  block := fun k hk hn => by rw [sortWorld_heap enc w blk off m dk os hk, if_neg (fun e => hn (by rw [e]))]
end
theorem lift_list {α β : Type} {p : β → Prop} (f : β → α) : ∀ (xs : List α), (∀ x ∈ xs, ∃ y, p y ∧ f y = x) → ∃ ys : List {y // p y}, ys.map (fun y => f y.1) = xs
  | [], _ => ⟨[], rfl⟩
  | x :: xs, h => by
    obtain ⟨ys, hys⟩ := lift_list f xs fun z hz => h z (List.mem_cons_of_mem _ hz)
    obtain ⟨y, hy, rfl⟩ := h x List.mem_cons_self
    exact ⟨⟨y, hy⟩ :: ys, by simp [hys]⟩
section
variable {w0 w : World} {E H : List It}
theorem sortFn_none (a : Option Addr) (c : Nat) (fv : Value) (w : World) : Calls Tryz.prog f.slices_SortFunc_disk_file_disk_file #[.slice a 0 c, fv] w fun e w' => e = .returned (.tuple #[]) ∧ w' = w :=
  AnyF.slices_SortFunc_none (ρ := Tryz.sort90_ren) { Tryz.sort90 with } a c fv w
structure ByNum (fs : List FileC) (L : DirA) (gs : List FileC) : Prop where
  up : gs.Pairwise (fun f g => f.num < g.num)
  mem : ∀ f, f ∈ gs ↔ f ∈ fs ∧ ∃ x, L x = some f.b
theorem sortFn_ok {fs : List FileC} {a : Option Addr} {c : Nat} (ds : List {f : FileC // f ∈ fs}) (S : ST w0 w (It.row ty.P_disk_file 1 a ds.length c (ds.map fun f => ptrV f.1.b) :: H)) (hF : ∀ f ∈ fs, It.cells f.b f.cells ty.disk_file ∈ H) (hnum : ∀ f ∈ fs, f.num ≤ 1000000) (hn : ds.length ≤ 1000000) :
    Calls Tryz.prog f.slices_SortFunc_disk_file_disk_file #[.slice a ds.length c, .func (.func f.disk_Disk_Crash_c1) #[] #[]] w (Ret fun v w' => v = .tuple #[] ∧ ∃ es : List {f : FileC // f ∈ fs}, es.Perm ds ∧ es.Pairwise (fun f g => f.1.num ≤ g.1.num) ∧ ST w0 w' (It.row ty.P_disk_file 1 a es.length c (es.map fun f => ptrV f.1.b) :: H)) := by
  have hrow := S.rw 0 rfl
  rcases hrow.2 with ⟨rfl, h0, rfl⟩ | ⟨blk, cur, rfl, hg, hnc, hcm, hcs, htake⟩
  · have : ds = [] := List.eq_nil_of_length_eq_zero h0
    subst this
    refine (sortFn_none _ _ _ w).mono ?_
    rintro _ w1 ⟨rfl, rfl⟩
    exact ⟨_, rfl, rfl, [], .refl _, .nil, S⟩
  cases hds : ds with
  | nil =>
    subst hds
    refine (sortFn_none _ _ _ w).mono ?_
    rintro _ w1 ⟨rfl, rfl⟩
    exact ⟨_, rfl, rfl, [], .refl _, .nil, S⟩
  | cons d0 ds0 =>
  rw [← hds]
  haveI : Inhabited {f : FileC // f ∈ fs} := ⟨d0⟩
  have hblk : blk < w.heap.size := (Array.getElem?_eq_some_iff.1 hg).1
  have henc : ∀ j (hj : j < ds.length), cur[j]? = some (ptrV ds[j].1.b) := fun j hj => by
    have h := congrArg (fun l => l[j]?) htake
    simp only [List.getElem?_map, List.getElem?_eq_getElem hj, Option.map_some] at h
    rw [List.getElem?_take_of_lt (by omega)] at h
    simpa using h
  have hmem : ∀ f : {f : FileC // f ∈ fs}, w.heap[f.1.b]? = some (.cells f.1.cells ty.disk_file (0, 0)) ∧ f.1.b ≠ blk := fun f => by
    have hin := hF f.1 f.2
    refine ⟨S.ok _ (List.mem_cons_of_mem _ hin), fun e => ?_⟩
    exact (List.pairwise_cons.1 S.nd).1 _ hin blk rfl (by rw [← e]; rfl)
  have hcmp : CmpReads Tryz.prog f.disk_Disk_Crash_c1 #[] (fun f : {f : FileC // f ∈ fs} => ptrV f.1.b) (fun f g => (f.1.num : Int) - (g.1.num : Int)) blk 0 ds.toArray.size w := fun m os dk hs x y => by
    have hc : ∀ f : {f : FileC // f ∈ fs}, (sortWorld (fun f : {f : FileC // f ∈ fs} => ptrV f.1.b) w blk 0 m dk os).cell? ⟨f.1.b, 0, none⟩ = some (.int .i64 (f.1.num : Int)) := fun f => by
      obtain ⟨h1, h2⟩ := hmem f
      have := (sortWorld_heap (fun f : {f : FileC // f ∈ fs} => ptrV f.1.b) w blk 0 m dk os (Array.getElem?_eq_some_iff.1 h1).1).trans (if_neg (Ne.symm h2))
      simp [World.cell?, this, h1, FileC.cells]
    refine (cmp_ok (hc x) (hc y) ⟨by omega, by have := hnum x.1 x.2; omega⟩ ⟨by omega, by have := hnum y.1 y.2; omega⟩).mono ?_
    rintro _ w1 ⟨_, rfl, rfl, rfl⟩
    exact ⟨rfl, 1, rfl⟩
  refine (Any.slices_SortFunc Tryz.sort90 (fun f : {f : FileC // f ∈ fs} => ptrV f.1.b) (fun _ => rfl) (fun f g => (f.1.num : Int) - (g.1.num : Int)) ?_ f.disk_Disk_Crash_c1 #[] blk 0 c ds.toArray w (enters_of Tryz.func49 (by kernel_rfl) rfl) (CmpReads.lays hcmp) ?_ hblk ?_).mono ?_
  · exact ⟨fun x => by simp [ltOf], fun x y z h1 h2 => by simp [ltOf] at *; omega, fun x y z h1 h2 => by simp [ltOf] at *; omega⟩
  · intro j hj
    have hj' : j < ds.length := by simpa using hj
    constructor
    · simp [World.cell?, hg, henc j hj', hj']
    · simp [World.frozen?, hg]
  · simp; omega
  · rintro _ w1 ⟨rfl, d', n, os, hperm, hsort, rfl⟩
    obtain ⟨hsz, _, hp⟩ := hperm
    have e1 : d'.extract 0 ds.toArray.size = d' := by rw [← hsz]; simp
    have e2 : ds.toArray.extract 0 ds.toArray.size = ds.toArray := by simp
    rw [e1, e2] at hp
    have hsz : d'.size = ds.length := by simpa using hsz
    refine ⟨_, rfl, rfl, d'.toList, by simpa using hp, ?_, ?_⟩
    · refine List.pairwise_iff_getElem.2 fun i j hi hj hij => ?_
      have hi' : i < d'.size := by simpa using hi
      have hj' : j < d'.size := by simpa using hj
      have := hsort i j (Nat.zero_le _) hij (by simp; omega)
      rw [getElem!_pos d' i hi', getElem!_pos d' j hj'] at this
      simp only [ltOf, decide_eq_false_iff_not, Int.not_lt] at this
      simp only [Array.getElem_toList]
      omega
    · have hlen : d'.toList.length = ds.length := by simpa using hsz
      rw [hlen]
      refine S.chg 0 rfl (sortWorld_keeps _ w blk 0 n d' os) (It.row ty.P_disk_file 1 (some ⟨blk, 0, none⟩) ds.length c (d'.toList.map fun f => ptrV f.1.b)) ⟨by simp [hsz], .inr ⟨blk, putCells (fun f : {f : FileC // f ∈ fs} => ptrV f.1.b) 0 d' cur, rfl, ?_, hnc, hcm, ?_, ?_⟩⟩ (fun k hk => .inl hk)
      · rw [sortWorld_heap _ w blk 0 n d' os hblk, if_pos rfl, hg]
        rfl
      · simp [putCells, hcs]
      · apply List.ext_getElem?
        intro i
        rcases Nat.lt_or_ge i ds.length with hi | hi
        · have hi2 : i < d'.size := by omega
          have hic : i < cur.size := by omega
          rw [List.getElem?_take_of_lt (by omega)]
          simp only [putCells, Array.getElem?_toList, Array.getElem?_mapIdx, Array.getElem?_eq_getElem hic, Option.map_some, List.getElem?_map, Array.getElem?_eq_getElem hi2]
          rw [if_pos ⟨Nat.zero_le _, by omega⟩, Nat.sub_zero, getElem!_pos d' i hi2]
        · rw [List.getElem?_eq_none (by simp; omega), List.getElem?_eq_none (by simp; omega)]
end
end Go.Proofs.YtfgbfodohmeamaaGreatDoor
namespace Go.Proofs.YtfgbfodohmeamaaGreatDoor
set_option maxRecDepth 100000
open Go.Dn Go.Proofs
open Go.RowKit (Below)
set_option linter.unusedVariables false
theorem nd_inj {fs : List FileC} (h : NdF fs) {f g : FileC} (hf : f ∈ fs) (hg : g ∈ fs) (e : f.b = g.b) : f = g := by
  obtain ⟨i, hi, rfl⟩ := List.mem_iff_getElem.1 hf
  obtain ⟨j, hj, rfl⟩ := List.mem_iff_getElem.1 hg
  rcases Nat.lt_trichotomy i j with h1 | rfl | h1
  · exact absurd e ((List.pairwise_iff_getElem.1 h) i j hi hj h1)
  · rfl
  · exact absurd e.symm ((List.pairwise_iff_getElem.1 h) j i hj hi h1)
theorem DiskOk.num_inj {D : DiskC} {m : Nat} (h : DiskOk D m) {f g : FileC} (hf : f ∈ D.files) (hg : g ∈ D.files) (e : f.num = g.num) : f = g := by
  obtain ⟨i, hi, rfl⟩ := List.mem_iff_getElem.1 hf
  obtain ⟨j, hj, rfl⟩ := List.mem_iff_getElem.1 hg
  rw [h.nums i hi, h.nums j hj] at e
  have : i = j := by omega
  subst this
  rfl
theorem DiskOk.num_le {D : DiskC} {m : Nat} (h : DiskOk D m) {f : FileC} (hf : f ∈ D.files) : 1 ≤ f.num ∧ f.num ≤ m := by
  obtain ⟨i, hi, rfl⟩ := List.mem_iff_getElem.1 hf
  rw [h.nums i hi]
  have := h.fn
  omega
section
variable {w0 w : World} {D : DiskC} {E H : List It} {m : Nat}
theorem sortedFunc_ok (S : ST w0 w H) (i j : Nat) {lb cb n : Nat} {L : DirA} (hi : H[i]? = some (dirI lb n L)) (hj : H[j]? = some (It.cells cb #[.map (some lb)] ty.disk_names)) (hn : n ≤ 1000000) {fs : List FileC}
    (hF : ∀ f ∈ fs, It.cells f.b f.cells ty.disk_file ∈ H) (hnum : ∀ f ∈ fs, f.num ≤ 1000000) (hinj : ∀ f ∈ fs, ∀ g ∈ fs, f.num = g.num → f = g) (nd : NdF fs) (hL : ∀ x b, L x = some b → ∃ f ∈ fs, f.b = b) (hI : InjD L) :
    Calls Tryz.prog f.slices_SortedFunc_disk_file #[.func (.func f.maps_Values_disk_names_string_disk_file__c1) #[] #[ptrV cb], .func (.func f.disk_Disk_Crash_c1) #[] #[]] w (Ret fun v w' => ∃ (a : Option Addr) (c : Nat) (gs : List FileC), v = .slice a gs.length c ∧ gs.length ≤ n ∧ ByNum fs L gs ∧ ST w0 w' (It.row ty.P_disk_file 1 a gs.length c (gs.map fun f => ptrV f.b) :: H)) := by
  apply R.slices_SortedFunc_disk_file_calls
  unfold R.slices_SortedFunc_disk_file
  refine (collect_ok S i j hi hj hn).mono ?_
  rintro _ w1 ⟨_, rfl, a, c, ks, xs, rfl, hdom, hkn, hks, S1⟩
  have hxl : xs.length = ks.length := by have := congrArg List.length hks; simpa using this.symm
  have hxm : ∀ b, b ∈ xs ↔ ∃ x, L x = some b := fun b => by
    have h1 : b ∈ xs ↔ some b ∈ ks.map L := by rw [hks]; simp
    rw [h1, List.mem_map]
    constructor
    · rintro ⟨x, _, h⟩; exact ⟨x, h⟩
    · rintro ⟨x, h⟩; exact ⟨x, (hdom.mem x).2 (by rw [h]; rfl), h⟩
  have hxnd : xs.Nodup := by
    have h1 : (xs.map some).Nodup := by
      rw [← hks]
      refine List.pairwise_map.2 (hdom.nd.imp_of_mem fun {x y} hx hy hne e => ?_)
      obtain ⟨b, hb⟩ := Option.isSome_iff_exists.1 ((hdom.mem x).1 hx)
      exact hne (hI x y b hb (e ▸ hb))
    exact List.Pairwise.of_map some (fun a b h e => h (by rw [e])) h1
  obtain ⟨ds, hds⟩ := lift_list (p := (· ∈ fs)) (·.b) xs fun b hb => by obtain ⟨x, hx⟩ := (hxm b).1 hb; exact hL x b hx
  have hdl : ds.length = xs.length := by rw [← hds, List.length_map]
  have e1 : xs.map ptrV = ds.map fun f => ptrV f.1.b := by rw [← hds, List.map_map]; rfl
  rw [← hdl, e1] at S1
  refine ⟨_, _, _, rfl, ?_⟩
  rw [← hdl]
  refine (sortFn_ok ds S1 hF hnum (by omega)).mono ?_
  rintro _ w2 ⟨_, rfl, rfl, es, hp, hup, S2⟩
  have hel : es.length = ds.length := hp.length_eq
  have hebp : (es.map fun f => f.1.b).Perm xs := by rw [← hds]; exact hp.map _
  have hend : (es.map fun f => f.1.b).Nodup := hebp.nodup_iff.2 hxnd
  refine ⟨rfl, a, c, es.map (·.1), by rw [List.length_map, hel], by rw [List.length_map, hel, hdl, hxl]; exact hkn, ⟨?_, ?_⟩, ?_⟩
  · rw [List.pairwise_map]
    refine (hup.and (List.pairwise_map.1 hend)).imp fun {f g} ⟨h1, h2⟩ => ?_
    have : f.1.num ≠ g.1.num := fun e => h2 (by rw [hinj f.1 f.2 g.1 g.2 e])
    omega
  · intro f
    rw [List.mem_map]
    constructor
    · rintro ⟨g, hg, rfl⟩
      exact ⟨g.2, (hxm g.1.b).1 (hebp.mem_iff.1 (List.mem_map_of_mem (f := fun f : {f : FileC // f ∈ fs} => f.1.b) hg))⟩
    · rintro ⟨hf, hx⟩
      have := hebp.mem_iff.2 ((hxm f.b).2 hx)
      obtain ⟨g, hg, e⟩ := List.mem_map.1 this
      exact ⟨g, hg, nd_inj nd g.2 hf e⟩
  · rw [List.map_map, List.length_map]
    exact S2
end
def clampI (k hi : Int) : Int := if (if hi < k then hi else k) > 0 then (if hi < k then hi else k) else 0
theorem clampI_lo (k hi : Int) : 0 ≤ clampI k hi := by unfold clampI; split <;> omega
theorem clampI_hi (k : Int) {hi : Int} (h : 0 ≤ hi) : clampI k hi ≤ hi := by unfold clampI; split <;> split <;> omega
def crashN (D : DiskC) (dir : Int) : Nat := (clampI dir D.waits.length).toNat
theorem crashN_le (D : DiskC) (dir : Int) : crashN D dir ≤ D.waits.length := by
  have := clampI_hi dir (hi := (D.waits.length : Int)) (by omega)
  have := clampI_lo dir D.waits.length
  unfold crashN
  omega
def lastD (D : DiskC) (dir : Int) : DirA := appAll D.last (D.waits.take (crashN D dir))
def keptN (keeps : List Int) (i : Nat) (f : FileC) : Nat := f.lasts + match keeps[i]? with
  | none => 0
  | some k => (clampI k ((f.data.length : Int) - (f.lasts : Int))).toNat
theorem keptN_le {keeps : List Int} {i : Nat} {f : FileC} (h : f.lasts ≤ f.data.length) : f.lasts ≤ keptN keeps i f ∧ keptN keeps i f ≤ f.data.length := by
  unfold keptN
  cases keeps[i]? with
  | none => simp; exact h
  | some k =>
    have h1 := clampI_hi k (hi := (f.data.length : Int) - (f.lasts : Int)) (by omega)
    have h2 := clampI_lo k ((f.data.length : Int) - (f.lasts : Int))
    simp only
    omega
structure CrashR (D : DiskC) (dir : Int) (keeps : List Int) (gs : List FileC) (D' : DiskC) : Prop where
  by_num : ByNum D.files (lastD D dir) gs
  len : D'.files.length = gs.length
  file : ∀ i (h : i < gs.length) (h' : i < D'.files.length), D'.files[i].num = i + 1 ∧ D'.files[i].data = gs[i].data.take (keptN keeps i gs[i]) ∧ D'.files[i].lasts = keptN keeps i gs[i]
  noneF : ∀ x, lastD D dir x = none → D'.dir x = none
  someF : ∀ x b, lastD D dir x = some b → ∃ i, ∃ (h : i < gs.length) (h' : i < D'.files.length), gs[i].b = b ∧ D'.dir x = some D'.files[i].b
  room : D'.room = D.room
  made : D'.made = gs.length
  off : D'.off = false
  fused : D'.fused = false
  fuse : D'.fuse = 0
  waits : D'.waits = []
  last : D'.last = D'.dir
  dn : D'.dn ≤ D.ln + D.waits.length
  ln : D'.ln ≤ D.ln + D.waits.length
  gn : gs.length ≤ D.ln + D.waits.length
def intI (k : Int) : Value := .int .i64 k
def outC (room made om1 om2 : Nat) : Array Value := #[.int .i64 (room : Int), .int .i64 (made : Int), .map (some om1), .map (some om2), .slice none 0 0, .bool false, .bool false, .int .i64 0]
theorem tFresh : Tryz.prog.underlying ty.map_P_disk_file_P_disk_file = some (.map ty.P_disk_file ty.P_disk_file) := by kernel_rfl
theorem freshRun (w : World) : (Instr.makeMap ty.map_P_disk_file_P_disk_file none).run Tryz.prog w = .ok (.map (some w.heap.size)) (w.alloc (.map #[] 0)) := by
  simp [Instr.makeMap, go_sem, Result.andThen]
def prs (gs nf : List FileC) : List (Nat × Nat) := (gs.map (·.b)).zip (nf.map (·.b))
theorem prs_snoc : ∀ (gs nf : List FileC) (f : FileC) (h : nf.length < gs.length), prs gs (nf ++ [f]) = prs gs nf ++ [(gs[nf.length].b, f.b)]
  | [], nf, f, h => by simp at h
  | g :: gs, [], f, h => by simp [prs]
  | g :: gs, n :: nf, f, h => by
    have := prs_snoc gs nf f (by simpa using h)
    simp only [prs, List.map_cons, List.cons_append, List.zip_cons_cons, List.length_cons, List.getElem_cons_succ] at this ⊢
    rw [this]
theorem prs_mem : ∀ (gs nf : List FileC) (p : Nat × Nat), p ∈ prs gs nf → ∃ f ∈ gs.take nf.length, p.1 = f.b
  | [], nf, p, h => by simp [prs] at h
  | g :: gs, [], p, h => by simp [prs] at h
  | g :: gs, n :: nf, p, h => by
    simp only [prs, List.map_cons, List.zip_cons_cons, List.mem_cons] at h
    rcases h with rfl | h
    · exact ⟨g, by simp, rfl⟩
    · obtain ⟨f, hf, e⟩ := prs_mem gs nf p h
      exact ⟨f, by simp [hf], e⟩
theorem prs_find : ∀ (gs nf : List FileC), NdF gs → ∀ i (h : i < gs.length) (h' : i < nf.length), (prs gs nf).find? (fun p => p.1 == gs[i].b) = some (gs[i].b, nf[i].b)
  | [], nf, _, i, h, _ => by simp at h
  | g :: gs, [], _, i, _, h => by simp at h
  | g :: gs, n :: nf, nd, 0, _, _ => by simp [prs]
  | g :: gs, n :: nf, nd, i + 1, h, h' => by
    have h1 : i < gs.length := by simpa using h
    have := prs_find gs nf (List.pairwise_cons.1 nd).2 i h1 (by simpa using h')
    have hne : (g.b == gs[i].b) = false := by simpa using (List.pairwise_cons.1 nd).1 gs[i] (List.getElem_mem h1)
    simp only [prs, List.map_cons, List.zip_cons_cons, List.getElem_cons_succ] at this ⊢
    rw [List.find?_cons_of_neg (by simp [hne]), this]
def FilesInv (keeps : List Int) (gs nf : List FileC) : Prop := nf.length ≤ gs.length ∧ ∀ i (h : i < gs.length) (h' : i < nf.length), nf[i].num = i + 1 ∧ nf[i].data = gs[i].data.take (keptN keeps i gs[i]) ∧ nf[i].lasts = keptN keeps i gs[i]
theorem FilesInv.snoc {keeps : List Int} {gs nf : List FileC} (h : FilesInv keeps gs nf) (hl : nf.length < gs.length) {f : FileC} (h1 : f.num = nf.length + 1) (h2 : f.data = gs[nf.length].data.take (keptN keeps nf.length gs[nf.length])) (h3 : f.lasts = keptN keeps nf.length gs[nf.length]) : FilesInv keeps gs (nf ++ [f]) := by
  refine ⟨by simp; omega, fun i hi hi' => ?_⟩
  rcases Nat.lt_or_ge i nf.length with hlt | hge
  · rw [List.getElem_append_left hlt]
    exact h.2 i hi hlt
  · have : i = nf.length := by simp at hi'; omega
    subst this
    rw [List.getElem_append_right (Nat.le_refl _)]
    simp only [Nat.sub_self, List.getElem_cons_zero]
    exact ⟨h1, h2, h3⟩
section
variable {w0 w : World} {D : DiskC} {E H : List It} {m : Nat}
def crI (D : DiskC) (E : List It) (gs nf : List FileC) (fb cb lb n b10 om1 om2 : Nat) (Lf : DirA) (ga : Option Addr) (gc : Nat) : List It :=
  It.mapQ fb (prs gs nf) :: It.row ty.P_disk_file 1 ga gs.length gc (gs.map fun f => ptrV f.b) :: It.cells cb #[.map (some lb)] ty.disk_names :: dirI lb n Lf :: It.cells b10 (outC D.room nf.length om1 om2) ty.disk_Disk :: dirI om2 0 (fun _ => none) :: dirI om1 0 (fun _ => none) :: (nf.flatMap FileC.its ++ dkE D E)
theorem crI_dk (D : DiskC) (E : List It) (gs nf : List FileC) (fb cb lb n b10 om1 om2 : Nat) (Lf : DirA) (ga : Option Addr) (gc : Nat) : (dkE D E).Sublist (crI D E gs nf fb cb lb n b10 om1 om2 Lf ga gc) :=
  List.Sublist.cons _ (List.Sublist.cons _ (List.Sublist.cons _ (List.Sublist.cons _ (List.Sublist.cons _ (List.Sublist.cons _ (List.Sublist.cons _ (List.sublist_append_right _ _)))))))
def dirP (gs nf : List FileC) (L : DirA) : DirA := fun x => (L x).bind fun b => ((prs gs nf).find? fun p => p.1 == b).map (·.2)
def crJ (D : DiskC) (E : List It) (gs nf : List FileC) (fb cb lb n b10 om1 om2 : Nat) (Lf : DirA) (ga : Option Addr) (gc k : Nat) (g : DirA) (x y : It) : List It :=
  x :: It.mapQ fb (prs gs nf) :: It.row ty.P_disk_file 1 ga gs.length gc (gs.map fun f => ptrV f.b) :: It.cells cb #[.map (some lb)] ty.disk_names :: y :: It.cells b10 (outC D.room nf.length om1 om2) ty.disk_Disk :: dirI om2 k g :: dirI om1 k g :: (nf.flatMap FileC.its ++ dkE D E)
def CrInv (w0 : World) (D : DiskC) (E : List It) (gs nf : List FileC) (fb cb lb n b10 om1 om2 : Nat) (Lf : DirA) (ga : Option Addr) (gc r : Nat) (w : World) : Prop :=
  ∃ (ls : List (List UInt8)) (k : Nat) (g : DirA), RanP Tryz.prog ty.string w lb r n Lf ls ∧ (∀ x, g x = if x ∈ ls then none else dirP gs nf Lf x) ∧ k + ls.length ≤ n ∧ ST w0 w (crJ D E gs nf fb cb lb n b10 om1 om2 Lf ga gc k g (It.own r) (dirI lb n Lf))
theorem its_at {c : ChgC} {A : List It} (n : Nat) (hc : c ∈ D.waits) (hA : A.length = n) (x : It) (hx : x ∈ c.its) : ∃ k, n + 4 ≤ k ∧ (A ++ dkE D E)[k]? = some x := by
  have hm : x ∈ D.waits.flatMap ChgC.its ++ (D.files.flatMap FileC.its ++ E) := List.mem_append_left _ (List.mem_flatMap.2 ⟨c, hc, hx⟩)
  obtain ⟨k, hk⟩ := List.mem_iff_getElem?.1 hm
  refine ⟨n + (k + 4), by omega, ?_⟩
  rw [List.getElem?_append_right (by omega), hA, Nat.add_sub_cancel_left]
  exact hk
theorem mem_dkE {f : FileC} (hf : f ∈ D.files) {x : It} (hx : x ∈ f.its) : x ∈ dkE D E := by
  rw [dkE_eq]
  exact List.mem_append_right _ (List.mem_append_left _ (List.mem_flatMap.2 ⟨f, hf, hx⟩))
set_option maxHeartbeats 300000 in
theorem crash_ok (S : ST w0 w (dkE D E)) (hD : DiskOk D m) (hm : m ≤ 100000) (dir : Int) {ka : Option Addr} {kc : Nat} (keeps : List Int) (hk : ∀ w', ST w0 w' (dkE D E) → Rd w' ka (keeps.map intI)) (hkc : keeps.length ≤ kc) :
    Calls Tryz.prog f.disk_Disk_Crash #[ptrV D.b, .int .i64 dir, .slice ka keeps.length kc] w (Ret fun v w' => ∃ gs D', v = ptrV D'.b ∧ ST w0 w' (dkE D' (dkE D E)) ∧ CrashR D dir keeps gs D') := by
  apply R.disk_Disk_Crash_calls
  unfold R.disk_Disk_Crash
  have hwn := hD.wn
  have hln := hD.ln
  refine IFB_false ⟨_, S.cell 0 rfl rfl, ?_⟩
  refine S.newMap (k := ty.string) _ (fun om1 w1 S1 => ⟨_, rfl, ?_⟩) (made_run w)
  refine S1.newMap (k := ty.string) _ (fun om2 w2 S2 => ⟨_, rfl, ?_⟩) (made_run w1)
  refine S2.newB fun b10 w3 _ _ S3 => ⟨_, S3.cell 3 rfl rfl, (clone_ok S3 5 rfl).mono ?_⟩
  rintro _ w4 ⟨_, rfl, lb, rfl, S4⟩
  have S4 : ST w0 w4 (dirI lb D.ln D.last :: It.cells b10 (outC D.room 0 om1 om2) ty.disk_Disk :: dirI om2 0 (fun _ => none) :: dirI om1 0 (fun _ => none) :: dkE D E) := S4
  refine ⟨_, rfl, S4.draw fun w5 _ S5 => ⟨_, _, _, S5.cell 4 rfl rfl, _, _, _, S5.cell 4 rfl rfl, ?_⟩⟩
  have hN := crashN_le D dir
  have hN0 : clampI dir D.waits.length = ((crashN D dir : Nat) : Int) := by have := clampI_lo dir D.waits.length; unfold crashN; omega
  have hwc : D.waits.length ≤ D.wc := by
    rcases (S5.rw 7 rfl).2 with ⟨_, h1, h2⟩ | ⟨_, _, _, _, h, _⟩
    · omega
    · exact h
  show ((0 : Int) ≤ 0 ∧ (0 : Int) ≤ clampI dir D.waits.length ∧ clampI dir D.waits.length ≤ (D.wc : Int)) ∧ _
  refine ⟨⟨by omega, by omega, by omega⟩, ?_⟩
  refine ⟨fun st w6 => ∃ i : Nat, st = [.int .i64 (i : Int)] ∧ i ≤ crashN D dir ∧ ST w0 w6 (dirI lb (D.ln + i) (appAll D.last (D.waits.take i)) :: It.cells b10 (outC D.room 0 om1 om2) ty.disk_Disk :: dirI om2 0 (fun _ => none) :: dirI om1 0 (fun _ => none) :: dkE D E), fun st _ => match st with
    | [.int _ i] => crashN D dir - i.toNat
    | _ => 0, ⟨0, rfl, by omega, S5⟩, ?_⟩
  rintro _ w6 ⟨i, hst, hi, S6⟩
  cases hst
  show IFB (decide ((i : Int) < (((clampI dir D.waits.length).toNat - 0 : Nat) : Int))) _ _
  refine IFB_dec (fun hlt => ?_) (fun hge => ?_)
  · have hlt' : i < crashN D dir := by rw [hN0] at hlt; simpa using hlt
    have hil : i < D.waits.length := by omega
    refine ⟨⟨by omega, hlt⟩, ?_⟩
    have hrd := (S6.rd 7 rfl).sla 0 (crashN D dir) D.wc 1 (by omega)
    obtain ⟨p, hp, hcell⟩ := hrd i (ChgC.val D.waits[i]) (by
      rw [List.getElem?_take_of_lt (by omega), List.getElem?_drop]
      simp [hil])
    rw [show SLA D.wa 0 D.wc 1 = some p from hp]
    refine ⟨_, _, _, by rw [Int.toNat_natCast, Nat.mul_one]; exact hcell, ?_⟩
    have hmem : D.waits[i] ∈ D.waits := List.getElem_mem hil
    rw [chg_enters]
    refine (chg_ok D.waits[i] S6 (i := 0) rfl (fun x hx => by
      obtain ⟨k, hk1, hk2⟩ := its_at (D := D) (E := E) (A := [dirI lb (D.ln + i) (appAll D.last (D.waits.take i)), It.cells b10 (outC D.room 0 om1 om2) ty.disk_Disk, dirI om2 0 (fun _ => none), dirI om1 0 (fun _ => none)]) 4 hmem rfl x hx
      exact ⟨k, by omega, hk2⟩) (by omega) (hD.small _ hmem)).mono ?_
    rintro _ w7 ⟨_, rfl, rfl, S7⟩
    refine ⟨rfl, ?_⟩
    rw [wrap_succ (by omega)]
    refine ⟨⟨i + 1, rfl, by omega, ?_⟩, by show crashN D dir - ((i + 1 : Nat) : Int).toNat < crashN D dir - ((i : Nat) : Int).toNat; simp only [Int.toNat_natCast]; omega⟩
    rw [List.take_succ_eq_append_getElem hil, appAll_snoc]
    exact S7
  have hiN : i = crashN D dir := by rw [hN0] at hge; simp at hge; omega
  subst hiN
  refine (values_ok S6 lb).mono ?_
  rintro _ w8 ⟨_, rfl, cb, rfl, S8⟩
  refine ⟨_, _, _, rfl, ?_⟩
  have hL : ∀ x b, appAll D.last (D.waits.take (crashN D dir)) x = some b → ∃ f ∈ D.files, f.b = b := hD.has _ hN
  have nd : NdF D.files := files_nd (S8.drop 5)
  refine (sortedFunc_ok S8 1 0 rfl rfl (by omega) (fs := D.files) (fun f hf => ?_) (fun f hf => by have := (hD.num_le hf).2; omega) (fun f hf g hg e => hD.num_inj hf hg e) nd hL (hD.inj _ hN)).mono ?_
  · exact List.mem_cons_of_mem _ (List.mem_cons_of_mem _ (List.mem_cons_of_mem _ (List.mem_cons_of_mem _ (List.mem_cons_of_mem _ (mem_dkE hf (by simp [FileC.its]))))))
  rintro _ w9 ⟨_, rfl, ga, gc, gs, rfl, hgn, hby, S9⟩
  have S9 : ST w0 w9 (It.row ty.P_disk_file 1 ga gs.length gc (gs.map fun f => ptrV f.b) :: It.cells cb #[.map (some lb)] ty.disk_names :: dirI lb (D.ln + crashN D dir) (lastD D dir) :: It.cells b10 (outC D.room 0 om1 om2) ty.disk_Disk :: dirI om2 0 (fun _ => none) :: dirI om1 0 (fun _ => none) :: dkE D E) := S9
  refine ⟨_, _, _, rfl, S9.newMapQ _ (fun fb w10 S10 => ⟨_, rfl, ?_⟩) (freshRun w9)⟩
  have hgnd : NdF gs := hby.up.imp_of_mem fun {f g} hf hg h e => by
    have := nd_inj nd ((hby.mem f).1 hf).1 ((hby.mem g).1 hg).1 e
    subst this
    omega
  have e1 : (gs.map fun f => ptrV f.b) = (gs.map (·.b)).map ptrV := by rw [List.map_map]; rfl
  have hgl : gs.length = (gs.map (·.b)).length := by rw [List.length_map]
  have hok : ∀ f ∈ D.files, ∀ {w' : World}, ST w0 w' (dkE D E) → w'.heap[f.b]? = some (.cells f.cells ty.disk_file (0, 0)) ∧ Row w' ty.uint8 1 f.da f.data.length f.dc (f.data.map byteV) := fun f hf w' S =>
    ⟨S.ok (It.cells f.b f.cells ty.disk_file) (mem_dkE hf (by simp [FileC.its])), S.ok (bytesI f.da f.dc f.data) (mem_dkE hf (by simp [FileC.its]))⟩
  have S10d : ST w0 w10 (dkE D E) := S10.drop 7
  have hpok : ∀ b ∈ gs.map (·.b), PtrOk w10 b := fun b hb => by
    obtain ⟨f, hf, rfl⟩ := List.mem_map.1 hb
    exact ⟨_, _, (hok f ((hby.mem f).1 hf).1 S10d).1⟩
  have hrd : Rd w10 ga ((gs.map (·.b)).map ptrV) := by rw [← e1]; exact S10.rd 1 rfl
  have hcomp := compact_ok (c := gc) (gs.map (·.b)) hrd hpok (List.pairwise_map.2 hgnd) (by rw [← hgl]; omega)
  rw [← hgl] at hcomp
  refine hcomp.mono ?_
  rintro _ w11 ⟨_, rfl, rfl, B11⟩
  have S11 := S10.grown B11
  refine ⟨_, _, _, rfl, ?_⟩
  have S11 : ST w0 w11 (crI D E gs [] fb cb lb (D.ln + crashN D dir) b10 om1 om2 (lastD D dir) ga gc) := by
    have e : prs gs [] = [] := by simp [prs]
    unfold crI
    rw [e]
    exact S11
  refine ⟨fun st w12 => ∃ (ka' : Option Addr) (kc' : Nat) (ks' : List Int) (nf : List FileC), st = [.slice ka' ks'.length kc', .int .i64 (nf.length : Int)] ∧ ks' = keeps.drop nf.length ∧ ks'.length ≤ kc' ∧ (∀ w', ST w0 w' (dkE D E) → Rd w' ka' (ks'.map intI)) ∧ FilesInv keeps gs nf ∧
    ST w0 w12 (crI D E gs nf fb cb lb (D.ln + crashN D dir) b10 om1 om2 (lastD D dir) ga gc), fun st _ => match st with
    | [_, .int _ i] => gs.length - i.toNat
    | _ => 0, ⟨ka, kc, keeps, [], rfl, rfl, hkc, hk, ⟨Nat.zero_le _, fun i _ h => absurd h (by simp)⟩, S11⟩, ?_⟩
  rintro ka' _ kc' _ w12 ⟨_, _, ks', nf, hst, hks, hkc', hk', hinv, S12⟩
  cases hst
  refine IFB_dec (fun hlt => ?_) (fun hge => ?_)
  · have hjl : nf.length < gs.length := by omega
    have hgD : gs[nf.length] ∈ D.files := ((hby.mem _).1 (List.getElem_mem hjl)).1
    have hrd12 : Rd w12 ga ((gs.map (·.b)).map ptrV) := by rw [← e1]; exact S12.rd 1 rfl
    obtain ⟨p, hpa, hpc⟩ := rdP_at hrd12 (show nf.length < (gs.map (·.b)).length by rw [← hgl]; exact hjl)
    refine ⟨⟨by omega, hlt⟩, ?_⟩
    rw [hpa]
    refine ⟨_, by rw [Int.toNat_natCast]; exact hpc, ?_⟩
    rw [List.getElem_map]
    generalize hfe : gs[nf.length] = f at *
    have hfl := hD.lasts f hgD
    have hflen := hD.len f hgD
    have hcells : ∀ {w' : World}, ST w0 w' (dkE D E) → ∀ {i : Nat} {v : Value}, f.cells[i]? = some v → w'.cell? ⟨f.b, i, none⟩ = some v := fun {w'} S {i v} hv => by
      simp [World.cell?, (hok f hgD S).1, hv]
    have Sd12 := S12.sub (crI_dk D E gs nf fb cb lb (D.ln + crashN D dir) b10 om1 om2 (lastD D dir) ga gc)
    obtain ⟨hk1, hk2⟩ := keptN_le (keeps := keeps) (i := nf.length) hfl
    refine ⟨_, hcells Sd12 (i := 2) rfl, fun st w14 => ∃ (ka'' : Option Addr) (kc'' : Nat) (ks'' : List Int), st = [.slice ka'' ks''.length kc'', .int .i64 (keptN keeps nf.length f : Int)] ∧ ks'' = keeps.drop (nf.length + 1) ∧ ks''.length ≤ kc'' ∧ (∀ w', ST w0 w' (dkE D E) → Rd w' ka'' (ks''.map intI)) ∧
      ST w0 w14 (crI D E gs nf fb cb lb (D.ln + crashN D dir) b10 om1 om2 (lastD D dir) ga gc), ?_, ?_⟩
    · cases hksc : ks' with
      | nil =>
        have hge : keeps.length ≤ nf.length := by
          have := congrArg List.length (hks.symm.trans hksc)
          simp at this
          omega
        have hkn : keptN keeps nf.length f = f.lasts := by
          unfold keptN
          rw [List.getElem?_eq_none hge]
          rfl
        refine IFB_dec (fun h => absurd h (by simp)) (fun _ => ⟨ka', kc', [], by rw [hkn], ?_, Nat.zero_le _, fun w' _ => Rd.nil _ _, S12⟩)
        rw [List.drop_of_length_le (by omega)]
      | cons k0 ks1 =>
        refine IFB_dec (fun _ => ?_) (fun h => absurd (show (((k0 :: ks1).length : Nat) : Int) > 0 by simp only [List.length_cons]; omega) h)
        have hd : keeps.drop nf.length = k0 :: ks1 := hks.symm.trans hksc
        have hget : keeps[nf.length]? = some k0 := by
          have := congrArg (fun l => l[0]?) hd
          simpa using this
        have hdrop : keeps.drop (nf.length + 1) = ks1 := by
          rw [← List.drop_drop, hd]
          rfl
        have hkn : keptN keeps nf.length f = f.lasts + (clampI k0 ((f.data.length : Int) - (f.lasts : Int))).toNat := by
          unfold keptN
          rw [hget]
        have hc0 := clampI_lo k0 ((f.data.length : Int) - (f.lasts : Int))
        have hrdk := hk' w12.drew (Sd12.grown ((Below.refl _ w12).drew))
        rw [hksc] at hrdk
        obtain ⟨q, hq, hqc⟩ := hrdk 0 (intI k0) rfl
        have Sd13 : ST w0 w12.drew (dkE D E) := Sd12.grown ((Below.refl _ w12).drew)
        have S13 := S12.grown ((Below.refl _ w12).drew)
        have hlen1 : (k0 :: ks1).length = ks1.length + 1 := rfl
        rw [hksc] at hkc'
        refine ⟨⟨by omega, by rw [hlen1]; omega⟩, ?_⟩
        rw [hq]
        have ew1 : IntKind.i64.wrap ((f.data.length : Int) - (f.lasts : Int)) = (f.data.length : Int) - (f.lasts : Int) := wrap_i64 (by omega) (by omega)
        refine ⟨_, hqc, _, _, _, hcells Sd13 (i := 1) rfl, _, hcells Sd13 (i := 2) rfl, ⟨by omega, by rw [hlen1]; omega, by omega⟩, ?_⟩
        rw [ew1]
        have ew2 : IntKind.i64.wrap ((f.lasts : Int) + clampI k0 ((f.data.length : Int) - (f.lasts : Int))) = (keptN keeps nf.length f : Int) := by
          rw [wrap_i64 (by omega) (by have := clampI_hi k0 (hi := (f.data.length : Int) - (f.lasts : Int)) (by omega); omega), hkn]
          omega
        refine ⟨SLA (some q) 1 kc' 1, kc' - 1, ks1, ?_, hdrop.symm, ?_, fun w' S' => ?_, S13⟩
        · rw [← ew2, hlen1]
          rfl
        · rw [hlen1] at hkc'
          omega
        · have h := (hk' w' S')
          rw [hksc, hq] at h
          have h2 := h.sla 1 (ks1.length + 1) kc' 1 (by rw [hlen1] at hkc'; omega)
          have e : (((k0 :: ks1).map intI).drop (1 * 1)).take ((ks1.length + 1 - 1) * 1) = ks1.map intI := by
            simp [List.take_of_length_le]
          rw [e] at h2
          exact h2
    · rintro ka'' _ kc'' _ w14 ⟨_, _, ks'', hst, hks'', hkc'', hk'', S14⟩
      cases hst
      have hfst : nf.length + 1 < 9223372036854775807 := by omega
      have Sd14 := S14.sub (crI_dk D E gs nf fb cb lb (D.ln + crashN D dir) b10 om1 om2 (lastD D dir) ga gc)
      refine ⟨_, S14.cell 4 rfl rfl, ?_⟩
      rw [wrap_succ (by omega)]
      refine S14.sto 4 rfl (i := 1) (cs' := outC D.room (nf.length + 1) om1 om2) (by show 1 < 8; decide) rfl fun w15 S15 => ?_
      refine S15.draw fun w16 _ S16 => ?_
      have Sd16 : ST w0 w16 (dkE D E) := S16.sub (List.Sublist.cons _ (List.Sublist.cons _ (List.Sublist.cons _ (List.Sublist.cons _ (List.Sublist.cons _ (List.Sublist.cons _ (List.Sublist.cons _ (List.sublist_append_right _ _))))))))
      have hrow := (hok f hgD Sd16).2
      have hdc : f.data.length ≤ f.dc := by
        rcases hrow.2 with ⟨_, h1, h2⟩ | ⟨_, _, _, _, h, _⟩
        · omega
        · exact h
      refine ⟨_, S16.cell 4 rfl rfl, _, _, _, hcells Sd16 (i := 1) rfl, ⟨by omega, by omega, by omega⟩, ?_⟩
      have hlk : (f.data.take (keptN keeps nf.length f)).length = keptN keeps nf.length f := by rw [List.length_take]; omega
      have en : ((keptN keeps nf.length f : Int).toNat - 0) = (f.data.take (keptN keeps nf.length f)).length := by rw [hlk]; simp
      rw [en]
      have hrdf : Rd w16 (SLA f.da 0 f.dc 1) ((f.data.take (keptN keeps nf.length f)).map byteV) := by
        have h := hrow.rd.sla 0 (keptN keeps nf.length f) f.dc 1 (by omega)
        simp only [List.drop_zero, Nat.sub_zero, Nat.mul_one] at h
        rw [List.map_take]
        exact h
      refine (cloneB_ok S16 hrdf (by rw [hlk]; omega)).mono ?_
      rintro _ w17 ⟨_, rfl, a', c', rfl, S17⟩
      refine ⟨_, _, _, rfl, S17.cell 5 rfl rfl, S17.newB fun b54 w18 _ _ S18 => ?_⟩
      obtain ⟨jf, hj1, hj2⟩ := infoFile
      have Sd18 : ST w0 w18 (dkE D E) := (S18.drop 9).sub (List.sublist_append_right _ _)
      have hpk : ∀ g ∈ gs, PtrOk w18 g.b := fun g hg => ⟨_, _, (hok g ((hby.mem g).1 hg).1 Sd18).1⟩
      have hnk : f.b ∉ (prs gs nf).map (·.1) := fun hin => by
        obtain ⟨q, hq, e⟩ := List.mem_map.1 hin
        obtain ⟨g, hg, e2⟩ := prs_mem gs nf q hq
        obtain ⟨i, hi, rfl⟩ := List.mem_iff_getElem.1 hg
        have hi1 : i < nf.length := by simp at hi; omega
        rw [List.getElem_take] at e2
        have := (List.pairwise_iff_getElem.1 hgnd) i nf.length (by omega) hjl hi1
        rw [hfe] at this
        exact this (e2.symm.trans e)
      have S18 : ST w0 w18 (It.cells b54 (FileC.cells ⟨b54, nf.length + 1, a', c', f.data.take (keptN keeps nf.length f), keptN keeps nf.length f⟩) ty.disk_file :: bytesI a' c' (f.data.take (keptN keeps nf.length f)) :: It.mapQ fb (prs gs nf) :: It.row ty.P_disk_file 1 ga gs.length gc (gs.map fun f => ptrV f.b) :: It.cells cb #[.map (some lb)] ty.disk_names :: dirI lb (D.ln + crashN D dir) (lastD D dir) :: It.cells b10 (outC D.room (nf.length + 1) om1 om2) ty.disk_Disk :: dirI om2 0 (fun _ => none) :: dirI om1 0 (fun _ => none) :: (nf.flatMap FileC.its ++ dkE D E)) := S18
      refine S18.qput 2 rfl tFresh pFile hj1 hj2 (hpk f (hfe ▸ List.getElem_mem hjl)) (fun q hq => ?_) hnk fun w19 S19 => ?_
      · obtain ⟨g, hg, e⟩ := prs_mem gs nf q hq
        rw [e]
        exact hpk g (List.mem_of_mem_take hg)
      have hsn := prs_snoc gs nf ⟨b54, nf.length + 1, a', c', f.data.take (keptN keeps nf.length f), keptN keeps nf.length f⟩ hjl
      rw [hfe] at hsn
      have hln2 : (nf ++ [(⟨b54, nf.length + 1, a', c', f.data.take (keptN keeps nf.length f), keptN keeps nf.length f⟩ : FileC)]).length = nf.length + 1 := by simp
      refine ⟨⟨ka'', kc'', ks'', nf ++ [⟨b54, nf.length + 1, a', c', f.data.take (keptN keeps nf.length f), keptN keeps nf.length f⟩], by rw [hln2], by rw [hln2]; exact hks'', hkc'', hk'', hinv.snoc hjl rfl (by rw [hfe]) (by rw [hfe]), ?_⟩, by show gs.length - ((nf.length + 1 : Nat) : Int).toNat < gs.length - ((nf.length : Nat) : Int).toNat; simp only [Int.toNat_natCast]; omega⟩
      unfold crI
      rw [hsn, hln2, ← hpa]
      refine S19.perm ?_
      have ep : ∀ (A X Y Z : List It), (X ++ (A ++ (Y ++ Z))).Perm (A ++ ((Y ++ X) ++ Z)) := fun A X Y Z => by
        refine (List.perm_append_comm_assoc X A _).trans (List.Perm.append_left A ?_)
        rw [List.append_assoc]
        exact List.perm_append_comm_assoc X Y Z
      have := ep [It.mapQ fb (prs gs nf ++ [(f.b, b54)]), It.row ty.P_disk_file 1 ga gs.length gc (gs.map fun f => ptrV f.b), It.cells cb #[.map (some lb)] ty.disk_names, dirI lb (D.ln + crashN D dir) (lastD D dir), It.cells b10 (outC D.room (nf.length + 1) om1 om2) ty.disk_Disk, dirI om2 0 (fun _ => none), dirI om1 0 (fun _ => none)]
        (FileC.its ⟨b54, nf.length + 1, a', c', f.data.take (keptN keeps nf.length f), keptN keeps nf.length f⟩) (nf.flatMap FileC.its) (dkE D E)
      rw [List.flatMap_append, List.flatMap_singleton]
      exact this
  have hnl : nf.length = gs.length := by have := hinv.1; omega
  have hfind : ∀ x b, lastD D dir x = some b → ∃ i, ∃ (h : i < gs.length) (h' : i < nf.length), gs[i].b = b ∧ (prs gs nf).find? (fun p => p.1 == b) = some (b, nf[i].b) := fun x b hx => by
    obtain ⟨f, hf, e⟩ := hL x b hx
    have hfg : f ∈ gs := (hby.mem f).2 ⟨hf, x, by rw [e]; exact hx⟩
    obtain ⟨i, hi, hfi⟩ := List.mem_iff_getElem.1 hfg
    have hi' : i < nf.length := by omega
    have h := prs_find gs nf hgnd i hi hi'
    have e3 : gs[i].b = b := by rw [hfi]; exact e
    rw [e3] at h
    exact ⟨i, hi, hi', e3, h⟩
  refine S12.mrange 3 rfl und_str und_names fun r w20 ks hR hmem hnd hlen S20 => ⟨_, rfl, ?_⟩
  refine ⟨fun _ w21 => CrInv w0 D E gs nf fb cb lb (D.ln + crashN D dir) b10 om1 om2 (lastD D dir) ga gc r w21, fun _ w21 => w21.rangeLeft lb r, ⟨ks, 0, fun _ => none, hR, fun x => ?_, by omega, S20⟩, ?_⟩
  · split
    · rfl
    · next hx =>
      have : lastD D dir x = none := by
        cases hh : lastD D dir x with
        | none => rfl
        | some b => exact absurd ((hmem x).2 (by rw [hh]; rfl)) hx
      simp [dirP, this]
  rintro w21 ⟨ls, k, g, hR21, hg, hkl, S21⟩
  refine hR21.round und_str _ (fun h0 => ?_) fun x c w22 hx hc hxl K hR22 hltM hent => ?_
  · subst h0
    have hgd : g = dirP gs nf (lastD D dir) := by
      funext x
      rw [hg]
      simp
    have S22 : ST w0 w21 (It.cells b10 (outC D.room nf.length om1 om2) ty.disk_Disk :: dirI om2 k g :: dirI om1 k g :: (nf.flatMap FileC.its ++ dkE D E)) := S21.drop 5
    have S23 := (((S22.nil tyFn 1).pull 2 rfl).pull 3 rfl).pull 3 rfl
    have S24 : ST w0 w21 (dkE ⟨b10, D.room, nf.length, om1, k, g, om2, k, g, none, 0, [], false, false, 0, nf⟩ (dkE D E)) := S23
    have hkn : k ≤ D.ln + D.waits.length := by simp at hkl; omega
    refine ⟨gs, _, rfl, S24, ⟨hby, hnl, fun i h h' => hinv.2 i h h', fun x hx => ?_, fun x b hx => ?_, rfl, hnl, rfl, rfl, rfl, rfl, rfl, hkn, hkn, by omega⟩⟩
    · show g x = none
      rw [hgd]
      simp [dirP, hx]
    · obtain ⟨i, h, h', e, hf⟩ := hfind x b hx
      refine ⟨i, h, h', e, ?_⟩
      show g x = some _
      rw [hgd]
      simp [dirP, hx, hf]
  · obtain ⟨jf, hj1, hj2⟩ := infoFile
    obtain ⟨i, hi, hi', hib, hff⟩ := hfind x c hc
    generalize nf[i].b = c' at hff
    have S22 := ST.ranged S21 K hR22.lt.1
    have hlsnd : ls.Nodup := by obtain ⟨_, _, _, _, _, _, h, _⟩ := hR21; exact h
    unfold OPR
    rw [hent]
    refine ⟨_, _, rfl, S22.draw fun w25 B25 S25 => ?_⟩
    have hR25 := hR22.same (B25.block lb hR22.map.lt) (B25.block r hR22.lt.1)
    have hlt25 : w25.rangeLeft lb r < w21.rangeLeft lb r := by rw [rangeLeft_same (B25.block lb hR22.map.lt) (B25.block r hR22.lt.1)]; exact hltM
    have ol : w25.heap[lb]? = some (w25.heap[lb]'hR25.map.lt) := Array.getElem?_eq_getElem _
    have or : w25.heap[r]? = some (w25.heap[r]'hR25.lt.1) := Array.getElem?_eq_getElem _
    generalize w25.heap[lb]'hR25.map.lt = obl at ol
    generalize w25.heap[r]'hR25.lt.1 = obr at or
    have S26 : ST w0 w25 (crJ D E gs nf fb cb lb (D.ln + crashN D dir) b10 om1 om2 (lastD D dir) ga gc k g (It.obj r obr) (It.obj lb obl)) := (ST.freeze (ST.freeze S25 4 rfl rfl ol) 0 rfl rfl or)
    have hbs : bl (sof x) = x := bl_sof x
    have hsz : (sof x).size ≤ maxLen := by rw [← bl_length, hbs]; exact hxl
    have hkm : k < maxLen := Nat.lt_of_lt_of_le (show k < 1000000 by omega) (by decide)
    have fin : ∀ w31, ST w0 w31 (crJ D E gs nf fb cb lb (D.ln + crashN D dir) b10 om1 om2 (lastD D dir) ga gc (k + 1) (fun y => if y = bl (sof x) then some c' else g y) (It.obj r obr) (It.obj lb obl)) →
        CrInv w0 D E gs nf fb cb lb (D.ln + crashN D dir) b10 om1 om2 (lastD D dir) ga gc r w31 ∧ w31.rangeLeft lb r < w21.rangeLeft lb r := fun w31 S31 => by
      have er : w31.heap[r]? = w25.heap[r]? := (ST.get S31 0 rfl : w31.heap[r]? = some obr).trans or.symm
      have el : w31.heap[lb]? = w25.heap[lb]? := (ST.get S31 4 rfl : w31.heap[lb]? = some obl).trans ol.symm
      have hR31 := hR25.same el er
      have S32 := st_recast (st_recast S31 4 rfl (dirI lb (D.ln + crashN D dir) (lastD D dir)) hR31.map (fun k hk => hk)) 0 rfl (It.own r) hR31.lt.1 (fun k hk => hk)
      refine ⟨⟨ls.erase x, k + 1, _, hR31, fun y => ?_, ?_, S32⟩, by rw [rangeLeft_same el er]; exact hlt25⟩
      · rw [hbs]
        by_cases hy : y = x
        · subst hy
          rw [if_pos rfl, if_neg (by rw [hlsnd.mem_erase_iff]; simp)]
          simp [dirP, hc, hff]
        · rw [if_neg hy, hg]
          simp only [List.mem_erase_of_ne hy]
      · have := List.length_erase_of_mem hx
        have := List.length_pos_of_mem hx
        omega
    have lk : ∀ (w' : World) (a0 a4 a6 a7 : It), ST w0 w' (a0 :: It.mapQ fb (prs gs nf) :: It.row ty.P_disk_file 1 ga gs.length gc (gs.map fun f => ptrV f.b) :: It.cells cb #[.map (some lb)] ty.disk_names :: a4 :: It.cells b10 (outC D.room nf.length om1 om2) ty.disk_Disk :: a6 :: a7 :: (nf.flatMap FileC.its ++ dkE D E)) → ∀ f : Value → World → Prop, f (ptrV c') w' → OPR Tryz.prog (Instr.lookup ty.map_P_disk_file_P_disk_file (.map (some fb)) (ptrV c) false) f w' := fun w' a0 a4 a6 a7 S' f hf => by
      have Sd : ST w0 w' (dkE D E) := (S'.drop 8).sub (List.sublist_append_right _ _)
      have hpk : ∀ g ∈ gs, PtrOk w' g.b := fun g hg => ⟨_, _, (hok g ((hby.mem g).1 hg).1 Sd).1⟩
      refine S'.qget 1 rfl tFresh pFile hj1 hj2 (hib ▸ hpk _ (List.getElem_mem hi)) (fun q hq => ?_) hff hf
      obtain ⟨g, hg, e⟩ := prs_mem gs nf q hq
      rw [e]
      exact hpk g (List.mem_of_mem_take hg)
    have st2 : ∀ w' : World, ST w0 w' (It.obj r obr :: It.mapQ fb (prs gs nf) :: It.row ty.P_disk_file 1 ga gs.length gc (gs.map fun f => ptrV f.b) :: It.cells cb #[.map (some lb)] ty.disk_names :: It.obj lb obl :: It.cells b10 (outC D.room nf.length om1 om2) ty.disk_Disk :: dirI om2 k g :: dirI om1 (k + 1) (fun y => if y = bl (sof x) then some c' else g y) :: (nf.flatMap FileC.its ++ dkE D E)) → OPR Tryz.prog (Instr.mapEntry ty.disk_names (.map (some om2)) (.string (sof x))) (fun r_74 w30 => ∃ t0 : Value, ∃ t1 : Int, r_74 = .tuple #[t0, .int .i64 t1] ∧ OPU Tryz.prog (Instr.entryStore ty.disk_names (.map (some om2)) (.int .i64 t1) (ptrV c')) (fun w31 => CrInv w0 D E gs nf fb cb lb (D.ln + crashN D dir) b10 om1 om2 (lastD D dir) ga gc r w31 ∧ w31.rangeLeft lb r < w21.rangeLeft lb r) w30) w' := fun w' S' =>
      ST.eput S' 6 rfl und_str und_names zeroPtr hkm hsz c' fun v0 st w1 o1 S1 K => ⟨_, _, rfl, K _ _ 6 _ S1 rfl fun w3 S3 => fin w3 S3⟩
    have st1 : ∀ w' : World, ST w0 w' (crJ D E gs nf fb cb lb (D.ln + crashN D dir) b10 om1 om2 (lastD D dir) ga gc k g (It.obj r obr) (It.obj lb obl)) → OPR Tryz.prog (Instr.mapEntry ty.disk_names (.map (some om1)) (.string (sof x))) (fun r_71 w28 => ∃ t0 : Value, ∃ t1 : Int, r_71 = .tuple #[t0, .int .i64 t1] ∧ OPU Tryz.prog (Instr.entryStore ty.disk_names (.map (some om1)) (.int .i64 t1) (ptrV c')) (fun w29 => OPR Tryz.prog (Instr.mapEntry ty.disk_names (.map (some om2)) (.string (sof x))) (fun r_74 w30 => ∃ t0 : Value, ∃ t1 : Int, r_74 = .tuple #[t0, .int .i64 t1] ∧ OPU Tryz.prog (Instr.entryStore ty.disk_names (.map (some om2)) (.int .i64 t1) (ptrV c')) (fun w31 => CrInv w0 D E gs nf fb cb lb (D.ln + crashN D dir) b10 om1 om2 (lastD D dir) ga gc r w31 ∧ w31.rangeLeft lb r < w21.rangeLeft lb r) w30) w29) w28) w' := fun w' S' =>
      ST.eput S' 7 rfl und_str und_names zeroPtr hkm hsz c' fun v0 st w1 o1 S1 K => ⟨_, _, rfl, K _ _ 7 _ S1 rfl fun w3 S3 => st2 w3 S3⟩
    have st1c : ∀ w' : World, ST w0 w' (crJ D E gs nf fb cb lb (D.ln + crashN D dir) b10 om1 om2 (lastD D dir) ga gc k g (It.obj r obr) (It.obj lb obl)) → OPR Tryz.prog (Instr.mapEntry ty.disk_names (.map (some om1)) (.string (sof x))) (fun r_71 w28 => ∃ t0 : Value, ∃ t1 : Int, r_71 = .tuple #[t0, .int .i64 t1] ∧ OPR Tryz.prog (Instr.lookup ty.map_P_disk_file_P_disk_file (.map (some fb)) (ptrV c) false) (fun r_89 w39 => ∃ t135 : Option Addr, r_89 = .pointer t135 ∧ OPU Tryz.prog (Instr.entryStore ty.disk_names (.map (some om1)) (.int .i64 t1) (.pointer t135)) (fun w29 => OPR Tryz.prog (Instr.mapEntry ty.disk_names (.map (some om2)) (.string (sof x))) (fun r_74 w30 => ∃ t0 : Value, ∃ t1 : Int, r_74 = .tuple #[t0, .int .i64 t1] ∧ OPU Tryz.prog (Instr.entryStore ty.disk_names (.map (some om2)) (.int .i64 t1) (ptrV c')) (fun w31 => CrInv w0 D E gs nf fb cb lb (D.ln + crashN D dir) b10 om1 om2 (lastD D dir) ga gc r w31 ∧ w31.rangeLeft lb r < w21.rangeLeft lb r) w30) w29) w39) w28) w' := fun w' S' =>
      ST.eput S' 7 rfl und_str und_names zeroPtr hkm hsz c' fun v0 st w1 o1 S1 K => ⟨_, _, rfl, lk w1 _ _ _ _ S1 _ ⟨_, rfl, K _ _ 7 _ S1 rfl fun w3 S3 => st2 w3 S3⟩⟩
    have c2 : w25.cell? ⟨b10, 2, none⟩ = some (.map (some om1)) := ST.cell S26 5 rfl rfl
    have c3 : w25.cell? ⟨b10, 3, none⟩ = some (.map (some om2)) := ST.cell S26 5 rfl rfl
    exact ⟨_, c2, _, c3, lk w25 _ _ _ _ S26 _ ⟨_, rfl, c3, c2, lk w25 _ _ _ _ S26 _ ⟨_, rfl, c3, c2, st1 w25 S26⟩⟩, lk w25 _ _ _ _ S26 _ ⟨_, rfl, c3, c2, lk w25 _ _ _ _ S26 _ ⟨_, rfl, c3, c2, st1 w25 S26⟩, st1c w25 S26⟩⟩
end
theorem fileD_get {D : DiskC} (nd : NdF D.files) {i : Nat} (h : i < D.files.length) : fileD D D.files[i].b = some D.files[i] := by
  obtain ⟨f, hf⟩ := fileD_some (D := D) (b := D.files[i].b) ⟨_, List.getElem_mem h, rfl⟩
  obtain ⟨h1, h2⟩ := fileD_mem hf
  rw [hf, nd_inj nd h1 (List.getElem_mem h) h2]
theorem CrashR.ok {D D' : DiskC} {m : Nat} {dir : Int} {keeps : List Int} {gs : List FileC} (h : DiskOk D m) (nd : NdF D'.files) (hr : CrashR D dir keeps gs D') : DiskOk D' (2 * m) := by
  have hgD : ∀ f ∈ gs, f ∈ D.files := fun f hf => ((hr.by_num.mem f).1 hf).1
  have hI : InjD (lastD D dir) := h.inj _ (crashN_le D dir)
  have hdir : ∀ x b, D'.dir x = some b → ∃ c, lastD D dir x = some c ∧ ∃ i, ∃ (hi : i < gs.length) (hi' : i < D'.files.length), gs[i].b = c ∧ b = D'.files[i].b := fun x b hx => by
    cases hl : lastD D dir x with
    | none => rw [hr.noneF x hl] at hx; cases hx
    | some c =>
      obtain ⟨i, hi, hi', e1, e2⟩ := hr.someF x c hl
      rw [e2] at hx
      exact ⟨c, rfl, i, hi, hi', e1, (Option.some.inj hx).symm⟩
  have e0 : ∀ n, appAll D'.last (D'.waits.take n) = D'.dir := fun n => by rw [hr.waits, List.take_nil, hr.last]; rfl
  have hb1 := hr.dn
  have hb2 := hr.ln
  have hb3 := hr.gn
  have hln := h.ln
  have hwn := h.wn
  refine ⟨by rw [hr.room]; exact h.room, by rw [hr.made, hr.len], fun i hi => (hr.file i (by rw [← hr.len]; exact hi) hi).1, fun f hf => ?_, fun f hf => ?_, by have := e0 D'.waits.length; rwa [List.take_length] at this, fun n _ => ?_, fun n _ x b hx => ?_, fun c hc => by rw [hr.waits] at hc; simp at hc, by omega, by omega, by rw [hr.waits]; exact Nat.zero_le _, by rw [hr.len]; omega, by rw [hr.fuse]; omega, by rw [hr.fuse]; omega, fun n _ x b hx => ?_⟩
  · obtain ⟨i, hi, rfl⟩ := List.mem_iff_getElem.1 hf
    obtain ⟨_, h2, h3⟩ := hr.file i (by rw [← hr.len]; exact hi) hi
    rw [h2, h3, List.length_take]
    have := (keptN_le (keeps := keeps) (i := i) (h.lasts _ (hgD _ (List.getElem_mem (by rw [← hr.len]; exact hi))))).2
    omega
  · obtain ⟨i, hi, rfl⟩ := List.mem_iff_getElem.1 hf
    obtain ⟨_, h2, h3⟩ := hr.file i (by rw [← hr.len]; exact hi) hi
    rw [h2, List.length_take]
    have := h.len _ (hgD _ (List.getElem_mem (by rw [← hr.len]; exact hi)))
    omega
  · rw [e0]
    intro x y b hx hy
    obtain ⟨c, hc, i, hi, hi', e1, e2⟩ := hdir x b hx
    obtain ⟨d, hd, j, hj, hj', e3, e4⟩ := hdir y b hy
    have hij : i = j := by
      rcases Nat.lt_trichotomy i j with h1 | h1 | h1
      · exact absurd (e2.symm.trans e4) ((List.pairwise_iff_getElem.1 nd) i j hi' hj' h1)
      · exact h1
      · exact absurd (e4.symm.trans e2) ((List.pairwise_iff_getElem.1 nd) j i hj' hi' h1)
    subst hij
    exact hI x y c hc (by rw [hd, ← e3, e1])
  · rw [e0] at hx
    obtain ⟨c, hc, i, hi, hi', e1, e2⟩ := hdir x b hx
    exact ⟨_, List.getElem_mem hi', e2.symm⟩
  · rw [e0] at hx
    obtain ⟨c, hc, _⟩ := hdir x b hx
    exact h.nm _ (crashN_le D dir) x c hc
def nA : ByteArray := ⟨#[97]⟩
theorem nameA : nameB nA = true := by decide
structure One (D : DiskC) (f : FileC) : Prop where
  off : D.off = false
  fused : D.fused = false
  room : D.room = 10
  dir : D.dir = fun y => if y = bl nA then some f.b else none
  files : D.files = [f]
theorem One.live {D : DiskC} {f : FileC} (h : One D f) : liveE D.off [nA] = 0 := by rw [h.off]; unfold liveE; simp [nameA]
theorem One.at {D : DiskC} {f : FileC} (h : One D f) : D.dir (bl nA) = some f.b := by rw [h.dir]; simp
theorem One.named {D : DiskC} {f : FileC} (h : One D f) : namedE D nA = (some f.b, 0) := by unfold namedE; rw [h.live, h.at]; simp
theorem One.file {D : DiskC} {f : FileC} (h : One D f) : fileD D f.b = some f := by simp [fileD, h.files]
theorem One.left {D : DiskC} {f : FileC} (h : One D f) : leftD D = 10 - (f.data.length : Int) := by
  have hd : Dom D.dir [bl nA] := ⟨by simp, fun x => by rw [h.dir]; by_cases hx : x = bl nA <;> simp [hx]⟩
  rw [leftD_eq hd, h.room, sumD_cons, dataD_of h.at h.file]
  simp [sumD]
theorem One.unblown {D : DiskC} {f : FileC} (h : One D f) : ¬ blown D := fun hb => by have := hb.1; rw [h.fused] at this; cases this
theorem StepE.done {D D' : DiskC} {e pre : Int} {ok : DiskC → Prop} (h : StepE D e D' pre ok) (hp : pre = 0) (hb : ¬ blown D) : e = 0 ∧ ok D' := by
  rcases h with ⟨h1, _⟩ | ⟨_, h1, _⟩ | ⟨_, _, h1, h2⟩
  · exact absurd hp h1
  · exact absurd h1 hb
  · exact ⟨h1, h2⟩
theorem one_split {f g : FileC} {pre post : List FileC} (h : [f] = pre ++ g :: post) : pre = [] ∧ post = [] ∧ g = f := by
  cases pre with
  | nil => simp at h; exact ⟨rfl, h.2, h.1.symm⟩
  | cons a pre => have := congrArg List.length h; simp at this
theorem One.append {D D' : DiskC} {f : FileC} (h : One D f) {data : ByteArray} {e : Int} (hr : AppendR D nA data e D') (hd : f.data.length + data.size ≤ 10) : e = 0 ∧ ∃ da dc, One D' { f with data := f.data ++ bl data, da := da, dc := dc } := by
  have hp : appendPre D nA data = 0 := by
    unfold appendPre
    rw [h.named, h.left]
    simp
    omega
  obtain ⟨he, pre, g, post, da, dc, hf, hg, rfl⟩ := StepE.done hr hp h.unblown
  rw [h.files] at hf
  obtain ⟨rfl, rfl, rfl⟩ := one_split hf
  exact ⟨he, da, dc, h.off, h.fused, h.room, h.dir, rfl⟩
theorem One.sync {D D' : DiskC} {f : FileC} (h : One D f) {e : Int} (hr : SyncR D nA e D') : e = 0 ∧ One D' { f with lasts := f.data.length } := by
  obtain ⟨he, pre, g, post, hf, hg, rfl⟩ := StepE.done hr (by rw [h.named]) h.unblown
  rw [h.files] at hf
  obtain ⟨rfl, rfl, rfl⟩ := one_split hf
  exact ⟨he, h.off, h.fused, h.room, h.dir, rfl⟩
theorem One.dirR {D D' : DiskC} {f : FileC} (h : One D f) {e : Int} (hr : DirR D e D') : e = 0 ∧ One D' f ∧ D'.last = D'.dir ∧ D'.waits = [] := by
  obtain ⟨he, lb, rfl⟩ := StepE.done hr (by rw [h.off]; rfl) h.unblown
  exact ⟨he, ⟨h.off, h.fused, h.room, h.dir, h.files⟩, rfl, rfl⟩
theorem one_create {b db lb : Nat} {D' : DiskC} {e : Int} (hr : CreateR (disk0 b 10 db lb) nA e D') : e = 0 ∧ ∃ c, One D' ⟨c, 1, none, 0, [], 0⟩ := by
  obtain ⟨he, b1, b2, c, wa, wc, rfl⟩ := StepE.done hr (by show liveE false [nA] = 0; unfold liveE; simp [nameA]) (fun hb => by cases hb.1)
  exact ⟨he, c, rfl, rfl, rfl, rfl, rfl⟩
theorem One.crash {D D' : DiskC} {f : FileC} (h : One D f) (hl : D.last = D.dir) (hw : D.waits = []) {dir : Int} {keeps : List Int} {gs : List FileC} (hr : CrashR D dir keeps gs D') (nd : NdF D'.files) : readE D' nA = (sof (f.data.take (keptN keeps 0 f)), 0) := by
  have hlast : lastD D dir (bl nA) = some f.b := by
    unfold lastD
    rw [hw, List.take_nil]
    show D.last _ = _
    rw [hl, h.at]
  obtain ⟨i, hi, hi', e1, e2⟩ := hr.someF _ _ hlast
  have hall : ∀ g ∈ gs, g = f := fun g hg => by
    have := ((hr.by_num.mem g).1 hg).1
    rw [h.files] at this
    simpa using this
  have hi0 : i = 0 := by
    cases i with
    | zero => rfl
    | succ i =>
      have h1 := (List.pairwise_iff_getElem.1 hr.by_num.up) 0 (i + 1) (by omega) hi (by omega)
      rw [hall _ (List.getElem_mem (show 0 < gs.length by omega)), hall _ (List.getElem_mem hi)] at h1
      omega
  subst hi0
  have hn : namedE D' nA = (some D'.files[0].b, 0) := by
    unfold namedE
    rw [hr.off, e2]
    have : liveE false [nA] = 0 := by unfold liveE; simp [nameA]
    rw [this]
    simp
  unfold readE
  rw [hn, dataD_of e2 (fileD_get nd hi'), (hr.file 0 hi hi').2.1, hall _ (List.getElem_mem hi)]
  simp
theorem shown_ok (w : World) : Calls Tryz.prog f.law18_shown #[] w (Ret fun v w' => v = .bool true ∧ Below w.heap.size w w') := by
  apply R.law18_shown_calls
  unfold R.law18_shown
  refine (new_ok (ST.start w) 10).mono ?_
  rintro _ w1 ⟨_, rfl, ⟨h, _⟩ | ⟨_, b, db, lb, rfl, S1⟩⟩
  · omega
  refine ⟨_, _, rfl, (create_ok S1 (disk0_ok (m := 0) (by decide)) (by omega) nA (by decide)).mono ?_⟩
  rintro _ w2 ⟨_, rfl, e1, D1, rfl, S2, h1⟩
  have ok1 := CreateR.ok (disk0_ok (m := 0) (by decide)) h1 (files_nd S2)
  have eb1 : D1.b = b := by
    rcases h1 with ⟨_, _, rfl⟩ | ⟨_, _, _, rfl⟩ | ⟨_, _, _, _, _, _, _, _, rfl⟩ <;> rfl
  obtain ⟨rfl, c, o1⟩ := one_create h1
  refine ⟨_, rfl, ?_⟩
  rw [← eb1]
  refine (append_ok S2 ok1 (by omega) nA ⟨#[97, 98, 99]⟩ (by decide)).mono ?_
  rintro _ w3 ⟨_, rfl, e2, D2, rfl, S3, h2⟩
  have ok2 := AppendR.ok ok1 (files_nd S2) h2
  have eb2 : D2.b = D1.b := by
    rcases h2 with ⟨_, _, rfl⟩ | ⟨_, _, _, rfl⟩ | ⟨_, _, _, _, _, _, _, _, _, _, rfl⟩ <;> rfl
  obtain ⟨rfl, da, dc, o2⟩ := o1.append h2 (by show 0 + 3 ≤ 10; omega)
  refine ⟨_, rfl, ?_⟩
  rw [← eb2]
  refine (sync_ok S3 ok2 (by omega) nA (by decide)).mono ?_
  rintro _ w4 ⟨_, rfl, e3, D3, rfl, S4, h3⟩
  have ok3 := SyncR.ok ok2 h3
  have eb3 : D3.b = D2.b := by
    rcases h3 with ⟨_, _, rfl⟩ | ⟨_, _, _, rfl⟩ | ⟨_, _, _, _, _, _, _, _, rfl⟩ <;> rfl
  obtain ⟨rfl, o3⟩ := o2.sync h3
  refine ⟨_, rfl, ?_⟩
  rw [← eb3]
  refine (append_ok S4 ok3 (by omega) nA ⟨#[100, 101]⟩ (by decide)).mono ?_
  rintro _ w5 ⟨_, rfl, e4, D4, rfl, S5, h4⟩
  have ok4 := AppendR.ok ok3 (files_nd S4) h4
  have eb4 : D4.b = D3.b := by
    rcases h4 with ⟨_, _, rfl⟩ | ⟨_, _, _, rfl⟩ | ⟨_, _, _, _, _, _, _, _, _, _, rfl⟩ <;> rfl
  obtain ⟨rfl, da4, dc4, o4⟩ := o3.append h4 (by show (([] : List UInt8) ++ bl ⟨#[97, 98, 99]⟩).length + 2 ≤ 10; decide)
  refine ⟨_, rfl, ?_⟩
  rw [← eb4]
  refine (dir_ok S5 ok4 (by omega)).mono ?_
  rintro _ w6 ⟨_, rfl, e5, D5, rfl, S6, h5⟩
  have ok5 := DirR.ok ok4 h5
  have eb5 : D5.b = D4.b := by
    rcases h5 with ⟨_, _, rfl⟩ | ⟨_, _, _, rfl⟩ | ⟨_, _, _, _, rfl⟩ <;> rfl
  obtain ⟨rfl, o5, hl5, hw5⟩ := o4.dirR h5
  refine ⟨_, rfl, S6.newB fun b14 w7 _ _ S7 => ?_⟩
  rw [← eb5]
  have S8 : ST w w7 (dkE D5 ([It.cells b14 #[.int .i64 1] ty.int] ++ [])) := S7.perm (dkE_perm D5 [It.cells b14 #[.int .i64 1] ty.int] []).symm
  refine (crash_ok S8 ok5 (by omega) 0 (ka := some ⟨b14, 0, none⟩) (kc := 1) [1] (fun w' S' => ?_) (by decide)).mono ?_
  · exact (S'.perm (dkE_perm D5 [It.cells b14 #[.int .i64 1] ty.int] [])).rdc 0 rfl
  rintro _ w8 ⟨_, rfl, gs, D6, rfl, S9, h6⟩
  have nd6 := files_nd S9
  have ok6 := CrashR.ok ok5 nd6 h6
  have hread := o5.crash hl5 hw5 h6 nd6
  refine ⟨_, rfl, (read_ok S9 ok6 nA (by decide)).mono ?_⟩
  rintro _ w9 ⟨_, rfl, rfl, S10⟩
  rw [hread]
  refine ⟨_, _, rfl, IFB_eq (fun _ => IFB_eq (fun _ => IFB_eq (fun _ => IFB_eq (fun _ => IFB_eq (fun _ => IFB_eq (fun _ => IFB_eq (fun _ => ⟨?_, S10.bel⟩) (fun h => absurd rfl h)) (fun h => absurd rfl h)) (fun h => absurd rfl h)) (fun h => absurd rfl h)) (fun h => absurd rfl h)) (fun h => absurd rfl h)) (fun h => absurd rfl h)⟩
  exact congrArg Value.bool (show bytesEq (sof (([97, 98, 99, 100, 101] : List UInt8).take (3 + (clampI 1 (5 - 3)).toNat))) ⟨#[97, 98, 99, 100]⟩ = true by rw [bytesEq_iff, decide_eq_true_eq]; rfl)
theorem flat_get {α : Type} {g : α → List Value} {n : Nat} (hg : ∀ x, (g x).length = n) : ∀ (ls : List α) (i j : Nat) (hi : i < ls.length), j < n → (ls.flatMap g)[i * n + j]? = (g ls[i])[j]?
  | [], i, j, hi, _ => by simp at hi
  | v :: ls, 0, j, _, hj => by
    simp only [List.flatMap_cons, Nat.zero_mul, Nat.zero_add, List.getElem_cons_zero]
    rw [List.getElem?_append_left (by rw [hg]; exact hj)]
  | v :: ls, i + 1, j, hi, hj => by
    simp only [List.flatMap_cons, List.getElem_cons_succ]
    rw [List.getElem?_append_right (by rw [hg, Nat.succ_mul]; omega), hg, show (i + 1) * n + j - n = i * n + j by rw [Nat.succ_mul]; omega]
    exact flat_get hg ls i j (by simpa using hi) hj
theorem row_at {α : Type} {g : α → List Value} {n : Nat} (hg : ∀ x, (g x).length = n) (hn : 0 < n) {w : World} {a : Option Addr} {xs : List α} (h : Rd w a (xs.flatMap g)) {i : Nat} (hi : i < xs.length) : ∃ q, a = some q ∧ ∀ j v, (g xs[i])[j]? = some v → w.cell? ((q.add (i * n)).add j) = some v := by
  have hpos : 0 < (g xs[i]).length := by rw [hg]; exact hn
  obtain ⟨q, hq, _⟩ := h (i * n + 0) ((g xs[i])[0]'hpos) (by rw [flat_get hg xs i 0 hi hn]; exact List.getElem?_eq_getElem hpos)
  refine ⟨q, hq, fun j v hv => ?_⟩
  have hj : j < n := by rw [← hg xs[i]]; exact (List.getElem?_eq_some_iff.1 hv).1
  obtain ⟨q2, hq2, hc⟩ := h (i * n + j) v (by rw [flat_get hg xs i j hi hj]; exact hv)
  rw [hq] at hq2
  cases hq2
  rw [addr_add_add]
  exact hc
abbrev NmR := ByteArray × Nat
def nmC (p : NmR) : List Value := [.string p.1, .int .i64 (p.2 : Int)]
theorem nmC_len (p : NmR) : (nmC p).length = 2 := rfl
theorem tNames : slT Tryz.prog ty.L_ref18_Name = some (ty.ref18_Name, 2, 24, .agg #[.string ⟨#[]⟩, .int .i64 0]) := by kernel_rfl
theorem nm_one (p : NmR) : ∀ u ∈ nmC p, u.oneCell' = true := by
  intro u hu
  simp only [nmC, List.mem_cons, List.not_mem_nil, or_false] at hu
  rcases hu with rfl | rfl <;> rfl
section
variable {w0 w : World} {H : List It}
def fileN (ns : List NmR) (s : ByteArray) : Nat := match ns.find? fun p => bytesEq p.1 s with
  | none => 0
  | some p => p.2
theorem fileN_mem (ns : List NmR) (s : ByteArray) : fileN ns s = 0 ∨ ∃ p ∈ ns, fileN ns s = p.2 := by
  unfold fileN
  cases h : ns.find? fun p => bytesEq p.1 s with
  | none => exact .inl rfl
  | some p => exact .inr ⟨p, List.mem_of_find?_eq_some h, rfl⟩
theorem rfile_ok {a : Option Addr} {c : Nat} {ns : List NmR} (h : Rd w a (ns.flatMap nmC)) (hn : ns.length ≤ 1000000) (s : ByteArray) : Calls Tryz.prog f.ref18_file #[.slice a ns.length c, .string s] w (Ret fun v w' => v = .int .i64 (fileN ns s : Int) ∧ w' = w) := by
  apply R.ref18_file_calls
  unfold R.ref18_file
  refine ⟨fun st w1 => ∃ i : Nat, st = [.int .i64 (i : Int)] ∧ i ≤ ns.length ∧ w1 = w ∧ (ns.take i).find? (fun p => bytesEq p.1 s) = none, fun st _ => match st with
    | [.int _ i] => ns.length - i.toNat
    | _ => 0, ⟨0, rfl, by omega, rfl, by simp⟩, ?_⟩
  rintro _ w1 ⟨i, hst, hi, rfl, hno⟩
  cases hst
  refine IFB_dec (fun hlt => ?_) (fun hge => ?_)
  · have hil : i < ns.length := by omega
    obtain ⟨q, rfl, hc⟩ := row_at nmC_len (by omega) h hil
    refine ⟨⟨by omega, hlt⟩, _, by rw [Int.toNat_natCast]; exact hc 0 _ rfl, IFB_of (fun hb => ?_) (fun hb => ?_)⟩
    · refine ⟨⟨by omega, hlt⟩, _, by rw [Int.toNat_natCast]; exact hc 1 _ rfl, ?_, rfl⟩
      have : ns.find? (fun p => bytesEq p.1 s) = some ns[i] := by
        have e : ns.find? (fun p => bytesEq p.1 s) = (ns.take i ++ ns.drop i).find? (fun p => bytesEq p.1 s) := by rw [List.take_append_drop]
        rw [e, List.find?_append, hno, List.drop_eq_getElem_cons hil, Option.none_or]
        exact List.find?_cons_of_pos (p := fun p : NmR => bytesEq p.1 s) hb
      unfold fileN
      rw [this]
    · rw [wrap_succ (by omega)]
      refine ⟨⟨i + 1, rfl, by omega, rfl, ?_⟩, by show ns.length - ((i + 1 : Nat) : Int).toNat < ns.length - ((i : Nat) : Int).toNat; simp only [Int.toNat_natCast]; omega⟩
      rw [List.take_succ_eq_append_getElem hil, List.find?_append, hno]
      simp [hb]
  · rw [List.take_of_length_le (by omega)] at hno
    refine ⟨?_, rfl⟩
    unfold fileN
    rw [hno]
    rfl
theorem app_nm (S : ST w0 w H) (n : Nat) {a : Option Addr} {c : Nat} {out : List NmR} (hn : H[n]? = some (It.row ty.ref18_Name 2 a out.length c (out.flatMap nmC))) (j : Nat) {b : Nat} (p : NmR) (hb : H[j]? = some (It.cells b ⟨nmC p⟩ ty.ref18_Name)) (hl : out.length + 1 ≤ 1000001) {f : Value → World → Prop}
    (hf : ∀ a' c' w', ST w0 w' (H.set n (It.row ty.ref18_Name 2 a' (out ++ [p]).length c' ((out ++ [p]).flatMap nmC))) → f (.slice a' (out ++ [p]).length c') w') :
    OPR Tryz.prog (Builtin.append_ #[ty.L_ref18_Name, ty.L_ref18_Name] ty.L_ref18_Name #[.slice a out.length c, .slice (some ⟨b, 0, none⟩) 1 1]) f w := by
  refine S.app n hn tNames rfl (by omega) (by omega) (S.rdc j hb) (mm := 1) rfl (nm_one p) (by omega) fun a' c' w' S' => ?_
  have e1 : (out ++ [p]).length = out.length + 1 := by simp
  have e2 : (out ++ [p]).flatMap nmC = out.flatMap nmC ++ nmC p := by simp
  rw [← e1] at S' ⊢
  refine hf a' c' w' ?_
  rw [e2]
  exact S'
theorem rwithout_ok (S : ST w0 w H) {a : Option Addr} {c : Nat} {ns : List NmR} (h : ∀ w', ST w0 w' H → Rd w' a (ns.flatMap nmC)) (hn : ns.length ≤ 1000000) (s : ByteArray) :
    Calls Tryz.prog f.ref18_without #[.slice a ns.length c, .string s] w (Ret fun v w' => ∃ (a' : Option Addr) (c' : Nat) (out : List NmR), v = .slice a' out.length c' ∧ out.length ≤ ns.length ∧ (∀ p ∈ out, p ∈ ns) ∧ ST w0 w' (It.row ty.ref18_Name 2 a' out.length c' (out.flatMap nmC) :: H)) := by
  apply R.ref18_without_calls
  unfold R.ref18_without
  refine ⟨fun st w1 => ∃ (i : Nat) (a' : Option Addr) (c' : Nat) (out : List NmR), st = [.slice a' out.length c', .int .i64 (i : Int)] ∧ i ≤ ns.length ∧ out.length ≤ i ∧ (∀ p ∈ out, p ∈ ns) ∧ ST w0 w1 (It.row ty.ref18_Name 2 a' out.length c' (out.flatMap nmC) :: H), fun st _ => match st with
    | [_, .int _ i] => ns.length - i.toNat
    | _ => 0, ⟨0, none, 0, [], rfl, by omega, by simp, by simp, S.nil _ _⟩, ?_⟩
  rintro oa _ oc _ w1 ⟨i, _, _, out, hst, hi, hol, hmem, S1⟩
  cases hst
  refine IFB_dec (fun hlt => ?_) (fun _ => ⟨oa, oc, out, rfl, by omega, hmem, S1⟩)
  have hil : i < ns.length := by omega
  obtain ⟨q, hq, hc⟩ := row_at nmC_len (by omega) (h w1 (S1.drop 1)) hil
  have hdec : ns.length - ((i + 1 : Nat) : Int).toNat < ns.length - ((i : Nat) : Int).toNat := by simp only [Int.toNat_natCast]; omega
  rw [hq, wrap_succ (by omega)]
  refine ⟨⟨by omega, hlt⟩, _, by rw [Int.toNat_natCast]; exact hc 0 _ rfl, IFB_of (fun _ => ?_) (fun _ => ?_)⟩
  · refine ⟨⟨by omega, hlt⟩, _, by rw [Int.toNat_natCast]; exact hc 0 _ rfl, _, by rw [Int.toNat_natCast]; exact hc 1 _ rfl, S1.newB fun b11 w2 _ _ S2 => ?_⟩
    refine app_nm S2 1 rfl 0 ns[i] rfl (by omega) fun a' c' w3 S3 => ⟨_, _, _, rfl, ⟨i + 1, a', c', out ++ [ns[i]], rfl, by omega, by simp; omega, fun p hp => ?_, S3.drop 1⟩, hdec⟩
    rcases List.mem_append.1 hp with h1 | h1
    · exact hmem p h1
    · rw [List.mem_singleton.1 h1]; exact List.getElem_mem hil
  · exact ⟨⟨i + 1, oa, oc, out, rfl, by omega, by omega, hmem, S1⟩, hdec⟩
theorem rwith_ok (S : ST w0 w H) {a : Option Addr} {c : Nat} {ns : List NmR} (h : ∀ w', ST w0 w' H → Rd w' a (ns.flatMap nmC)) (hn : ns.length ≤ 999999) (s : ByteArray) (k : Nat) :
    Calls Tryz.prog f.ref18_with #[.slice a ns.length c, .string s, .int .i64 (k : Int)] w (Ret fun v w' => ∃ (a' : Option Addr) (c' : Nat) (out : List NmR), v = .slice a' out.length c' ∧ out.length ≤ ns.length + 1 ∧ (∀ p ∈ out, p ∈ ns ∨ p = (s, k)) ∧ ST w0 w' (It.row ty.ref18_Name 2 a' out.length c' (out.flatMap nmC) :: H)) := by
  apply R.ref18_with_calls
  unfold R.ref18_with
  refine (rwithout_ok S h (by omega) s).mono ?_
  rintro _ w1 ⟨_, rfl, la, lc, ls, rfl, hll, hls, S1⟩
  refine ⟨_, _, _, rfl, ?_⟩
  refine ⟨fun st w2 => ∃ (i : Nat) (a' : Option Addr) (c' : Nat) (out : List NmR) (dn : Bool), st = [.slice a' out.length c', .bool dn, .int .i64 (i : Int)] ∧ i ≤ ls.length ∧ out.length ≤ i + dn.toNat ∧ (∀ p ∈ out, p ∈ ns ∨ p = (s, k)) ∧ ST w0 w2 (It.row ty.ref18_Name 2 a' out.length c' (out.flatMap nmC) :: It.row ty.ref18_Name 2 la ls.length lc (ls.flatMap nmC) :: H), fun st _ => match st with
    | [_, _, .int _ i] => ls.length - i.toNat
    | _ => 0, ⟨0, none, 0, [], false, rfl, by omega, by simp, by simp, S1.nil _ _⟩, ?_⟩
  rintro oa _ oc dn _ w2 ⟨i, _, _, out, _, hst, hi, hol, hmem, S2⟩
  cases hst
  have hdn : dn.toNat ≤ 1 := by cases dn <;> decide
  refine IFB_dec (fun hlt => ?_) (fun _ => ?_)
  · have hil : i < ls.length := by omega
    obtain ⟨q, rfl, hc⟩ := row_at nmC_len (by omega) (S2.rd 1 rfl) hil
    have hdec : ls.length - ((i + 1 : Nat) : Int).toNat < ls.length - ((i : Nat) : Int).toNat := by simp only [Int.toNat_natCast]; omega
    have hlm : ls[i] ∈ ns := hls _ (List.getElem_mem hil)
    rw [wrap_succ (by omega)]
    refine ⟨fun st w3 => ∃ b : Bool, st = [.bool b] ∧ w3 = w2 ∧ (b = true → dn = false), IFB_of (fun hd => ?_) (fun hd => ⟨false, rfl, rfl, by simp⟩), ?_⟩
    · exact ⟨⟨by omega, hlt⟩, _, by rw [Int.toNat_natCast]; exact hc 0 _ rfl, _, rfl, rfl, fun _ => by simpa using hd⟩
    · rintro b w3 ⟨_, hb, rfl, hbd⟩
      cases hb
      refine IFB_of (fun hb => ?_) (fun hb => ?_)
      · have hd := hbd hb
        subst hd
        refine S2.newB fun b14 w4 _ _ S4 => app_nm S4 1 rfl 0 (s, k) rfl (by simp at hol; omega) fun a5 c5 w5 S5 => ⟨_, _, _, rfl, ⟨by omega, hlt⟩, ?_⟩
        have S5 := S5.drop 1
        obtain ⟨q5, hq5, hc5⟩ := row_at nmC_len (by omega) (ST.rd S5 1 rfl) hil
        cases hq5
        refine ⟨_, by rw [Int.toNat_natCast]; exact hc5 0 _ rfl, _, by rw [Int.toNat_natCast]; exact hc5 1 _ rfl, ST.newB S5 fun b20 w6 _ _ S6 => ?_⟩
        refine app_nm S6 1 rfl 0 ls[i] rfl (by simp at hol ⊢; omega) fun a7 c7 w7 S7 => ⟨_, _, _, rfl, ⟨i + 1, a7, c7, out ++ [(s, k)] ++ [ls[i]], true, rfl, by omega, by simp at hol ⊢; omega, fun p hp => ?_, S7.drop 1⟩, hdec⟩
        rcases List.mem_append.1 hp with h1 | h1
        · rcases List.mem_append.1 h1 with h2 | h2
          · exact hmem p h2
          · exact .inr (List.mem_singleton.1 h2)
        · exact .inl (by rw [List.mem_singleton.1 h1]; exact hlm)
      · refine ⟨⟨by omega, hlt⟩, _, by rw [Int.toNat_natCast]; exact hc 0 _ rfl, _, by rw [Int.toNat_natCast]; exact hc 1 _ rfl, S2.newB fun b26 w6 _ _ S6 => ?_⟩
        refine app_nm S6 1 rfl 0 ls[i] rfl (by omega) fun a7 c7 w7 S7 => ⟨_, _, _, rfl, ⟨i + 1, a7, c7, out ++ [ls[i]], dn, rfl, by omega, by simp; omega, fun p hp => ?_, S7.drop 1⟩, hdec⟩
        rcases List.mem_append.1 hp with h1 | h1
        · exact hmem p h1
        · exact .inl (by rw [List.mem_singleton.1 h1]; exact hlm)
  · refine IFB_of (fun hd => ?_) (fun _ => ⟨oa, oc, out, rfl, by omega, hmem, S2.keep 1⟩)
    have hd : dn = false := by simpa using hd
    subst hd
    refine S2.newB fun b29 w4 _ _ S4 => app_nm S4 1 rfl 0 (s, k) rfl (by simp at hol; omega) fun a5 c5 w5 S5 => ⟨_, _, _, rfl, a5, c5, out ++ [(s, k)], rfl, by simp at hol ⊢; omega, fun p hp => ?_, (ST.drop S5 1).keep 1⟩
    rcases List.mem_append.1 hp with h1 | h1
    · exact hmem p h1
    · exact .inr (List.mem_singleton.1 h1)
end
abbrev WtR := ByteArray × Nat × ByteArray
def wtC (p : WtR) : List Value := [.string p.1, .int .i64 (p.2.1 : Int), .string p.2.2]
theorem tWts : slT Tryz.prog ty.L_ref18_Change = some (ty.ref18_Change, 3, 40, .agg #[.string ⟨#[]⟩, .int .i64 0, .string ⟨#[]⟩]) := by kernel_rfl
theorem tFls : slT Tryz.prog ty.L_ref18_File = some (ty.ref18_File, 2, 24, .agg #[.string ⟨#[]⟩, .int .i64 0]) := by kernel_rfl
theorem wt_one (p : WtR) : ∀ u ∈ wtC p, u.oneCell' = true := by
  intro u hu
  simp only [wtC, List.mem_cons, List.not_mem_nil, or_false] at hu
  rcases hu with rfl | rfl | rfl <;> rfl
structure RefC where
  b : Nat
  room : Int
  la : Option Addr
  lc : Nat
  files : List NmR
  da : Option Addr
  dc : Nat
  dir : List NmR
  xa : Option Addr
  xl : Nat
  xc : Nat
  wa : Option Addr
  wc : Nat
  waits : List WtR
def RefC.cells (R : RefC) : Array Value := #[.int .i64 R.room, .slice R.la R.files.length R.lc, .slice R.da R.dir.length R.dc, .slice R.xa R.xl R.xc, .slice R.wa R.waits.length R.wc, .bool false, .int .i64 (-1)]
def refE (R : RefC) (E : List It) : List It := It.cells R.b R.cells ty.ref18_Disk :: It.row ty.ref18_File 2 R.la R.files.length R.lc (R.files.flatMap nmC) :: It.row ty.ref18_Name 2 R.da R.dir.length R.dc (R.dir.flatMap nmC) :: It.row ty.ref18_Change 3 R.wa R.waits.length R.wc (R.waits.flatMap wtC) :: E
structure RefOk (R : RefC) (m : Nat) : Prop where
  fn : R.files.length ≤ m
  dn : R.dir.length ≤ m
  wn : R.waits.length ≤ m
  num : ∀ p ∈ R.dir, 1 ≤ p.2 ∧ p.2 ≤ R.files.length
  size : ∀ p ∈ R.files, p.1.size ≤ 1000 * m
theorem RefOk.mono {R : RefC} {m n : Nat} (h : RefOk R m) (hn : m ≤ n) : RefOk R n := ⟨Nat.le_trans h.fn hn, Nat.le_trans h.dn hn, Nat.le_trans h.wn hn, h.num, fun p hp => Nat.le_trans (h.size p hp) (Nat.mul_le_mul_left _ hn)⟩
section
variable {w0 w : World} {G : RefC} {E H : List It} {m : Nat}
theorem isName_any (s : ByteArray) (hs : s.size ≤ 9223372036854775807) : Calls Tryz.prog f.ref18_IsName #[.string s] w (Ret fun v w' => (∃ b : Bool, v = .bool b) ∧ w' = w) := by
  apply R.ref18_IsName_calls
  unfold R.ref18_IsName
  refine ⟨fun st w1 => ∃ i : Nat, st = [.int .i64 (i : Int)] ∧ i ≤ s.size ∧ w1 = w, fun st _ => match st with
    | [.int _ i] => s.size - i.toNat
    | _ => 0, ⟨0, rfl, by omega, rfl⟩, ?_⟩
  rintro _ w1 ⟨i, hst, hi, rfl⟩
  cases hst
  refine IFB_dec (fun hlt => ?_) (fun _ => IFB_of (fun _ => ⟨⟨_, rfl⟩, rfl⟩) (fun _ => ⟨⟨_, rfl⟩, rfl⟩))
  have hdec : s.size - ((i + 1 : Nat) : Int).toNat < s.size - ((i : Nat) : Int).toNat := by simp only [Int.toNat_natCast]; omega
  rw [wrap_succ (by omega)]
  refine ⟨⟨by omega, hlt⟩, ?_⟩
  repeat' (first | exact ⟨⟨_, rfl⟩, rfl⟩ | exact ⟨⟨i + 1, rfl, by omega, rfl⟩, hdec⟩ | refine IFB_of (fun _ => ?_) (fun _ => ?_))
theorem rmay_ok {b : Nat} (h : w.cell? ⟨b, 6, none⟩ = some (.int .i64 (-1))) : Calls Tryz.prog f.ref18_Disk_may #[ptrV b] w (Ret fun v w' => v = .int .i64 0 ∧ w' = w) := by
  apply R.ref18_Disk_may_calls
  unfold R.ref18_Disk_may
  refine ⟨_, h, IFB_eq (fun h => absurd h (by decide)) (fun _ => ⟨_, h, IFB_dec (fun h => absurd h (by decide)) (fun _ => ⟨rfl, rfl⟩)⟩)⟩
theorem changed_ok (S : ST w0 w H) {a : Option Addr} {c : Nat} {ns : List NmR} (h : ∀ w', ST w0 w' H → Rd w' a (ns.flatMap nmC)) (hn : ns.length ≤ 999999) (s o : ByteArray) (k : Nat) :
    Calls Tryz.prog f.ref18_changed #[.slice a ns.length c, .agg #[.string s, .int .i64 (k : Int), .string o]] w (Ret fun v w' => ∃ (a' : Option Addr) (c' : Nat) (out : List NmR), v = .slice a' out.length c' ∧ out.length ≤ ns.length + 1 ∧ (∀ p ∈ out, p ∈ ns ∨ (p = (s, k) ∧ k ≠ 0)) ∧ ST w0 w' (It.row ty.ref18_Name 2 a' out.length c' (out.flatMap nmC) :: H)) := by
  apply R.ref18_changed_calls
  unfold R.ref18_changed
  refine S.newB fun b5 w1 _ _ S1 => ?_
  refine ⟨fun st w3 => ∃ (x : It) (la : Option Addr) (lc : Nat) (ls : List NmR), st = [.slice la ls.length lc] ∧ ls.length ≤ ns.length ∧ (∀ p ∈ ls, p ∈ ns) ∧ ST w0 w3 (x :: It.cells b5 #[.string s, .int .i64 (k : Int), .string o] ty.ref18_Change :: H) ∧ (∀ w', ST w0 w' (x :: It.cells b5 #[.string s, .int .i64 (k : Int), .string o] ty.ref18_Change :: H) → Rd w' la (ls.flatMap nmC)), ⟨_, S1.cell 0 rfl rfl, IFB_of (fun _ => ⟨_, S1.cell 0 rfl rfl, ?_⟩) (fun _ => ?_)⟩, ?_⟩
  · refine (rwithout_ok S1 (fun w' S' => h w' (S'.drop 1)) (by omega) o).mono ?_
    rintro _ w2 ⟨_, rfl, a', c', out, rfl, hl, hm, S2⟩
    exact ⟨_, _, _, rfl, _, a', c', out, rfl, hl, hm, S2, fun w' S' => S'.rd 0 rfl⟩
  · exact ⟨It.row ty.ref18_Name 2 none 0 0 [], a, c, ns, rfl, Nat.le_refl _, fun p hp => hp, S1.nil _ _, fun w' S' => h w' (S'.drop 2)⟩
  rintro la _ lc w3 ⟨x, _, _, ls, hst, hl, hm, S3, hrd⟩
  cases hst
  refine ⟨_, S3.cell 1 rfl rfl, IFB_eq (fun hk => ⟨_, S3.cell 1 rfl rfl, ?_⟩) (fun hk => ⟨_, S3.cell 1 rfl rfl, _, S3.cell 1 rfl rfl, ?_⟩)⟩
  · refine (rwithout_ok S3 hrd (by omega) s).mono ?_
    rintro _ w4 ⟨_, rfl, a', c', out, rfl, hl2, hm2, S4⟩
    exact ⟨_, _, _, rfl, a', c', out, rfl, by omega, fun p hp => .inl (hm p (hm2 p hp)), S4.keep 2⟩
  · refine (rwith_ok S3 hrd (by omega) s k).mono ?_
    rintro _ w4 ⟨_, rfl, a', c', out, rfl, hl2, hm2, S4⟩
    refine ⟨_, _, _, rfl, a', c', out, rfl, by omega, fun p hp => ?_, S4.keep 2⟩
    rcases hm2 p hp with h1 | h1
    · exact .inl (hm p h1)
    · exact .inr ⟨h1, by omega⟩
theorem r7 {n : Nat} (h : n < 7) : 0 + n < G.cells.size := by rw [Nat.zero_add]; exact h
theorem rwait_ok (S : ST w0 w (refE G E)) (hR : RefOk G m) (hm : m < 900000) (s o : ByteArray) (k : Nat) :
    Calls Tryz.prog f.ref18_Disk_wait #[ptrV G.b, .agg #[.string s, .int .i64 (k : Int), .string o]] w (Ret fun v w' => v = .int .i64 0 ∧ ∃ (da : Option Addr) (dc : Nat) (dir : List NmR) (wa : Option Addr) (wc : Nat), dir.length ≤ G.dir.length + 1 ∧ (∀ p ∈ dir, p ∈ G.dir ∨ (p = (s, k) ∧ k ≠ 0)) ∧
      ST w0 w' (refE { G with da := da, dc := dc, dir := dir, wa := wa, wc := wc, waits := G.waits ++ [(s, k, o)] } E)) := by
  apply R.ref18_Disk_wait_calls
  unfold R.ref18_Disk_wait
  have hdn := hR.dn
  have hwn := hR.wn
  refine S.newB fun b5 w1 _ _ S1 => (rmay_ok (S1.cell 1 rfl rfl)).mono ?_
  rintro _ w2 ⟨_, rfl, rfl, rfl⟩
  refine ⟨_, rfl, IFB_eq (fun _ => ?_) (fun h => absurd rfl h)⟩
  refine S1.draw fun w3 _ S3 => ⟨_, _, _, S3.cell 1 rfl rfl, _, S3.cell 0 rfl rfl, _, S3.cell 0 rfl rfl, _, S3.cell 0 rfl rfl, ?_⟩
  refine (changed_ok S3 (fun w' S' => S'.rd 3 rfl) (by omega) s o k).mono ?_
  rintro _ w4 ⟨_, rfl, da, dc, dir, rfl, hdl, hdm, S4⟩
  refine ⟨_, _, _, rfl, ?_⟩
  refine S4.sto 2 rfl (i := 2) (cs' := RefC.cells { G with da := da, dc := dc, dir := dir }) (r7 (G := G) (n := 2) (by decide)) rfl fun w5 S5 => ?_
  refine S5.draw fun w6 _ S6 => ⟨_, _, _, S6.cell 2 rfl rfl, _, S6.cell 1 rfl rfl, _, S6.cell 1 rfl rfl, _, S6.cell 1 rfl rfl, S6.newB fun b21 w7 _ _ S7 => ⟨S7.cell 3 rfl rfl, ?_⟩⟩
  refine S7.app 6 rfl tWts rfl (by omega) (by omega) (S7.rdc 0 rfl) (mm := 1) rfl (wt_one (s, k, o)) (by omega) fun wa wc w8 S8 => ⟨_, _, _, rfl, ?_⟩
  refine S8.sto 3 rfl (i := 4) (cs' := RefC.cells { G with da := da, dc := dc, dir := dir, wa := wa, wc := wc, waits := G.waits ++ [(s, k, o)] }) (r7 (G := G) (n := 4) (by decide)) (by simp [RefC.cells]) fun w9 S9 => ⟨rfl, da, dc, dir, wa, wc, hdl, hdm, ?_⟩
  have e1 : (G.waits ++ [(s, k, o)]).length = G.waits.length + 1 := by simp
  have e2 : (G.waits ++ [(s, k, o)]).flatMap wtC = G.waits.flatMap wtC ++ wtC (s, k, o) := by simp
  have S10 : ST w0 w9 (It.row ty.ref18_Name 2 da dir.length dc (dir.flatMap nmC) :: It.cells b5 #[.string s, .int .i64 (k : Int), .string o] ty.ref18_Change :: It.cells G.b (RefC.cells { G with da := da, dc := dc, dir := dir, wa := wa, wc := wc, waits := G.waits ++ [(s, k, o)] }) ty.ref18_Disk ::
    It.row ty.ref18_File 2 G.la G.files.length G.lc (G.files.flatMap nmC) :: It.row ty.ref18_Name 2 G.da G.dir.length G.dc (G.dir.flatMap nmC) :: It.row ty.ref18_Change 3 wa (G.waits.length + 1) wc (G.waits.flatMap wtC ++ wtC (s, k, o)) :: E) := S9.drop 1
  rw [← e2, ← e1] at S10
  have S11 := S10.sub (((List.Sublist.cons _ (List.Sublist.refl _)).cons_cons _))
  have S12 := S11.sub ((((List.Sublist.cons _ (List.Sublist.refl _)).cons_cons _).cons_cons _).cons_cons _)
  have S13 := ((S12.pull 1 rfl).pull 2 rfl).pull 1 rfl
  exact S13
end
section
variable {w0 w : World} {G : RefC} {E H : List It} {m : Nat}
theorem rmet_ok (S : ST w0 w (refE G E)) (hR : RefOk G m) (hm : m < 900000) (s : ByteArray) (hs : s.size ≤ 9223372036854775807) (must : Bool) :
    Calls Tryz.prog f.ref18_Disk_met #[ptrV G.b, .string s, .bool must] w (Ret fun v w' => (∃ e : Int, v = .int .i64 e ∧ (e = 0 → must = true → fileN G.dir s ≠ 0)) ∧ w' = w) := by
  apply R.ref18_Disk_met_calls
  unfold R.ref18_Disk_met
  have hdn := hR.dn
  refine ⟨_, S.cell 0 rfl rfl, IFB_false ((isName_any s hs).mono ?_)⟩
  rintro _ w1 ⟨_, rfl, ⟨b, rfl⟩, rfl⟩
  refine ⟨_, rfl, IFB_of (fun _ => ⟨⟨_, rfl, fun h => absurd h (by decide)⟩, rfl⟩) (fun _ => ?_)⟩
  cases must with
  | false => exact IFB_false ⟨⟨_, rfl, fun _ h => by cases h⟩, rfl⟩
  | true =>
    refine IFB_true ⟨_, _, _, S.cell 0 rfl rfl, (rfile_ok (S.rd 2 rfl) (by omega) s).mono ?_⟩
    rintro _ w2 ⟨_, rfl, rfl, rfl⟩
    exact ⟨_, rfl, IFB_eq (fun _ => ⟨⟨_, rfl, fun h => absurd h (by decide)⟩, rfl⟩) (fun h => ⟨⟨_, rfl, fun _ _ e => h (by rw [e]; rfl)⟩, rfl⟩)⟩
theorem rfree_ok (S : ST w0 w (refE G E)) (hR : RefOk G m) (hm : m < 900000) : Calls Tryz.prog f.ref18_Disk_Free #[ptrV G.b] w (Ret fun v w' => (∃ e : Int, v = .int .i64 e) ∧ ST w0 w' (refE G E)) := by
  apply R.ref18_Disk_Free_calls
  unfold R.ref18_Disk_Free
  have hdn := hR.dn
  have hfn := hR.fn
  refine ⟨_, S.cell 0 rfl rfl, fun st w1 => ∃ (n : Int) (i : Nat), st = [.int .i64 n, .int .i64 (i : Int)] ∧ i ≤ G.dir.length ∧ ST w0 w1 (refE G E), fun st _ => match st with
    | [_, .int _ i] => G.dir.length - i.toNat
    | _ => 0, ⟨_, 0, rfl, by omega, S⟩, ?_⟩
  rintro n _ w1 ⟨_, i, hst, hi, S1⟩
  cases hst
  refine ⟨_, _, _, S1.cell 0 rfl rfl, IFB_dec (fun hlt => ?_) (fun _ => ⟨⟨_, rfl⟩, S1⟩)⟩
  have hil : i < G.dir.length := by omega
  refine S1.draw fun w2 _ S2 => ⟨_, _, _, S2.cell 0 rfl rfl, _, _, _, S2.cell 0 rfl rfl, ?_⟩
  obtain ⟨q, hq, hc⟩ := row_at nmC_len (by omega) (S2.rd 2 rfl) hil
  obtain ⟨h1, h2⟩ := hR.num _ (List.getElem_mem hil)
  have hjl : G.dir[i].2 - 1 < G.files.length := by omega
  obtain ⟨q2, hq2, hc2⟩ := row_at nmC_len (by omega) (S2.rd 1 rfl) hjl
  have ew : IntKind.i64.wrap ((G.dir[i].2 : Int) - 1) = ((G.dir[i].2 - 1 : Nat) : Int) := by rw [wrap_i64 (by omega) (by omega)]; omega
  rw [hq, hq2]
  refine ⟨⟨by omega, hlt⟩, _, by rw [Int.toNat_natCast]; exact hc 1 _ rfl, ?_⟩
  rw [ew]
  refine ⟨⟨by omega, by omega⟩, _, by rw [Int.toNat_natCast]; exact hc2 0 _ rfl, ?_⟩
  rw [wrap_succ (by omega)]
  exact ⟨⟨_, i + 1, rfl, by omega, S2⟩, by show G.dir.length - ((i + 1 : Nat) : Int).toNat < G.dir.length - ((i : Nat) : Int).toNat; simp only [Int.toNat_natCast]; omega⟩
abbrev ROut (w0 : World) (G : RefC) (E : List It) (m : Nat) (v : Value) (w' : World) : Prop := (∃ e : Int, v = .int .i64 e) ∧ ∃ G' : RefC, G'.b = G.b ∧ RefOk G' (m + 1) ∧ ST w0 w' (refE G' E)
theorem rstay (S : ST w0 w (refE G E)) (hR : RefOk G m) (e : Int) : ROut w0 G E m (.int .i64 e) w := ⟨⟨e, rfl⟩, G, rfl, hR.mono (by omega), S⟩
theorem rcreate_ok (S : ST w0 w (refE G E)) (hR : RefOk G m) (hm : m < 900000) (s : ByteArray) (hs : s.size ≤ 9223372036854775807) : Calls Tryz.prog f.ref18_Disk_Create #[ptrV G.b, .string s] w (Ret fun v w' => ROut w0 G E m v w') := by
  apply R.ref18_Disk_Create_calls
  unfold R.ref18_Disk_Create
  have hdn := hR.dn
  have hfn := hR.fn
  have hwn := hR.wn
  refine (rmet_ok S hR hm s hs false).mono ?_
  rintro _ w1 ⟨_, rfl, ⟨e, rfl, _⟩, rfl⟩
  refine ⟨_, rfl, IFB_ne (fun _ => rstay S hR e) (fun _ => ⟨_, _, _, S.cell 0 rfl rfl, ?_⟩)⟩
  rw [wrap_succ (by omega)]
  refine (rwait_ok S hR hm s ⟨#[]⟩ (G.files.length + 1)).mono ?_
  rintro _ w2 ⟨_, rfl, rfl, da, dc, dir, wa, wc, hdl, hdm, S2⟩
  refine ⟨_, rfl, IFB_eq (fun _ => ⟨_, _, _, S2.cell 0 rfl rfl, S2.newB fun b11 w3 _ _ S3 => ?_⟩) (fun h => absurd rfl h)⟩
  refine S3.app 2 rfl tFls rfl (by omega) (by omega) (S3.rdc 0 rfl) (mm := 1) rfl (nm_one (⟨#[]⟩, 0)) (by show (G.files.length + 1) * 24 ≤ 140737488355328; omega) fun la lc w4 S4 => ⟨_, _, _, rfl, ?_⟩
  refine S4.sto 1 rfl (i := 1) (cs' := RefC.cells { G with la := la, lc := lc, files := G.files ++ [(⟨#[]⟩, 0)], da := da, dc := dc, dir := dir, wa := wa, wc := wc, waits := G.waits ++ [(s, G.files.length + 1, ⟨#[]⟩)] }) (r7 (n := 1) (by decide)) (by simp [RefC.cells]) fun w5 S5 => ?_
  have e1 : (G.files ++ [((⟨#[]⟩, 0) : NmR)]).length = G.files.length + 1 := by simp
  have e2 : (G.files ++ [((⟨#[]⟩, 0) : NmR)]).flatMap nmC = G.files.flatMap nmC ++ nmC (⟨#[]⟩, 0) := by simp
  refine ⟨⟨_, rfl⟩, { G with la := la, lc := lc, files := G.files ++ [(⟨#[]⟩, 0)], da := da, dc := dc, dir := dir, wa := wa, wc := wc, waits := G.waits ++ [(s, G.files.length + 1, ⟨#[]⟩)] }, rfl, ⟨by simp; omega, by show dir.length ≤ m + 1; omega, by simp; omega, fun p hp => ?_, fun p hp => ?_⟩, ?_⟩
  · show 1 ≤ p.2 ∧ p.2 ≤ (G.files ++ [((⟨#[]⟩, 0) : NmR)]).length
    rw [e1]
    rcases hdm p hp with h1 | ⟨rfl, _⟩
    · have := hR.num p h1; omega
    · simp
  · rcases List.mem_append.1 (show p ∈ G.files ++ [((⟨#[]⟩, 0) : NmR)] from hp) with h1 | h1
    · have := hR.size p h1; omega
    · rw [List.mem_singleton.1 h1]; exact Nat.zero_le _
  · unfold refE
    show ST w0 w5 (_ :: It.row ty.ref18_File 2 la (G.files ++ [((⟨#[]⟩, 0) : NmR)]).length lc ((G.files ++ [((⟨#[]⟩, 0) : NmR)]).flatMap nmC) :: _)
    rw [e1, e2]
    exact S5.drop 1
theorem rrename_ok (S : ST w0 w (refE G E)) (hR : RefOk G m) (hm : m < 900000) (o s : ByteArray) (ho : o.size ≤ 9223372036854775807) (hs : s.size ≤ 9223372036854775807) : Calls Tryz.prog f.ref18_Disk_Rename #[ptrV G.b, .string o, .string s] w (Ret fun v w' => ROut w0 G E m v w') := by
  apply R.ref18_Disk_Rename_calls
  unfold R.ref18_Disk_Rename
  have hdn := hR.dn
  have hwn := hR.wn
  refine (rmet_ok S hR hm o ho false).mono ?_
  rintro _ w1 ⟨_, rfl, ⟨e, rfl, _⟩, rfl⟩
  refine ⟨_, rfl, IFB_ne (fun _ => rstay S hR e) (fun _ => (rmet_ok S hR hm s hs false).mono ?_)⟩
  rintro _ w1 ⟨_, rfl, ⟨e, rfl, _⟩, rfl⟩
  refine ⟨_, rfl, IFB_ne (fun _ => rstay S hR e) (fun _ => ⟨_, _, _, S.cell 0 rfl rfl, (rfile_ok (S.rd 2 rfl) (by omega) o).mono ?_⟩)⟩
  rintro _ w2 ⟨_, rfl, rfl, rfl⟩
  refine ⟨_, rfl, IFB_eq (fun _ => rstay S hR 180) (fun h => (rwait_ok S hR hm s o (fileN G.dir o)).mono ?_)⟩
  rintro _ w3 ⟨_, rfl, rfl, da, dc, dir, wa, wc, hdl, hdm, S2⟩
  refine ⟨_, rfl, ⟨_, rfl⟩, { G with da := da, dc := dc, dir := dir, wa := wa, wc := wc, waits := G.waits ++ [(s, fileN G.dir o, o)] }, rfl, ⟨Nat.le_succ_of_le hR.fn, by show dir.length ≤ m + 1; omega, by simp; omega, fun p hp => ?_, fun p hp => Nat.le_trans (hR.size p hp) (by omega)⟩, S2⟩
  rcases hdm p hp with h1 | ⟨rfl, h2⟩
  · exact hR.num p h1
  · rcases fileN_mem G.dir o with h3 | ⟨q, hq, h3⟩
    · exact absurd h3 h2
    · show 1 ≤ fileN G.dir o ∧ _
      rw [h3]
      exact hR.num q hq
theorem rremove_ok (S : ST w0 w (refE G E)) (hR : RefOk G m) (hm : m < 900000) (s : ByteArray) (hs : s.size ≤ 9223372036854775807) : Calls Tryz.prog f.ref18_Disk_Remove #[ptrV G.b, .string s] w (Ret fun v w' => ROut w0 G E m v w') := by
  apply R.ref18_Disk_Remove_calls
  unfold R.ref18_Disk_Remove
  have hdn := hR.dn
  have hwn := hR.wn
  refine (rmet_ok S hR hm s hs true).mono ?_
  rintro _ w1 ⟨_, rfl, ⟨e, rfl, _⟩, rfl⟩
  refine ⟨_, rfl, IFB_ne (fun _ => rstay S hR e) (fun _ => (rwait_ok S hR hm s ⟨#[]⟩ 0).mono ?_)⟩
  rintro _ w3 ⟨_, rfl, rfl, da, dc, dir, wa, wc, hdl, hdm, S2⟩
  refine ⟨_, rfl, ⟨_, rfl⟩, { G with da := da, dc := dc, dir := dir, wa := wa, wc := wc, waits := G.waits ++ [(s, 0, ⟨#[]⟩)] }, rfl, ⟨Nat.le_succ_of_le hR.fn, by show dir.length ≤ m + 1; omega, by simp; omega, fun p hp => ?_, fun p hp => Nat.le_trans (hR.size p hp) (by omega)⟩, S2⟩
  rcases hdm p hp with h1 | ⟨_, h2⟩
  · exact hR.num p h1
  · exact absurd rfl h2
end
end Go.Proofs.YtfgbfodohmeamaaGreatDoor
