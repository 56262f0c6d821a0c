/-
  Texts of this claim, laid one behind the other by a program of mine (install.py): K.Dk6, K.ShClone, K.Dk7, K.Dk8, K.Dk9, K.ShSort, K.Dk10, K.Dk11, K.Dk12, K.Dk13, K.Rf1, K.Rf2, K.Rf3, K.Rf4, K.Lw1, K.Lw2, K.Lw3, K.Wd1, K.Wd2.
-/
import Derived.Test.YtfgbfodohmeamaaGreatDoorM4
import Derived.Shelf.SlMaps.Clone
import Derived.Test.YtfgbfodohmeamaaGreatDoorProg
import Derived.Shelf.SlSortCmp.Whole1
import Derived.Shelf.SlSortCmp.NoneTotal
namespace Go.Proofs.YtfgbfodohmeamaaGreatDoor
set_option maxRecDepth 100000
open Go.Dn Go.Proofs
open Go.RowKit (Below)
set_option linter.unusedVariables false
abbrev NdF (l : List FileC) : Prop := l.Pairwise (fun f g => f.b ≠ g.b)
section
variable {D D' : DiskC} {m : Nat} {e : Int}
theorem DiskOk.offT (h : DiskOk D m) : DiskOk { D with off := true } m :=
  ⟨h.room, h.made, h.nums, h.lasts, h.len, h.all, h.inj, h.has, h.small, h.dn, h.ln, h.wn, h.fn, h.fuseLo, h.fuseHi, h.nm⟩
theorem StepE.ok {pre : Int} {ok : DiskC → Prop} (h : DiskOk D m) (hs : StepE D e D' pre ok) (hok : ok D' → DiskOk D' (m + 2)) : DiskOk D' (m + 2) := by
  rcases hs with ⟨_, _, rfl⟩ | ⟨_, _, _, rfl⟩ | ⟨_, _, _, h'⟩
  · exact h.mono (by omega)
  · exact h.offT.mono (by omega)
  · exact hok h'
theorem turned_ok (h : DiskOk D m) (c : ChgC) (wa : Option Addr) (wc : Nat) (hsm : c.small) (hinj : InjD (c.app D.dir)) (hhas : ∀ x b, c.app D.dir x = some b → ∃ f ∈ D.files, f.b = b) (hnm : ∀ x b, c.app D.dir x = some b → nameB (sof x) = true) : DiskOk (turned D c wa wc) (m + 1) where
  room := h.room
  made := h.made
  nums := h.nums
  lasts := h.lasts
  len := h.len
  all := by show appAll D.last (D.waits ++ [c]) = c.app D.dir; rw [appAll_snoc, h.all]
  inj := fun n hn => by
    have hn : n ≤ (D.waits ++ [c]).length := hn
    show InjD (appAll D.last ((D.waits ++ [c]).take n))
    rcases Nat.lt_or_ge D.waits.length n with hlt | hle
    · rw [List.take_of_length_le (by simp; omega), appAll_snoc, h.all]
      exact hinj
    · rw [List.take_append_of_le_length hle]
      exact h.inj n hle
  has := fun n hn x b hb => by
    have hn : n ≤ (D.waits ++ [c]).length := hn
    have hb : appAll D.last ((D.waits ++ [c]).take n) x = some b := hb
    rcases Nat.lt_or_ge D.waits.length n with hlt | hle
    · rw [List.take_of_length_le (by simp; omega), appAll_snoc, h.all] at hb
      exact hhas x b hb
    · rw [List.take_append_of_le_length hle] at hb
      exact h.has n hle x b hb
  small := fun d hd => by
    rcases List.mem_append.1 (show d ∈ D.waits ++ [c] from hd) with h1 | h1
    · exact h.small d h1
    · rw [List.mem_singleton.1 h1]; exact hsm
  dn := Nat.succ_le_succ h.dn
  ln := Nat.le_succ_of_le h.ln
  wn := by show (D.waits ++ [c]).length ≤ m + 1; have := h.wn; simp; omega
  fn := Nat.le_succ_of_le h.fn
  fuseLo := by show -((m + 1 : Nat) : Int) ≤ D.fuse - 1; have := h.fuseLo; omega
  fuseHi := by show D.fuse - 1 ≤ 9223372036854775807; have := h.fuseHi; omega
  nm := fun n hn x b hb => by
    have hn : n ≤ (D.waits ++ [c]).length := hn
    have hb : appAll D.last ((D.waits ++ [c]).take n) x = some b := hb
    rcases Nat.lt_or_ge D.waits.length n with hlt | hle
    · rw [List.take_of_length_le (by simp; omega), appAll_snoc, h.all] at hb
      exact hnm x b hb
    · rw [List.take_append_of_le_length hle] at hb
      exact h.nm n hle x b hb
theorem grown_ok (h : DiskOk D m) (b : Nat) : DiskOk { D with made := D.made + 1, files := D.files ++ [⟨b, D.made + 1, none, 0, [], 0⟩] } (m + 1) where
  room := h.room
  made := by simp [h.made]
  nums := fun i hi => by
    have hi : i < (D.files ++ [(⟨b, D.made + 1, none, 0, [], 0⟩ : FileC)]).length := hi
    show ((D.files ++ [(⟨b, D.made + 1, none, 0, [], 0⟩ : FileC)])[i]'hi).num = i + 1
    rcases Nat.lt_or_ge i D.files.length with hlt | hge
    · rw [List.getElem_append_left hlt]
      exact h.nums i hlt
    · have : i = D.files.length := by simp at hi; omega
      subst this
      rw [List.getElem_append_right (Nat.le_refl _)]
      simp [h.made]
  lasts := fun f hf => by
    rcases List.mem_append.1 (show f ∈ D.files ++ [_] from hf) with h1 | h1
    · exact h.lasts f h1
    · rw [List.mem_singleton.1 h1]; simp
  len := fun f hf => by
    rcases List.mem_append.1 (show f ∈ D.files ++ [_] from hf) with h1 | h1
    · exact h.len f h1
    · rw [List.mem_singleton.1 h1]; simp
  all := h.all
  inj := h.inj
  has := fun n hn x b hb => by
    obtain ⟨f, hf, e⟩ := h.has n hn x b hb
    exact ⟨f, List.mem_append_left _ hf, e⟩
  small := h.small
  dn := Nat.le_succ_of_le h.dn
  ln := Nat.le_succ_of_le h.ln
  wn := Nat.le_succ_of_le h.wn
  fn := by show (D.files ++ [_]).length ≤ m + 1; have := h.fn; simp; omega
  fuseLo := by show -((m + 1 : Nat) : Int) ≤ D.fuse; have := h.fuseLo; omega
  fuseHi := h.fuseHi
  nm := h.nm
theorem filed_ok (h : DiskOk D m) {pre post : List FileC} {f g : FileC} (hf : D.files = pre ++ f :: post) (hb : g.b = f.b) (hn : g.num = f.num) (hl : g.lasts ≤ g.data.length) (hd : g.data.length ≤ 16777216) :
    DiskOk { D with fuse := D.fuse - 1, files := pre ++ g :: post } (m + 1) where
  room := h.room
  made := by have := h.made; rw [hf] at this; simpa using this
  nums := fun i hi => by
    have hi : i < (pre ++ g :: post).length := hi
    show ((pre ++ g :: post)[i]'hi).num = i + 1
    have hi' : i < D.files.length := by rw [hf]; simpa using hi
    have hq := h.nums i hi'
    have e1 : D.files[i]? = some D.files[i] := List.getElem?_eq_getElem hi'
    have e2 : (pre ++ g :: post)[i]? = some ((pre ++ g :: post)[i]'hi) := List.getElem?_eq_getElem hi
    generalize D.files[i] = u at hq e1
    rw [hf] at e1
    rcases Nat.lt_or_ge i pre.length with hlt | hge
    · rw [List.getElem?_append_left hlt] at e1 e2
      rw [e1] at e2
      injection e2 with e2
      rw [← e2]
      exact hq
    · rw [List.getElem?_append_right hge] at e1 e2
      cases hk : i - pre.length with
      | zero =>
        rw [hk] at e1 e2
        simp only [List.getElem?_cons_zero, Option.some.injEq] at e1 e2
        rw [← e2, hn, e1]
        exact hq
      | succ k =>
        rw [hk] at e1 e2
        simp only [List.getElem?_cons_succ] at e1 e2
        rw [e1] at e2
        injection e2 with e2
        rw [← e2]
        exact hq
  lasts := fun x hx => by
    rcases List.mem_append.1 (show x ∈ pre ++ g :: post from hx) with h1 | h1
    · exact h.lasts x (by rw [hf]; simp [h1])
    · rcases List.mem_cons.1 h1 with rfl | h1
      · exact hl
      · exact h.lasts x (by rw [hf]; simp [h1])
  len := fun x hx => by
    rcases List.mem_append.1 (show x ∈ pre ++ g :: post from hx) with h1 | h1
    · exact h.len x (by rw [hf]; simp [h1])
    · rcases List.mem_cons.1 h1 with rfl | h1
      · exact hd
      · exact h.len x (by rw [hf]; simp [h1])
  all := h.all
  inj := h.inj
  has := fun n hn x b hb' => by
    obtain ⟨y, hy, e⟩ := h.has n hn x b hb'
    show ∃ f ∈ pre ++ g :: post, f.b = b
    rw [hf] at hy
    rcases List.mem_append.1 hy with h1 | h1
    · exact ⟨y, by simp [h1], e⟩
    · rcases List.mem_cons.1 h1 with rfl | h1
      · exact ⟨g, by simp, hb.trans e⟩
      · exact ⟨y, by simp [h1], e⟩
  small := h.small
  dn := Nat.le_succ_of_le h.dn
  ln := Nat.le_succ_of_le h.ln
  wn := Nat.le_succ_of_le h.wn
  fn := by have := h.fn; rw [hf] at this; show (pre ++ g :: post).length ≤ m + 1; simp at this ⊢; omega
  fuseLo := by show -((m + 1 : Nat) : Int) ≤ D.fuse - 1; have := h.fuseLo; omega
  fuseHi := by show D.fuse - 1 ≤ 9223372036854775807; have := h.fuseHi; omega
  nm := h.nm
theorem CreateR.ok {s : ByteArray} (h : DiskOk D m) (hr : CreateR D s e D') (nd : NdF D'.files) : DiskOk D' (m + 2) := by
  by_cases hl : liveE D.off [s] = 0
  case neg => exact StepE.ok h hr (fun _ => by
    rcases hr with ⟨_, _, rfl⟩ | ⟨h0, _⟩ | ⟨h0, _⟩
    · exact h.mono (by omega)
    · exact absurd h0 hl
    · exact absurd h0 hl)
  refine StepE.ok h hr ?_
  rintro ⟨b1, b2, b, wa, wc, rfl⟩
  have hfresh : ∀ f ∈ D.files, f.b ≠ b := fun f hf => (List.pairwise_append.1 (show NdF (D.files ++ [⟨b, D.made + 1, none, 0, [], 0⟩]) from nd)).2.2 f hf _ (List.mem_singleton.2 rfl)
  have hno : ∀ y, D.dir y ≠ some b := fun y hy => by obtain ⟨f, hf, e⟩ := h.hasD hy; exact hfresh f hf e
  refine turned_ok (grown_ok h b) (.create b1 b2 s b) wa wc (nameB_size (live1 hl).2) ?_ ?_ ?_
  · intro x y c hx hy
    simp only [ChgC.app] at hx hy
    by_cases h1 : x = bl s <;> by_cases h2 : y = bl s <;> simp only [h1, h2, if_true, if_false] at hx hy
    · rw [h1, h2]
    · rw [← hx] at hy; exact absurd hy (hno y)
    · rw [← hy] at hx; exact absurd hx (hno x)
    · exact h.injD x y c hx hy
  · intro x c hx
    simp only [ChgC.app] at hx
    by_cases h1 : x = bl s
    · simp only [h1, if_true] at hx
      cases hx
      exact ⟨_, List.mem_append_right _ (List.mem_singleton.2 rfl), rfl⟩
    · simp only [h1, if_false] at hx
      obtain ⟨f, hf, e⟩ := h.hasD hx
      exact ⟨f, List.mem_append_left _ hf, e⟩
  · intro x c hx
    simp only [ChgC.app] at hx
    by_cases h1 : x = bl s
    · rw [h1, sof_bl]; exact (live1 hl).2
    · simp only [h1, if_false] at hx
      exact h.nmD hx
theorem RemoveR.ok {s : ByteArray} (h : DiskOk D m) (hr : RemoveR D s e D') : DiskOk D' (m + 2) := by
  by_cases hl : (namedE D s).2 = 0
  case neg => exact StepE.ok h hr (fun _ => by
    rcases hr with ⟨_, _, rfl⟩ | ⟨h0, _⟩ | ⟨h0, _⟩
    · exact h.mono (by omega)
    · exact absurd h0 hl
    · exact absurd h0 hl)
  refine StepE.ok h hr ?_
  rintro ⟨b1, wa, wc, rfl⟩
  refine (turned_ok h (.remove b1 s) wa wc (nameB_size (namedE_zero hl).1) ?_ ?_ ?_).mono (by omega)
  · intro x y c hx hy
    simp only [ChgC.app] at hx hy
    by_cases h1 : x = bl s <;> by_cases h2 : y = bl s <;> simp only [h1, h2, if_true, if_false] at hx hy
    all_goals first | cases hx | cases hy | skip
    exact h.injD x y c hx hy
  · intro x c hx
    simp only [ChgC.app] at hx
    by_cases h1 : x = bl s
    · simp [h1] at hx
    · simp only [h1, if_false] at hx
      exact h.hasD hx
  · intro x c hx
    simp only [ChgC.app] at hx
    by_cases h1 : x = bl s
    · simp [h1] at hx
    · simp only [h1, if_false] at hx
      exact h.nmD hx
theorem RenameR.ok {o s : ByteArray} (h : DiskOk D m) (hr : RenameR D o s e D') : DiskOk D' (m + 2) := by
  by_cases hl : renamePre D o s = 0
  case neg => exact StepE.ok h hr (fun _ => by
    rcases hr with ⟨_, _, rfl⟩ | ⟨h0, _⟩ | ⟨h0, _⟩
    · exact h.mono (by omega)
    · exact absurd h0 hl
    · exact absurd h0 hl)
  have hlive : liveE D.off [o, s] = 0 := by
    unfold renamePre at hl
    split at hl
    · next h1 => exact absurd hl h1
    · next h1 => simpa using h1
  obtain ⟨_, n1, n2⟩ := live2 hlive
  refine StepE.ok h hr ?_
  rintro ⟨b1, b2, b3, f, wa, wc, hf, rfl⟩
  refine (turned_ok h (.rename b1 b2 b3 o s f) wa wc ⟨nameB_size n1, nameB_size n2⟩ ?_ ?_ ?_).mono (by omega)
  · intro x y c hx hy
    simp only [ChgC.app] at hx hy
    by_cases h1 : x = bl s
    · by_cases h2 : y = bl s
      · rw [h1, h2]
      · rw [if_pos h1] at hx
        rw [if_neg h2] at hy
        by_cases h3 : y = bl o
        · rw [if_pos h3] at hy; cases hy
        · rw [if_neg h3] at hy
          injection hx with hx
          subst hx
          exact absurd (h.injD y (bl o) _ hy hf) h3
    · rw [if_neg h1] at hx
      by_cases h3 : x = bl o
      · rw [if_pos h3] at hx; cases hx
      · rw [if_neg h3] at hx
        by_cases h2 : y = bl s
        · rw [if_pos h2] at hy
          injection hy with hy
          subst hy
          exact absurd (h.injD x (bl o) _ hx hf) h3
        · rw [if_neg h2] at hy
          by_cases h4 : y = bl o
          · rw [if_pos h4] at hy; cases hy
          · rw [if_neg h4] at hy
            exact h.injD x y c hx hy
  · intro x c hx
    simp only [ChgC.app] at hx
    by_cases h1 : x = bl s
    · rw [if_pos h1] at hx
      injection hx with hx
      subst hx
      exact h.hasD hf
    · rw [if_neg h1] at hx
      by_cases h3 : x = bl o
      · rw [if_pos h3] at hx; cases hx
      · rw [if_neg h3] at hx
        exact h.hasD hx
  · intro x c hx
    simp only [ChgC.app] at hx
    by_cases h1 : x = bl s
    · rw [h1, sof_bl]; exact n2
    · rw [if_neg h1] at hx
      by_cases h3 : x = bl o
      · rw [if_pos h3] at hx; cases hx
      · rw [if_neg h3] at hx
        exact h.nmD hx
theorem AppendR.ok {s data : ByteArray} (h : DiskOk D m) (nd : NdF D.files) (hr : AppendR D s data e D') : DiskOk D' (m + 2) := by
  by_cases hl : appendPre D s data = 0
  case neg => exact StepE.ok h hr (fun _ => by
    rcases hr with ⟨_, _, rfl⟩ | ⟨h0, _⟩ | ⟨h0, _⟩
    · exact h.mono (by omega)
    · exact absurd h0 hl
    · exact absurd h0 hl)
  refine StepE.ok h hr ?_
  rintro ⟨pre, f, post, da, dc, hf, hd, rfl⟩
  have hm : f ∈ D.files := by rw [hf]; simp
  have hle : (data.size : Int) ≤ leftD D := by
    unfold appendPre at hl
    split at hl
    · next h1 => exact absurd hl h1
    · split at hl
      · exact absurd hl (by decide)
      · omega
  refine (filed_ok h (g := { f with data := f.data ++ bl data, da := da, dc := dc }) hf rfl rfl ?_ ?_).mono (by omega)
  · have := h.lasts f hm
    simp only [List.length_append]
    omega
  · simp only [List.length_append, bl_length]
    have hlen := h.len f hm
    by_cases hx : ∃ ks, Dom D.dir ks
    · obtain ⟨ks, hks⟩ := hx
      rw [leftD_eq hks] at hle
      have hmem : bl s ∈ ks := (hks.mem _).2 (by rw [hd]; rfl)
      have := sumD_mem D hmem
      rw [dataD_of hd (fileD_of nd hf)] at this
      have := h.room
      omega
    · rw [leftD, dif_neg hx] at hle
      omega
theorem SyncR.ok {s : ByteArray} (h : DiskOk D m) (hr : SyncR D s e D') : DiskOk D' (m + 2) := by
  refine StepE.ok h hr ?_
  rintro ⟨pre, f, post, hf, hd, rfl⟩
  exact (filed_ok h (g := { f with lasts := f.data.length }) hf rfl rfl (Nat.le_refl _) (h.len f (by rw [hf]; simp))).mono (by omega)
def dired (D : DiskC) (lb : Nat) : DiskC := { D with fuse := D.fuse - 1, lb := lb, ln := D.dn, last := D.dir, waits := [], wa := none, wc := 0 }
def DirR (D : DiskC) (e : Int) (D' : DiskC) : Prop := StepE D e D' (liveE D.off []) fun D' => ∃ lb, D' = dired D lb
theorem DirR.ok (h : DiskOk D m) (hr : DirR D e D') : DiskOk D' (m + 2) := by
  refine StepE.ok h hr ?_
  rintro ⟨lb, rfl⟩
  exact {
    room := h.room
    made := h.made
    nums := h.nums
    lasts := h.lasts
    len := h.len
    all := rfl
    inj := fun n _ => by show InjD (appAll D.dir (([] : List ChgC).take n)); rw [List.take_nil]; exact h.injD
    has := fun n _ x b hb => by
      have hb : appAll D.dir (([] : List ChgC).take n) x = some b := hb
      rw [List.take_nil] at hb
      exact h.hasD hb
    small := fun c hc => absurd hc (by simp [dired])
    dn := Nat.le_trans h.dn (by omega)
    ln := Nat.le_trans h.dn (by omega)
    wn := Nat.zero_le _
    fn := Nat.le_trans h.fn (by omega)
    fuseLo := by show -((m + 2 : Nat) : Int) ≤ D.fuse - 1; have := h.fuseLo; omega
    fuseHi := by show D.fuse - 1 ≤ 9223372036854775807; have := h.fuseHi; omega
    nm := fun n _ x b hb => by
      have hb : appAll D.dir (([] : List ChgC).take n) x = some b := hb
      rw [List.take_nil] at hb
      exact h.nmD hb }
theorem fused_ok (h : DiskOk D m) {n : Int} (h0 : 0 ≤ n) (h1 : n ≤ 9223372036854775807) : DiskOk { D with fused := true, fuse := n } m :=
  ⟨h.room, h.made, h.nums, h.lasts, h.len, h.all, h.inj, h.has, h.small, h.dn, h.ln, h.wn, h.fn, by show -(m : Int) ≤ n; omega, h1, h.nm⟩
end
end Go.Proofs.YtfgbfodohmeamaaGreatDoor
namespace Go.Proofs
set_option maxRecDepth 100000
open Go.Shelf
def Tryz.clone46_ren : Go.Shelf.Ren := ⟨fun | 5 => 46 | 7 => 88 | n => n, fun | 23 => 101 | 25 => 9 | 3 => 106 | 4 => 4 | 20 => 20 | n => n, fun | n => n⟩
theorem Tryz.clone46 : Go.Proofs.SlLaysW.n5 Tryz.prog Tryz.clone46_ren := {
  mixed := by kernel_rfl
  f5 := ⟨Tryz.f46.name, by decide, Tryz.func46.trans (congrArg some (by kernel_rfl))⟩
  f7 := Tryz.func88.trans (congrArg some (by kernel_rfl))
  t4 := Tryz.underlying4
  a4 := Tryz.isAgg4
  z4 := Tryz.sizeOf4
  v4 := Tryz.zeroValue4
  t20 := Tryz.underlying20
  a20 := Tryz.isAgg20
  z20 := Tryz.sizeOf20
  v20 := Tryz.zeroValue20
  t23 := Tryz.underlying101
  a23 := Tryz.isAgg101
  z23 := Tryz.sizeOf101
  v23 := Tryz.zeroValue101 }
end Go.Proofs
namespace Go.Proofs.YtfgbfodohmeamaaGreatDoor
set_option maxRecDepth 100000
open Go.Dn Go.Proofs
open Go.RowKit (Below)
set_option linter.unusedVariables false
section
variable {w0 w : World} {D : DiskC} {E H : List It} {m : Nat}
theorem clone_ok (S : ST w0 w H) (i : Nat) {b n : Nat} {g : DirA} (hi : H[i]? = some (dirI b n g)) : Calls Tryz.prog f.maps_Clone_disk_names_string_disk_file #[.map (some b)] w (Ret fun v w' => ∃ b', v = .map (some b') ∧ ST w0 w' (dirI b' n g :: H)) := by
  have hM : MapP Tryz.prog ty.string w b n g := S.get i hi
  obtain ⟨es, clock, hb, hM'⟩ := hM.copy
  refine (AnyW.maps_Clone Tryz.clone46 b es clock w hb).mono ?_
  rintro _ w1 ⟨rfl, rfl⟩
  exact ⟨_, rfl, _, rfl, S.add ((Below.refl _ w).alloc (Nat.le_refl _) _) (dirI w.heap.size n g) hM' (fun k hk => by cases hk; exact Nat.le_refl _)⟩
theorem dir_ok (S : ST w0 w (dkE D E)) (hD : DiskOk D m) (hm : m + 1 < 1000000) : Calls Tryz.prog f.disk_Disk_Dir #[ptrV D.b] w (Ret fun v w' => ∃ e D', v = .int .i64 e ∧ ST w0 w' (dkE D' E) ∧ DirR D e D') := by
  apply R.disk_Disk_Dir_calls
  unfold R.disk_Disk_Dir
  have hc5 : w.cell? ⟨D.b, 5, none⟩ = some (.bool D.off) := S.cell 0 rfl rfl
  refine (live_ok (a := none) (c := 0) hc5 [] (Rd.nil w none) (by simp) (by simp)).mono ?_
  rintro _ w1 ⟨_, rfl, rfl, B1⟩
  have S1 := S.grown B1
  refine ⟨_, rfl, IFB_ne (fun h => ⟨_, D, rfl, S1, .inl ⟨h, rfl, rfl⟩⟩) (fun h => ?_)⟩
  refine (change_ok S1 (by have := hD.fuseLo; omega) hD.fuseHi).mono ?_
  rintro _ w3 ⟨_, rfl, ⟨hf, h0, rfl, S3⟩ | ⟨hno, rfl, S3⟩⟩
  · exact ⟨_, rfl, IFB_eq (fun h => absurd h (by decide)) (fun _ => ⟨_, _, rfl, S3, .inr (.inl ⟨h, ⟨hf, h0⟩, rfl, rfl⟩)⟩)⟩
  refine ⟨_, rfl, IFB_eq (fun _ => ?_) (fun h => absurd rfl h)⟩
  refine ⟨_, S3.cell 0 rfl rfl, (clone_ok S3 1 rfl).mono ?_⟩
  rintro _ w4 ⟨_, rfl, lb, rfl, S4⟩
  refine ⟨_, rfl, ?_⟩
  show STO ⟨D.b, 3, none⟩ (.map (some lb)) (fun w5 => STO ⟨D.b, 4, none⟩ (.slice none 0 0) (fun w6 => ∃ e D', Value.int .i64 0 = .int .i64 e ∧ ST w0 w6 (dkE D' E) ∧ DirR D e D') w5) w4
  refine S4.sto 1 rfl (cs' := DiskC.cells { D with fuse := D.fuse - 1, lb := lb }) (c8 (D := D) (n := 3) (by decide)) rfl fun w5 S5 => ?_
  refine S5.sto 1 rfl (cs' := DiskC.cells (dired D lb)) (c8 (D := D) (n := 4) (by decide)) rfl fun w6 S6 => ?_
  have S7 : ST w0 w6 (It.row tyFn 1 none 0 0 [] :: dirI lb D.dn D.dir :: It.cells D.b (dired D lb).cells ty.disk_Disk :: dirI D.db D.dn D.dir :: dirI D.lb D.ln D.last :: It.row tyFn 1 D.wa D.waits.length D.wc (D.waits.map ChgC.val) :: (D.waits.flatMap ChgC.its ++ (D.files.flatMap FileC.its ++ E))) := S6.nil tyFn 1
  have S8 : ST w0 w6 (It.row tyFn 1 none 0 0 [] :: dirI lb D.dn D.dir :: It.cells D.b (dired D lb).cells ty.disk_Disk :: dirI D.db D.dn D.dir :: (D.files.flatMap FileC.its ++ E)) :=
    S7.sub (((((List.Sublist.cons _ (List.Sublist.cons _ (List.sublist_append_right _ _))).cons_cons _).cons_cons _).cons_cons _).cons_cons _)
  have S9 := ((S8.pull 1 rfl).pull 3 rfl).pull 3 rfl
  have S10 : ST w0 w6 (dkE (dired D lb) E) := S9
  exact ⟨_, _, rfl, S10, .inr (.inr ⟨h, fun hb => hno hb, rfl, lb, rfl⟩)⟩
end
theorem st_recast {w0 w : World} {H : List It} (S : Go.Dn.ST w0 w H) (i : Nat) {x : It} (hi : H[i]? = some x) (y : It) (hy : y.ok w) (hb : ∀ k, y.blk = some k → x.blk = some k) : Go.Dn.ST w0 w (H.set i y) :=
  S.chg i hi (.refl _ _) y hy (fun k hk => .inl (hb k hk))
theorem tFiles : slT Tryz.prog ty.L_P_disk_file = some (ty.P_disk_file, 1, 8, .pointer none) := by kernel_rfl
section
variable {w0 w : World} {E H : List It}
theorem appendSeq_ok (S : ST w0 w H) (i j : Nat) {lb cb n : Nat} {L : DirA} (hi : H[i]? = some (dirI lb n L)) (hj : H[j]? = some (It.cells cb #[.map (some lb)] ty.disk_names)) (hn : n ≤ 1000000) :
    Calls Tryz.prog f.slices_AppendSeq_disk_file_disk_file #[.slice none 0 0, .func (.func f.maps_Values_disk_names_string_disk_file__c1) #[] #[ptrV cb]] w (Ret fun v w' => ∃ (a : Option Addr) (c : Nat) (ks : List (List UInt8)) (xs : List Nat), v = .slice a xs.length c ∧ Dom L ks ∧ ks.length ≤ n ∧ ks.map L = xs.map some ∧ ST w0 w' (It.row ty.P_disk_file 1 a xs.length c (xs.map ptrV) :: H)) := by
  apply R.slices_AppendSeq_disk_file_disk_file_calls
  unfold R.slices_AppendSeq_disk_file_disk_file
  refine S.newB fun b3 w1 _ _ S1 => ⟨by kernel_rfl, fun rr h1 h2 hyp => ?_⟩
  have S2 := S1.range rr
  refine (R.maps_Values_disk_names_string_disk_file__c1_calls (w1.heap.size + 1) cb (fun _ w7 => ENDL rr (w1.heap.size + 1) (fun j w8 => j = none ∧ ∃ (t : Option Addr) (tl tc : Nat), w8.cell? ⟨b3, 0, none⟩ = some (.slice t tl tc) ∧ w8.heap[w1.heap.size]? = some (.deferred (some [])) ∧
    (∃ (a : Option Addr) (c : Nat) (ks : List (List UInt8)) (xs : List Nat), Value.slice t tl tc = .slice a xs.length c ∧ Dom L ks ∧ ks.length ≤ n ∧ ks.map L = xs.map some ∧ ST w0 (w8.putObj w1.heap.size (.deferred none)) (It.row ty.P_disk_file 1 a xs.length c (xs.map ptrV) :: H))) w7) _ ?_).mono ?_
  case refine_2 =>
    rintro _ w7 ⟨v, rfl, h⟩
    exact ⟨⟨v, rfl⟩, h⟩
  unfold R.maps_Values_disk_names_string_disk_file__c1
  have S3 := S2.nil ty.P_disk_file 1
  have hi' : (It.row ty.P_disk_file 1 none 0 0 [] :: It.obj (w1.heap.size + 1) (.loop rr) :: It.obj w1.heap.size (.deferred (some [])) :: It.cells b3 #[.slice none 0 0] ty.L_P_disk_file :: H)[i + 4]? = some (dirI lb n L) := hi
  refine ⟨_, S3.cell (j + 4) hj rfl, S3.mrange (i + 4) hi' und_str und_names fun r w2 ks hR hmem hnd hlen S4 => ⟨_, rfl, ?_⟩⟩
  refine ⟨fun st w3 => ∃ (ls ds : List (List UInt8)) (xs : List Nat) (a : Option Addr) (c : Nat), RanP Tryz.prog ty.string w3 lb r n L ls ∧ (ds ++ ls).Perm ks ∧ ds.map L = xs.map some ∧ st = [] ∧
    ST w0 w3 (It.own r :: It.row ty.P_disk_file 1 a xs.length c (xs.map ptrV) :: It.obj (w1.heap.size + 1) (.loop rr) :: It.obj w1.heap.size (.deferred (some [])) :: It.cells b3 #[.slice a xs.length c] ty.L_P_disk_file :: H), fun _ w3 => w3.rangeLeft lb r,
    ⟨ks, [], [], none, 0, hR, .refl _, rfl, rfl, S4⟩, ?_⟩
  rintro w3 ⟨ls, ds, xs, a, c, hR3, hp, hds, _, S5⟩
  have hlx : xs.length ≤ n := by
    have h1 := congrArg List.length hds
    have h2 := hp.length_eq
    simp at h1 h2
    omega
  refine hR3.round und_str _ (fun h0 => ?_) fun x b w4 hx hb hxl K hR4 hlt hent => ?_
  · subst h0
    rw [List.append_nil] at hp
    refine S5.endl0 2 h1 h2 rfl fun w8 S8 => ⟨rfl, _, _, _, S8.cell 4 rfl rfl, S8.get 3 rfl, a, c, ds, xs, rfl, ⟨hp.nodup_iff.2 hnd, fun x => hp.mem_iff.trans (hmem x)⟩, by rw [hp.length_eq]; exact hlen, hds, ?_⟩
    have S9 := S8.put 3 rfl (.deferred none)
    exact (S9.drop 1).keep 3
  · have S6 := S5.ranged K hR4.lt.1
    unfold OPR
    rw [hent]
    refine ⟨_, _, rfl, ?_⟩
    -- the map and the range as they lie
    have hrs := hR4.lt.1
    have hls := hR4.map.lt
    have or : w4.heap[r]? = some w4.heap[r] := Array.getElem?_eq_getElem hrs
    have ol : w4.heap[lb]? = some w4.heap[lb] := Array.getElem?_eq_getElem hls
    have hi6 : (It.own r :: It.row ty.P_disk_file 1 a xs.length c (xs.map ptrV) :: It.obj (w1.heap.size + 1) (.loop rr) :: It.obj w1.heap.size (.deferred (some [])) :: It.cells b3 #[.slice a xs.length c] ty.L_P_disk_file :: H)[i + 5]? = some (dirI lb n L) := hi
    have S7 := S6.freeze (i + 5) hi6 rfl ol
    have S8 := S7.freeze 0 rfl rfl or
    have S8 : ST w0 w4 (It.obj r w4.heap[r] :: It.row ty.P_disk_file 1 a xs.length c (xs.map ptrV) :: It.obj (w1.heap.size + 1) (.loop rr) :: It.obj w1.heap.size (.deferred (some [])) :: It.cells b3 #[.slice a xs.length c] ty.L_P_disk_file :: H.set i (It.obj lb w4.heap[lb])) := S8
    refine hyp (some ⟨b, 0, none⟩) _ w4 (S8.get 2 rfl) ?_
    refine S8.begr 2 rfl fun w5 S9 => ⟨_, _, _, S9.cell 4 rfl rfl, S9.newB fun b7 w6 _ _ S10 => ?_⟩
    have hs : Rd w6 (some ⟨b7, 0, none⟩) ([b].map ptrV) := S10.rdc 0 rfl
    refine S10.app 2 rfl tFiles rfl (by omega) (by omega) hs (mm := 1) rfl (by simp; rfl) (by show (xs.length + 1) * 8 ≤ 140737488355328; omega) fun a' c' w7 S11 => ⟨_, _, _, rfl, ?_⟩
    refine S11.sto 5 rfl (cs' := #[.slice a' (xs.length + 1) c']) (by simp) rfl fun w8 S12 => ?_
    refine S12.endr0 3 h1 h2 rfl fun w9 S13 => ?_
    have S14 : ST w0 w9 (It.obj r w4.heap[r] :: It.row ty.P_disk_file 1 a' (xs.length + 1) c' (xs.map ptrV ++ [b].map ptrV) :: It.obj (w1.heap.size + 1) (.loop rr) :: It.obj w1.heap.size (.deferred (some [])) :: It.cells b3 #[.slice a' (xs.length + 1) c'] ty.L_P_disk_file :: H.set i (It.obj lb w4.heap[lb])) := S13.drop 1
    have hset : (H.set i (It.obj lb w4.heap[lb]))[i]? = some (It.obj lb w4.heap[lb]) := List.getElem?_set_self (List.getElem?_eq_some_iff.1 hi).1
    have er : w9.heap[r]? = w4.heap[r]? := (S14.get 0 rfl).trans or.symm
    have el : w9.heap[lb]? = w4.heap[lb]? := (S14.get (i + 5) hset).trans ol.symm
    have hR9 := hR4.same el er
    have S15 := st_recast S14 (i + 5) hset (dirI lb n L) hR9.map (fun k hk => hk)
    have S16 := st_recast S15 0 rfl (It.own r) hR9.lt.1 (fun k hk => hk)
    have S17 : ST w0 w9 (It.own r :: It.row ty.P_disk_file 1 a' (xs.length + 1) c' (xs.map ptrV ++ [b].map ptrV) :: It.obj (w1.heap.size + 1) (.loop rr) :: It.obj w1.heap.size (.deferred (some [])) :: It.cells b3 #[.slice a' (xs.length + 1) c'] ty.L_P_disk_file :: (H.set i (It.obj lb w4.heap[lb])).set i (dirI lb n L)) := S16
    rw [List.set_set, WideElems.set_self H i _ hi, ← List.map_append] at S17
    have e2 : (xs ++ [b]).length = xs.length + 1 := by simp
    rw [← e2] at S17
    refine ⟨⟨ls.erase x, ds ++ [x], xs ++ [b], a', c', hR9, ?_, ?_, rfl, S17⟩, ?_⟩
    · rw [List.append_assoc]
      exact (List.Perm.append_left ds (List.perm_cons_erase hx).symm).trans hp
    · rw [List.map_append, List.map_append, hds, List.map_singleton, List.map_singleton, hb]
    · show w9.rangeLeft lb r < w3.rangeLeft lb r
      rw [rangeLeft_same el er]
      exact hlt
theorem collect_ok (S : ST w0 w H) (i j : Nat) {lb cb n : Nat} {L : DirA} (hi : H[i]? = some (dirI lb n L)) (hj : H[j]? = some (It.cells cb #[.map (some lb)] ty.disk_names)) (hn : n ≤ 1000000) :
    Calls Tryz.prog f.slices_Collect_disk_file #[.func (.func f.maps_Values_disk_names_string_disk_file__c1) #[] #[ptrV cb]] w (Ret fun v w' => ∃ (a : Option Addr) (c : Nat) (ks : List (List UInt8)) (xs : List Nat), v = .slice a xs.length c ∧ Dom L ks ∧ ks.length ≤ n ∧ ks.map L = xs.map some ∧ ST w0 w' (It.row ty.P_disk_file 1 a xs.length c (xs.map ptrV) :: H)) := by
  apply R.slices_Collect_disk_file_calls
  unfold R.slices_Collect_disk_file
  refine (appendSeq_ok S i j hi hj hn).mono ?_
  rintro _ w1 ⟨_, rfl, a, c, ks, xs, rfl, h1, h2, h3, S1⟩
  exact ⟨_, _, _, rfl, a, c, ks, xs, rfl, h1, h2, h3, S1⟩
theorem values_ok (S : ST w0 w H) (lb : Nat) : Calls Tryz.prog f.maps_Values_disk_names_string_disk_file #[.map (some lb)] w (Ret fun v w' => ∃ cb, v = .func (.func f.maps_Values_disk_names_string_disk_file__c1) #[] #[ptrV cb] ∧ ST w0 w' (It.cells cb #[.map (some lb)] ty.disk_names :: H)) := by
  apply R.maps_Values_disk_names_string_disk_file_calls
  unfold R.maps_Values_disk_names_string_disk_file
  exact S.newB fun b w1 _ _ S1 => ⟨b, rfl, S1⟩
end
theorem pFile : Tryz.prog.underlying ty.P_disk_file = some (.pointer ty.disk_file) := by kernel_rfl
theorem infoFile : ∃ j, Tryz.prog.info? ty.disk_file = some j ∧ j.size ≠ 0 := by
  have h : (Tryz.prog.info? ty.disk_file).any (fun j => j.size != 0) = true := by kernel_rfl
  cases hi : Tryz.prog.info? ty.disk_file with
  | none => rw [hi] at h; cases h
  | some j => rw [hi] at h; exact ⟨j, rfl, by simpa using h⟩
theorem ptrOk_grown {w w' : World} {a : Nat} (h : PtrOk w a) (B : Below w.heap.size w w') : PtrOk w' a := by
  obtain ⟨cs, t, h⟩ := h
  exact ⟨cs, t, (B.block a (Array.getElem?_eq_some_iff.1 h).1).trans h⟩
theorem rdP_at {w : World} {a : Option Addr} {xs : List Nat} (h : Rd w a (xs.map ptrV)) {i : Nat} (hi : i < xs.length) : ∃ p, a = some p ∧ w.cell? (p.add (i * 1)) = some (ptrV xs[i]) := by
  obtain ⟨p, hp, hc⟩ := h i (ptrV xs[i]) (by simp [hi])
  exact ⟨p, hp, by rw [Nat.mul_one]; exact hc⟩
theorem compact_ok {w : World} {a : Option Addr} {c : Nat} (xs : List Nat) (hr : Rd w a (xs.map ptrV)) (hp : ∀ b ∈ xs, PtrOk w b) (hnd : xs.Nodup) (hn : xs.length ≤ 1000000) :
    Calls Tryz.prog f.slices_Compact_disk_file_disk_file #[.slice a xs.length c] w (Ret fun v w' => v = .slice a xs.length c ∧ Below w.heap.size w w') := by
  apply R.slices_Compact_disk_file_disk_file_calls
  unfold R.slices_Compact_disk_file_disk_file
  refine IFB_dec (fun _ => ⟨rfl, .refl _ _⟩) (fun h2 => ?_)
  refine ⟨fun st w1 => ∃ i : Nat, st = [.int .i64 (i : Int)] ∧ 1 ≤ i ∧ i ≤ xs.length ∧ Below w.heap.size w w1, fun st _ => match st with
    | [.int _ i] => xs.length - i.toNat
    | _ => 0, ⟨1, rfl, by omega, by omega, .refl _ _⟩, ?_⟩
  rintro _ w1 ⟨i, hst, h1, hi, B1⟩
  cases hst
  refine IFB_dec (fun hlt => ?_) (fun _ => ⟨rfl, B1⟩)
  have hil : i < xs.length := by omega
  have B2 : Below w.heap.size w w1.drew := B1.drew
  have ew : IntKind.i64.wrap ((i : Int) - 1) = ((i - 1 : Nat) : Int) := by rw [wrap_i64 (by omega) (by omega)]; omega
  obtain ⟨p, rfl, hp1⟩ := rdP_at (hr.grown B2) hil
  obtain ⟨p', hp', hp2⟩ := rdP_at (hr.grown B2) (show i - 1 < xs.length by omega)
  cases hp'
  show (0 ≤ (i : Int) ∧ (i : Int) < (xs.length : Int)) ∧ _
  refine ⟨⟨by omega, hlt⟩, ?_⟩
  rw [ew]
  refine ⟨⟨by omega, by omega⟩, _, by rw [Int.toNat_natCast]; exact hp1, _, by rw [Int.toNat_natCast]; exact hp2, ?_⟩
  obtain ⟨jf, hj1, hj2⟩ := infoFile
  have hne : xs[i] ≠ xs[i - 1] := fun e => (List.pairwise_iff_getElem.1 hnd) (i - 1) i (by omega) hil (by omega) e.symm
  unfold OPR
  rw [run_eql_ptr pFile hj1 hj2 (ptrOk_grown (hp xs[i] (List.getElem_mem _)) B2) (ptrOk_grown (hp xs[i - 1] (List.getElem_mem _)) B2)]
  refine ⟨_, rfl, ?_⟩
  rw [decide_eq_false hne]
  refine IFB_false ?_
  rw [wrap_succ (by omega)]
  exact ⟨⟨i + 1, rfl, by omega, by omega, B2⟩, by show xs.length - ((i + 1 : Nat) : Int).toNat < xs.length - ((i : Nat) : Int).toNat; simp only [Int.toNat_natCast]; omega⟩
section
variable {w0 w : World} {D : DiskC} {E H : List It} {m : Nat}
theorem row_empty {b : Nat} {t : TypeId} {sz : Nat} (h : w.heap[b]? = some (.cells #[] t (0, 0))) : Row w t sz (some ⟨b, 0, none⟩) 0 0 [] :=
  ⟨by simp, .inr ⟨b, #[], rfl, h, by omega, by omega, by simp, by simp⟩⟩
theorem cloneB_ok (S : ST w0 w H) {a : Option Addr} {c : Nat} {l : List UInt8} (h : Rd w a (l.map byteV)) (hl : l.length ≤ 100000000) : Calls Tryz.prog f.slices_Clone_byte_byte #[.slice a l.length c] w (Ret fun v w' => ∃ a' c', v = .slice a' l.length c' ∧ ST w0 w' (bytesI a' c' l :: H)) := by
  apply R.slices_Clone_byte_byte_calls
  unfold R.slices_Clone_byte_byte
  cases a with
  | none =>
    have : l = [] := by
      cases l with
      | nil => rfl
      | cons x l =>
        obtain ⟨p, hp, _⟩ := h 0 (byteV x) (by simp)
        cases hp
    subst this
    exact IFB_true ⟨none, 0, rfl, S.nil _ _⟩
  | some q =>
    refine IFB_false (S.newB fun b2 w1 _ B1 S => ?_)
    have S := S.chg 0 rfl (.refl _ _) (It.row ty.uint8 1 (some ⟨b2, 0, none⟩) 0 0 []) (row_empty (S.blk 0 rfl)) (fun k hk => .inl hk)
    refine S.app 0 rfl tB zB (by omega) (by omega) (h.grown B1) (mm := l.length) (by simp) (bytes_one _) (by omega) fun a' c' w' S => ⟨_, _, _, rfl, a', c', by rw [Nat.zero_add], ?_⟩
    simp only [Nat.zero_add, List.nil_append] at S
    exact S
theorem cmp_ok {a b : Nat} {n k : Int} (ha : w.cell? ⟨a, 0, none⟩ = some (.int .i64 n)) (hb : w.cell? ⟨b, 0, none⟩ = some (.int .i64 k)) (h1 : 0 ≤ n ∧ n ≤ 1000000) (h2 : 0 ≤ k ∧ k ≤ 1000000) :
    Calls Tryz.prog f.disk_Disk_Crash_c1 #[ptrV a, ptrV b] w (Ret fun v w' => v = .int .i64 (n - k) ∧ w' = w.drew) := by
  apply R.disk_Disk_Crash_c1_calls
  unfold R.disk_Disk_Crash_c1
  have ew : IntKind.i64.wrap (n - k) = n - k := wrap_i64 (by omega) (by omega)
  refine ⟨_, ha, _, hb, ?_⟩
  rw [ew]
  exact ⟨rfl, rfl⟩
end
end Go.Proofs.YtfgbfodohmeamaaGreatDoor
namespace Go.Proofs
set_option maxRecDepth 100000
open Go.Shelf
def Tryz.sort90_ren : Go.Shelf.Ren := ⟨fun | 6 => 90 | 15 => 119 | 14 => 118 | 28 => 147 | 29 => 148 | 20 => 139 | 21 => 140 | 22 => 141 | 23 => 142 | 24 => 143 | 25 => 144 | 26 => 145 | 27 => 146 | 46 => 164 | 47 => 165 | 48 => 166 | 49 => 167 | 50 => 168 | 57 => 176 | n => n, fun | 22 => 108 | 24 => 106 | 25 => 116 | 3 => 3 | 39 => 179 | 0 => 0 | 53 => 159 | 55 => 164 | 4 => 4 | 46 => 200 | 45 => 199 | 50 => 204 | 5 => 5 | 9 => 9 | 66 => 222 | 70 => 226 | 76 => 231 | 77 => 232 | n => n, fun | n => n⟩
theorem Tryz.sort90 : Go.Proofs.SlLaysF.n6 Tryz.prog Tryz.sort90_ren := {
  mixed := by kernel_rfl
  f6 := ⟨Tryz.f90.name, by decide, Tryz.func90.trans (congrArg some (by kernel_rfl))⟩
  f14 := ⟨Tryz.f118.name, by decide, Tryz.func118.trans (congrArg some (by kernel_rfl))⟩
  f15 := Tryz.func119.trans (congrArg some (by kernel_rfl))
  f20 := ⟨Tryz.f139.name, by decide, Tryz.func139.trans (congrArg some (by kernel_rfl))⟩
  f21 := ⟨Tryz.f140.name, by decide, Tryz.func140.trans (congrArg some (by kernel_rfl))⟩
  f22 := ⟨Tryz.f141.name, by decide, Tryz.func141.trans (congrArg some (by kernel_rfl))⟩
  f23 := ⟨Tryz.f142.name, by decide, Tryz.func142.trans (congrArg some (by kernel_rfl))⟩
  f24 := ⟨Tryz.f143.name, by decide, Tryz.func143.trans (congrArg some (by kernel_rfl))⟩
  f25 := ⟨Tryz.f144.name, by decide, Tryz.func144.trans (congrArg some (by kernel_rfl))⟩
  f26 := ⟨Tryz.f145.name, by decide, Tryz.func145.trans (congrArg some (by kernel_rfl))⟩
  f27 := ⟨Tryz.f146.name, by decide, Tryz.func146.trans (congrArg some (by kernel_rfl))⟩
  f28 := Tryz.func147.trans (congrArg some (by kernel_rfl))
  f29 := Tryz.func148.trans (congrArg some (by kernel_rfl))
  f46 := ⟨Tryz.f164.name, by decide, Tryz.func164.trans (congrArg some (by kernel_rfl))⟩
  f47 := Tryz.func165.trans (congrArg some (by kernel_rfl))
  f48 := Tryz.func166.trans (congrArg some (by kernel_rfl))
  f49 := ⟨Tryz.f167.name, by decide, Tryz.func167.trans (congrArg some (by kernel_rfl))⟩
  f50 := ⟨Tryz.f168.name, by decide, Tryz.func168.trans (congrArg some (by kernel_rfl))⟩
  f57 := ⟨Tryz.f176.name, by decide, Tryz.func176.trans (congrArg some (by kernel_rfl))⟩
  t0 := Tryz.underlying0
  a0 := Tryz.isAgg0
  z0 := Tryz.sizeOf0
  v0 := Tryz.zeroValue0
  t3 := Tryz.underlying3
  a3 := Tryz.isAgg3
  z3 := Tryz.sizeOf3
  v3 := Tryz.zeroValue3
  t4 := Tryz.underlying4
  a4 := Tryz.isAgg4
  z4 := Tryz.sizeOf4
  v4 := Tryz.zeroValue4
  t5 := Tryz.underlying5
  a5 := Tryz.isAgg5
  z5 := Tryz.sizeOf5
  v5 := Tryz.zeroValue5
  t9 := Tryz.underlying9
  a9 := Tryz.isAgg9
  z9 := Tryz.sizeOf9
  v9 := Tryz.zeroValue9
  t22 := Tryz.underlying108
  a22 := Tryz.isAgg108
  z22 := Tryz.sizeOf108
  v22 := Tryz.zeroValue108
  a24 := Tryz.isAgg106
  z24 := Tryz.sizeOf106
  t25 := Tryz.underlying116
  a25 := Tryz.isAgg116
  z25 := Tryz.sizeOf116
  v25 := Tryz.zeroValue116
  t39 := Tryz.underlying179
  a39 := Tryz.isAgg179
  z39 := Tryz.sizeOf179
  v39 := Tryz.zeroValue179
  t45 := Tryz.underlying199
  a45 := Tryz.isAgg199
  z45 := Tryz.sizeOf199
  v45 := Tryz.zeroValue199
  t46 := Tryz.underlying200
  a46 := Tryz.isAgg200
  z46 := Tryz.sizeOf200
  v46 := Tryz.zeroValue200
  t50 := Tryz.underlying204
  a50 := Tryz.isAgg204
  z50 := Tryz.sizeOf204
  v50 := Tryz.zeroValue204
  t53 := Tryz.underlying159
  a53 := Tryz.isAgg159
  z53 := Tryz.sizeOf159
  v53 := Tryz.zeroValue159
  t55 := Tryz.underlying164
  a55 := Tryz.isAgg164
  z55 := Tryz.sizeOf164
  v55 := Tryz.zeroValue164
  t66 := Tryz.underlying222
  a66 := Tryz.isAgg222
  z66 := Tryz.sizeOf222
  v66 := Tryz.zeroValue222
  t70 := Tryz.underlying226
  a70 := Tryz.isAgg226
  z70 := Tryz.sizeOf226
  v70 := Tryz.zeroValue226
  t76 := Tryz.underlying231
  a76 := Tryz.isAgg231
  z76 := Tryz.sizeOf231
  v76 := Tryz.zeroValue231
  t77 := Tryz.underlying232
  a77 := Tryz.isAgg232
  z77 := Tryz.sizeOf232
  v77 := Tryz.zeroValue232 }
end Go.Proofs
namespace Go.Proofs.YtfgbfodohmeamaaGreatDoor
set_option maxRecDepth 100000
open Go.Dn Go.Proofs
open Go.RowKit (Below)
open Go.Sort (Holds PermIn SortedIn putCells putRow SWO)
set_option linter.unusedVariables false
section
variable {α : Type} [Inhabited α]
theorem sortWorld_heap (enc : α → Value) (w : World) (blk off m : Nat) (dk : Array α) (os : Array Obj) {k : Nat} (hk : k < w.heap.size) : (sortWorld enc w blk off m dk os).heap[k]? = if blk = k then (w.heap[k]?).map (Go.Sort.onCells (putCells enc off dk)) else w.heap[k]? := by
  simp only [sortWorld, Go.Sort.grow, putRow, Go.Sort.mapBlock, Go.Sort.ahead]
  rw [Array.getElem?_append_left (by simpa using hk), Array.getElem?_modify]
theorem sortWorld_keeps (enc : α → Value) (w : World) (blk off m : Nat) (dk : Array α) (os : Array Obj) : Keeps (fun k => some blk = some k) w (sortWorld enc w blk off m dk os) where
  os := rfl
  tape := rfl
  output := rfl
  size := by simp [sortWorld, Go.Sort.grow, putRow, Go.Sort.mapBlock, Go.Sort.ahead]
  block := fun k hk hn => by rw [sortWorld_heap enc w blk off m dk os hk, if_neg (fun e => hn (by rw [e]))]
end
theorem lift_list {α β : Type} {p : β → Prop} (f : β → α) : ∀ (xs : List α), (∀ x ∈ xs, ∃ y, p y ∧ f y = x) → ∃ ys : List {y // p y}, ys.map (fun y => f y.1) = xs
  | [], _ => ⟨[], rfl⟩
  | x :: xs, h => by
    obtain ⟨ys, hys⟩ := lift_list f xs fun z hz => h z (List.mem_cons_of_mem _ hz)
    obtain ⟨y, hy, rfl⟩ := h x List.mem_cons_self
    exact ⟨⟨y, hy⟩ :: ys, by simp [hys]⟩
section
variable {w0 w : World} {E H : List It}
theorem sortFn_none (a : Option Addr) (c : Nat) (fv : Value) (w : World) : Calls Tryz.prog f.slices_SortFunc_disk_file_disk_file #[.slice a 0 c, fv] w fun e w' => e = .returned (.tuple #[]) ∧ w' = w :=
  AnyF.slices_SortFunc_none (ρ := Tryz.sort90_ren) { Tryz.sort90 with } a c fv w
structure ByNum (fs : List FileC) (L : DirA) (gs : List FileC) : Prop where
  up : gs.Pairwise (fun f g => f.num < g.num)
  mem : ∀ f, f ∈ gs ↔ f ∈ fs ∧ ∃ x, L x = some f.b
theorem sortFn_ok {fs : List FileC} {a : Option Addr} {c : Nat} (ds : List {f : FileC // f ∈ fs}) (S : ST w0 w (It.row ty.P_disk_file 1 a ds.length c (ds.map fun f => ptrV f.1.b) :: H)) (hF : ∀ f ∈ fs, It.cells f.b f.cells ty.disk_file ∈ H) (hnum : ∀ f ∈ fs, f.num ≤ 1000000) (hn : ds.length ≤ 1000000) :
    Calls Tryz.prog f.slices_SortFunc_disk_file_disk_file #[.slice a ds.length c, .func (.func f.disk_Disk_Crash_c1) #[] #[]] w (Ret fun v w' => v = .tuple #[] ∧ ∃ es : List {f : FileC // f ∈ fs}, es.Perm ds ∧ es.Pairwise (fun f g => f.1.num ≤ g.1.num) ∧ ST w0 w' (It.row ty.P_disk_file 1 a es.length c (es.map fun f => ptrV f.1.b) :: H)) := by
  have hrow := S.rw 0 rfl
  rcases hrow.2 with ⟨rfl, h0, rfl⟩ | ⟨blk, cur, rfl, hg, hnc, hcm, hcs, htake⟩
  · have : ds = [] := List.eq_nil_of_length_eq_zero h0
    subst this
    refine (sortFn_none _ _ _ w).mono ?_
    rintro _ w1 ⟨rfl, rfl⟩
    exact ⟨_, rfl, rfl, [], .refl _, .nil, S⟩
  cases hds : ds with
  | nil =>
    subst hds
    refine (sortFn_none _ _ _ w).mono ?_
    rintro _ w1 ⟨rfl, rfl⟩
    exact ⟨_, rfl, rfl, [], .refl _, .nil, S⟩
  | cons d0 ds0 =>
  rw [← hds]
  haveI : Inhabited {f : FileC // f ∈ fs} := ⟨d0⟩
  have hblk : blk < w.heap.size := (Array.getElem?_eq_some_iff.1 hg).1
  have henc : ∀ j (hj : j < ds.length), cur[j]? = some (ptrV ds[j].1.b) := fun j hj => by
    have h := congrArg (fun l => l[j]?) htake
    simp only [List.getElem?_map, List.getElem?_eq_getElem hj, Option.map_some] at h
    rw [List.getElem?_take_of_lt (by omega)] at h
    simpa using h
  have hmem : ∀ f : {f : FileC // f ∈ fs}, w.heap[f.1.b]? = some (.cells f.1.cells ty.disk_file (0, 0)) ∧ f.1.b ≠ blk := fun f => by
    have hin := hF f.1 f.2
    refine ⟨S.ok _ (List.mem_cons_of_mem _ hin), fun e => ?_⟩
    exact (List.pairwise_cons.1 S.nd).1 _ hin blk rfl (by rw [← e]; rfl)
  have hcmp : CmpReads Tryz.prog f.disk_Disk_Crash_c1 #[] (fun f : {f : FileC // f ∈ fs} => ptrV f.1.b) (fun f g => (f.1.num : Int) - (g.1.num : Int)) blk 0 ds.toArray.size w := fun m os dk hs x y => by
    have hc : ∀ f : {f : FileC // f ∈ fs}, (sortWorld (fun f : {f : FileC // f ∈ fs} => ptrV f.1.b) w blk 0 m dk os).cell? ⟨f.1.b, 0, none⟩ = some (.int .i64 (f.1.num : Int)) := fun f => by
      obtain ⟨h1, h2⟩ := hmem f
      have := (sortWorld_heap (fun f : {f : FileC // f ∈ fs} => ptrV f.1.b) w blk 0 m dk os (Array.getElem?_eq_some_iff.1 h1).1).trans (if_neg (Ne.symm h2))
      simp [World.cell?, this, h1, FileC.cells]
    refine (cmp_ok (hc x) (hc y) ⟨by omega, by have := hnum x.1 x.2; omega⟩ ⟨by omega, by have := hnum y.1 y.2; omega⟩).mono ?_
    rintro _ w1 ⟨_, rfl, rfl, rfl⟩
    exact ⟨rfl, 1, rfl⟩
  refine (Any.slices_SortFunc Tryz.sort90 (fun f : {f : FileC // f ∈ fs} => ptrV f.1.b) (fun _ => rfl) (fun f g => (f.1.num : Int) - (g.1.num : Int)) ?_ f.disk_Disk_Crash_c1 #[] blk 0 c ds.toArray w (enters_of Tryz.func49 (by kernel_rfl) rfl) (CmpReads.lays hcmp) ?_ hblk ?_).mono ?_
  · exact ⟨fun x => by simp [ltOf], fun x y z h1 h2 => by simp [ltOf] at *; omega, fun x y z h1 h2 => by simp [ltOf] at *; omega⟩
  · intro j hj
    have hj' : j < ds.length := by simpa using hj
    constructor
    · simp [World.cell?, hg, henc j hj', hj']
    · simp [World.frozen?, hg]
  · simp; omega
  · rintro _ w1 ⟨rfl, d', n, os, hperm, hsort, rfl⟩
    obtain ⟨hsz, _, hp⟩ := hperm
    have e1 : d'.extract 0 ds.toArray.size = d' := by rw [← hsz]; simp
    have e2 : ds.toArray.extract 0 ds.toArray.size = ds.toArray := by simp
    rw [e1, e2] at hp
    have hsz : d'.size = ds.length := by simpa using hsz
    refine ⟨_, rfl, rfl, d'.toList, by simpa using hp, ?_, ?_⟩
    · refine List.pairwise_iff_getElem.2 fun i j hi hj hij => ?_
      have hi' : i < d'.size := by simpa using hi
      have hj' : j < d'.size := by simpa using hj
      have := hsort i j (Nat.zero_le _) hij (by simp; omega)
      rw [getElem!_pos d' i hi', getElem!_pos d' j hj'] at this
      simp only [ltOf, decide_eq_false_iff_not, Int.not_lt] at this
      simp only [Array.getElem_toList]
      omega
    · have hlen : d'.toList.length = ds.length := by simpa using hsz
      rw [hlen]
      refine S.chg 0 rfl (sortWorld_keeps _ w blk 0 n d' os) (It.row ty.P_disk_file 1 (some ⟨blk, 0, none⟩) ds.length c (d'.toList.map fun f => ptrV f.1.b)) ⟨by simp [hsz], .inr ⟨blk, putCells (fun f : {f : FileC // f ∈ fs} => ptrV f.1.b) 0 d' cur, rfl, ?_, hnc, hcm, ?_, ?_⟩⟩ (fun k hk => .inl hk)
      · rw [sortWorld_heap _ w blk 0 n d' os hblk, if_pos rfl, hg]
        rfl
      · simp [putCells, hcs]
      · apply List.ext_getElem?
        intro i
        rcases Nat.lt_or_ge i ds.length with hi | hi
        · have hi2 : i < d'.size := by omega
          have hic : i < cur.size := by omega
          rw [List.getElem?_take_of_lt (by omega)]
          simp only [putCells, Array.getElem?_toList, Array.getElem?_mapIdx, Array.getElem?_eq_getElem hic, Option.map_some, List.getElem?_map, Array.getElem?_eq_getElem hi2]
          rw [if_pos ⟨Nat.zero_le _, by omega⟩, Nat.sub_zero, getElem!_pos d' i hi2]
        · rw [List.getElem?_eq_none (by simp; omega), List.getElem?_eq_none (by simp; omega)]
end
end Go.Proofs.YtfgbfodohmeamaaGreatDoor
namespace Go.Proofs.YtfgbfodohmeamaaGreatDoor
set_option maxRecDepth 100000
open Go.Dn Go.Proofs
open Go.RowKit (Below)
set_option linter.unusedVariables false
theorem nd_inj {fs : List FileC} (h : NdF fs) {f g : FileC} (hf : f ∈ fs) (hg : g ∈ fs) (e : f.b = g.b) : f = g := by
  obtain ⟨i, hi, rfl⟩ := List.mem_iff_getElem.1 hf
  obtain ⟨j, hj, rfl⟩ := List.mem_iff_getElem.1 hg
  rcases Nat.lt_trichotomy i j with h1 | rfl | h1
  · exact absurd e ((List.pairwise_iff_getElem.1 h) i j hi hj h1)
  · rfl
  · exact absurd e.symm ((List.pairwise_iff_getElem.1 h) j i hj hi h1)
theorem DiskOk.num_inj {D : DiskC} {m : Nat} (h : DiskOk D m) {f g : FileC} (hf : f ∈ D.files) (hg : g ∈ D.files) (e : f.num = g.num) : f = g := by
  obtain ⟨i, hi, rfl⟩ := List.mem_iff_getElem.1 hf
  obtain ⟨j, hj, rfl⟩ := List.mem_iff_getElem.1 hg
  rw [h.nums i hi, h.nums j hj] at e
  have : i = j := by omega
  subst this
  rfl
theorem DiskOk.num_le {D : DiskC} {m : Nat} (h : DiskOk D m) {f : FileC} (hf : f ∈ D.files) : 1 ≤ f.num ∧ f.num ≤ m := by
  obtain ⟨i, hi, rfl⟩ := List.mem_iff_getElem.1 hf
  rw [h.nums i hi]
  have := h.fn
  omega
section
variable {w0 w : World} {D : DiskC} {E H : List It} {m : Nat}
theorem sortedFunc_ok (S : ST w0 w H) (i j : Nat) {lb cb n : Nat} {L : DirA} (hi : H[i]? = some (dirI lb n L)) (hj : H[j]? = some (It.cells cb #[.map (some lb)] ty.disk_names)) (hn : n ≤ 1000000) {fs : List FileC}
    (hF : ∀ f ∈ fs, It.cells f.b f.cells ty.disk_file ∈ H) (hnum : ∀ f ∈ fs, f.num ≤ 1000000) (hinj : ∀ f ∈ fs, ∀ g ∈ fs, f.num = g.num → f = g) (nd : NdF fs) (hL : ∀ x b, L x = some b → ∃ f ∈ fs, f.b = b) (hI : InjD L) :
    Calls Tryz.prog f.slices_SortedFunc_disk_file #[.func (.func f.maps_Values_disk_names_string_disk_file__c1) #[] #[ptrV cb], .func (.func f.disk_Disk_Crash_c1) #[] #[]] w (Ret fun v w' => ∃ (a : Option Addr) (c : Nat) (gs : List FileC), v = .slice a gs.length c ∧ gs.length ≤ n ∧ ByNum fs L gs ∧ ST w0 w' (It.row ty.P_disk_file 1 a gs.length c (gs.map fun f => ptrV f.b) :: H)) := by
  apply R.slices_SortedFunc_disk_file_calls
  unfold R.slices_SortedFunc_disk_file
  refine (collect_ok S i j hi hj hn).mono ?_
  rintro _ w1 ⟨_, rfl, a, c, ks, xs, rfl, hdom, hkn, hks, S1⟩
  have hxl : xs.length = ks.length := by have := congrArg List.length hks; simpa using this.symm
  have hxm : ∀ b, b ∈ xs ↔ ∃ x, L x = some b := fun b => by
    have h1 : b ∈ xs ↔ some b ∈ ks.map L := by rw [hks]; simp
    rw [h1, List.mem_map]
    constructor
    · rintro ⟨x, _, h⟩; exact ⟨x, h⟩
    · rintro ⟨x, h⟩; exact ⟨x, (hdom.mem x).2 (by rw [h]; rfl), h⟩
  have hxnd : xs.Nodup := by
    have h1 : (xs.map some).Nodup := by
      rw [← hks]
      refine List.pairwise_map.2 (hdom.nd.imp_of_mem fun {x y} hx hy hne e => ?_)
      obtain ⟨b, hb⟩ := Option.isSome_iff_exists.1 ((hdom.mem x).1 hx)
      exact hne (hI x y b hb (e ▸ hb))
    exact List.Pairwise.of_map some (fun a b h e => h (by rw [e])) h1
  obtain ⟨ds, hds⟩ := lift_list (p := (· ∈ fs)) (·.b) xs fun b hb => by obtain ⟨x, hx⟩ := (hxm b).1 hb; exact hL x b hx
  have hdl : ds.length = xs.length := by rw [← hds, List.length_map]
  have e1 : xs.map ptrV = ds.map fun f => ptrV f.1.b := by rw [← hds, List.map_map]; rfl
  rw [← hdl, e1] at S1
  refine ⟨_, _, _, rfl, ?_⟩
  rw [← hdl]
  refine (sortFn_ok ds S1 hF hnum (by omega)).mono ?_
  rintro _ w2 ⟨_, rfl, rfl, es, hp, hup, S2⟩
  have hel : es.length = ds.length := hp.length_eq
  have hebp : (es.map fun f => f.1.b).Perm xs := by rw [← hds]; exact hp.map _
  have hend : (es.map fun f => f.1.b).Nodup := hebp.nodup_iff.2 hxnd
  refine ⟨rfl, a, c, es.map (·.1), by rw [List.length_map, hel], by rw [List.length_map, hel, hdl, hxl]; exact hkn, ⟨?_, ?_⟩, ?_⟩
  · rw [List.pairwise_map]
    refine (hup.and (List.pairwise_map.1 hend)).imp fun {f g} ⟨h1, h2⟩ => ?_
    have : f.1.num ≠ g.1.num := fun e => h2 (by rw [hinj f.1 f.2 g.1 g.2 e])
    omega
  · intro f
    rw [List.mem_map]
    constructor
    · rintro ⟨g, hg, rfl⟩
      exact ⟨g.2, (hxm g.1.b).1 (hebp.mem_iff.1 (List.mem_map_of_mem (f := fun f : {f : FileC // f ∈ fs} => f.1.b) hg))⟩
    · rintro ⟨hf, hx⟩
      have := hebp.mem_iff.2 ((hxm f.b).2 hx)
      obtain ⟨g, hg, e⟩ := List.mem_map.1 this
      exact ⟨g, hg, nd_inj nd g.2 hf e⟩
  · rw [List.map_map, List.length_map]
    exact S2
end
def clampI (k hi : Int) : Int := if (if hi < k then hi else k) > 0 then (if hi < k then hi else k) else 0
theorem clampI_lo (k hi : Int) : 0 ≤ clampI k hi := by unfold clampI; split <;> omega
theorem clampI_hi (k : Int) {hi : Int} (h : 0 ≤ hi) : clampI k hi ≤ hi := by unfold clampI; split <;> split <;> omega
def crashN (D : DiskC) (dir : Int) : Nat := (clampI dir D.waits.length).toNat
theorem crashN_le (D : DiskC) (dir : Int) : crashN D dir ≤ D.waits.length := by
  have := clampI_hi dir (hi := (D.waits.length : Int)) (by omega)
  have := clampI_lo dir D.waits.length
  unfold crashN
  omega
def lastD (D : DiskC) (dir : Int) : DirA := appAll D.last (D.waits.take (crashN D dir))
def keptN (keeps : List Int) (i : Nat) (f : FileC) : Nat := f.lasts + match keeps[i]? with
  | none => 0
  | some k => (clampI k ((f.data.length : Int) - (f.lasts : Int))).toNat
theorem keptN_le {keeps : List Int} {i : Nat} {f : FileC} (h : f.lasts ≤ f.data.length) : f.lasts ≤ keptN keeps i f ∧ keptN keeps i f ≤ f.data.length := by
  unfold keptN
  cases keeps[i]? with
  | none => simp; exact h
  | some k =>
    have h1 := clampI_hi k (hi := (f.data.length : Int) - (f.lasts : Int)) (by omega)
    have h2 := clampI_lo k ((f.data.length : Int) - (f.lasts : Int))
    simp only
    omega
structure CrashR (D : DiskC) (dir : Int) (keeps : List Int) (gs : List FileC) (D' : DiskC) : Prop where
  by_num : ByNum D.files (lastD D dir) gs
  len : D'.files.length = gs.length
  file : ∀ i (h : i < gs.length) (h' : i < D'.files.length), D'.files[i].num = i + 1 ∧ D'.files[i].data = gs[i].data.take (keptN keeps i gs[i]) ∧ D'.files[i].lasts = keptN keeps i gs[i]
  noneF : ∀ x, lastD D dir x = none → D'.dir x = none
  someF : ∀ x b, lastD D dir x = some b → ∃ i, ∃ (h : i < gs.length) (h' : i < D'.files.length), gs[i].b = b ∧ D'.dir x = some D'.files[i].b
  room : D'.room = D.room
  made : D'.made = gs.length
  off : D'.off = false
  fused : D'.fused = false
  fuse : D'.fuse = 0
  waits : D'.waits = []
  last : D'.last = D'.dir
  dn : D'.dn ≤ D.ln + D.waits.length
  ln : D'.ln ≤ D.ln + D.waits.length
  gn : gs.length ≤ D.ln + D.waits.length
def intI (k : Int) : Value := .int .i64 k
def outC (room made om1 om2 : Nat) : Array Value := #[.int .i64 (room : Int), .int .i64 (made : Int), .map (some om1), .map (some om2), .slice none 0 0, .bool false, .bool false, .int .i64 0]
theorem tFresh : Tryz.prog.underlying ty.map_P_disk_file_P_disk_file = some (.map ty.P_disk_file ty.P_disk_file) := by kernel_rfl
theorem freshRun (w : World) : (Instr.makeMap ty.map_P_disk_file_P_disk_file none).run Tryz.prog w = .ok (.map (some w.heap.size)) (w.alloc (.map #[] 0)) := by
  simp [Instr.makeMap, go_sem, Result.andThen]
def prs (gs nf : List FileC) : List (Nat × Nat) := (gs.map (·.b)).zip (nf.map (·.b))
theorem prs_snoc : ∀ (gs nf : List FileC) (f : FileC) (h : nf.length < gs.length), prs gs (nf ++ [f]) = prs gs nf ++ [(gs[nf.length].b, f.b)]
  | [], nf, f, h => by simp at h
  | g :: gs, [], f, h => by simp [prs]
  | g :: gs, n :: nf, f, h => by
    have := prs_snoc gs nf f (by simpa using h)
    simp only [prs, List.map_cons, List.cons_append, List.zip_cons_cons, List.length_cons, List.getElem_cons_succ] at this ⊢
    rw [this]
theorem prs_mem : ∀ (gs nf : List FileC) (p : Nat × Nat), p ∈ prs gs nf → ∃ f ∈ gs.take nf.length, p.1 = f.b
  | [], nf, p, h => by simp [prs] at h
  | g :: gs, [], p, h => by simp [prs] at h
  | g :: gs, n :: nf, p, h => by
    simp only [prs, List.map_cons, List.zip_cons_cons, List.mem_cons] at h
    rcases h with rfl | h
    · exact ⟨g, by simp, rfl⟩
    · obtain ⟨f, hf, e⟩ := prs_mem gs nf p h
      exact ⟨f, by simp [hf], e⟩
theorem prs_find : ∀ (gs nf : List FileC), NdF gs → ∀ i (h : i < gs.length) (h' : i < nf.length), (prs gs nf).find? (fun p => p.1 == gs[i].b) = some (gs[i].b, nf[i].b)
  | [], nf, _, i, h, _ => by simp at h
  | g :: gs, [], _, i, _, h => by simp at h
  | g :: gs, n :: nf, nd, 0, _, _ => by simp [prs]
  | g :: gs, n :: nf, nd, i + 1, h, h' => by
    have h1 : i < gs.length := by simpa using h
    have := prs_find gs nf (List.pairwise_cons.1 nd).2 i h1 (by simpa using h')
    have hne : (g.b == gs[i].b) = false := by simpa using (List.pairwise_cons.1 nd).1 gs[i] (List.getElem_mem h1)
    simp only [prs, List.map_cons, List.zip_cons_cons, List.getElem_cons_succ] at this ⊢
    rw [List.find?_cons_of_neg (by simp [hne]), this]
def FilesInv (keeps : List Int) (gs nf : List FileC) : Prop := nf.length ≤ gs.length ∧ ∀ i (h : i < gs.length) (h' : i < nf.length), nf[i].num = i + 1 ∧ nf[i].data = gs[i].data.take (keptN keeps i gs[i]) ∧ nf[i].lasts = keptN keeps i gs[i]
theorem FilesInv.snoc {keeps : List Int} {gs nf : List FileC} (h : FilesInv keeps gs nf) (hl : nf.length < gs.length) {f : FileC} (h1 : f.num = nf.length + 1) (h2 : f.data = gs[nf.length].data.take (keptN keeps nf.length gs[nf.length])) (h3 : f.lasts = keptN keeps nf.length gs[nf.length]) : FilesInv keeps gs (nf ++ [f]) := by
  refine ⟨by simp; omega, fun i hi hi' => ?_⟩
  rcases Nat.lt_or_ge i nf.length with hlt | hge
  · rw [List.getElem_append_left hlt]
    exact h.2 i hi hlt
  · have : i = nf.length := by simp at hi'; omega
    subst this
    rw [List.getElem_append_right (Nat.le_refl _)]
    simp only [Nat.sub_self, List.getElem_cons_zero]
    exact ⟨h1, h2, h3⟩
section
variable {w0 w : World} {D : DiskC} {E H : List It} {m : Nat}
def crI (D : DiskC) (E : List It) (gs nf : List FileC) (fb cb lb n b10 om1 om2 : Nat) (Lf : DirA) (ga : Option Addr) (gc : Nat) : List It :=
  It.mapQ fb (prs gs nf) :: It.row ty.P_disk_file 1 ga gs.length gc (gs.map fun f => ptrV f.b) :: It.cells cb #[.map (some lb)] ty.disk_names :: dirI lb n Lf :: It.cells b10 (outC D.room nf.length om1 om2) ty.disk_Disk :: dirI om2 0 (fun _ => none) :: dirI om1 0 (fun _ => none) :: (nf.flatMap FileC.its ++ dkE D E)
theorem crI_dk (D : DiskC) (E : List It) (gs nf : List FileC) (fb cb lb n b10 om1 om2 : Nat) (Lf : DirA) (ga : Option Addr) (gc : Nat) : (dkE D E).Sublist (crI D E gs nf fb cb lb n b10 om1 om2 Lf ga gc) :=
  List.Sublist.cons _ (List.Sublist.cons _ (List.Sublist.cons _ (List.Sublist.cons _ (List.Sublist.cons _ (List.Sublist.cons _ (List.Sublist.cons _ (List.sublist_append_right _ _)))))))
def dirP (gs nf : List FileC) (L : DirA) : DirA := fun x => (L x).bind fun b => ((prs gs nf).find? fun p => p.1 == b).map (·.2)
def crJ (D : DiskC) (E : List It) (gs nf : List FileC) (fb cb lb n b10 om1 om2 : Nat) (Lf : DirA) (ga : Option Addr) (gc k : Nat) (g : DirA) (x y : It) : List It :=
  x :: It.mapQ fb (prs gs nf) :: It.row ty.P_disk_file 1 ga gs.length gc (gs.map fun f => ptrV f.b) :: It.cells cb #[.map (some lb)] ty.disk_names :: y :: It.cells b10 (outC D.room nf.length om1 om2) ty.disk_Disk :: dirI om2 k g :: dirI om1 k g :: (nf.flatMap FileC.its ++ dkE D E)
def CrInv (w0 : World) (D : DiskC) (E : List It) (gs nf : List FileC) (fb cb lb n b10 om1 om2 : Nat) (Lf : DirA) (ga : Option Addr) (gc r : Nat) (w : World) : Prop :=
  ∃ (ls : List (List UInt8)) (k : Nat) (g : DirA), RanP Tryz.prog ty.string w lb r n Lf ls ∧ (∀ x, g x = if x ∈ ls then none else dirP gs nf Lf x) ∧ k + ls.length ≤ n ∧ ST w0 w (crJ D E gs nf fb cb lb n b10 om1 om2 Lf ga gc k g (It.own r) (dirI lb n Lf))
theorem its_at {c : ChgC} {A : List It} (n : Nat) (hc : c ∈ D.waits) (hA : A.length = n) (x : It) (hx : x ∈ c.its) : ∃ k, n + 4 ≤ k ∧ (A ++ dkE D E)[k]? = some x := by
  have hm : x ∈ D.waits.flatMap ChgC.its ++ (D.files.flatMap FileC.its ++ E) := List.mem_append_left _ (List.mem_flatMap.2 ⟨c, hc, hx⟩)
  obtain ⟨k, hk⟩ := List.mem_iff_getElem?.1 hm
  refine ⟨n + (k + 4), by omega, ?_⟩
  rw [List.getElem?_append_right (by omega), hA, Nat.add_sub_cancel_left]
  exact hk
theorem mem_dkE {f : FileC} (hf : f ∈ D.files) {x : It} (hx : x ∈ f.its) : x ∈ dkE D E := by
  rw [dkE_eq]
  exact List.mem_append_right _ (List.mem_append_left _ (List.mem_flatMap.2 ⟨f, hf, hx⟩))
set_option maxHeartbeats 300000 in
theorem crash_ok (S : ST w0 w (dkE D E)) (hD : DiskOk D m) (hm : m ≤ 100000) (dir : Int) {ka : Option Addr} {kc : Nat} (keeps : List Int) (hk : ∀ w', ST w0 w' (dkE D E) → Rd w' ka (keeps.map intI)) (hkc : keeps.length ≤ kc) :
    Calls Tryz.prog f.disk_Disk_Crash #[ptrV D.b, .int .i64 dir, .slice ka keeps.length kc] w (Ret fun v w' => ∃ gs D', v = ptrV D'.b ∧ ST w0 w' (dkE D' (dkE D E)) ∧ CrashR D dir keeps gs D') := by
  apply R.disk_Disk_Crash_calls
  unfold R.disk_Disk_Crash
  have hwn := hD.wn
  have hln := hD.ln
  refine IFB_false ⟨_, S.cell 0 rfl rfl, ?_⟩
  refine S.newMap (k := ty.string) _ (fun om1 w1 S1 => ⟨_, rfl, ?_⟩) (made_run w)
  refine S1.newMap (k := ty.string) _ (fun om2 w2 S2 => ⟨_, rfl, ?_⟩) (made_run w1)
  refine S2.newB fun b10 w3 _ _ S3 => ⟨_, S3.cell 3 rfl rfl, (clone_ok S3 5 rfl).mono ?_⟩
  rintro _ w4 ⟨_, rfl, lb, rfl, S4⟩
  have S4 : ST w0 w4 (dirI lb D.ln D.last :: It.cells b10 (outC D.room 0 om1 om2) ty.disk_Disk :: dirI om2 0 (fun _ => none) :: dirI om1 0 (fun _ => none) :: dkE D E) := S4
  refine ⟨_, rfl, S4.draw fun w5 _ S5 => ⟨_, _, _, S5.cell 4 rfl rfl, _, _, _, S5.cell 4 rfl rfl, ?_⟩⟩
  have hN := crashN_le D dir
  have hN0 : clampI dir D.waits.length = ((crashN D dir : Nat) : Int) := by have := clampI_lo dir D.waits.length; unfold crashN; omega
  have hwc : D.waits.length ≤ D.wc := by
    rcases (S5.rw 7 rfl).2 with ⟨_, h1, h2⟩ | ⟨_, _, _, _, h, _⟩
    · omega
    · exact h
  show ((0 : Int) ≤ 0 ∧ (0 : Int) ≤ clampI dir D.waits.length ∧ clampI dir D.waits.length ≤ (D.wc : Int)) ∧ _
  refine ⟨⟨by omega, by omega, by omega⟩, ?_⟩
  refine ⟨fun st w6 => ∃ i : Nat, st = [.int .i64 (i : Int)] ∧ i ≤ crashN D dir ∧ ST w0 w6 (dirI lb (D.ln + i) (appAll D.last (D.waits.take i)) :: It.cells b10 (outC D.room 0 om1 om2) ty.disk_Disk :: dirI om2 0 (fun _ => none) :: dirI om1 0 (fun _ => none) :: dkE D E), fun st _ => match st with
    | [.int _ i] => crashN D dir - i.toNat
    | _ => 0, ⟨0, rfl, by omega, S5⟩, ?_⟩
  rintro _ w6 ⟨i, hst, hi, S6⟩
  cases hst
  show IFB (decide ((i : Int) < (((clampI dir D.waits.length).toNat - 0 : Nat) : Int))) _ _
  refine IFB_dec (fun hlt => ?_) (fun hge => ?_)
  · have hlt' : i < crashN D dir := by rw [hN0] at hlt; simpa using hlt
    have hil : i < D.waits.length := by omega
    refine ⟨⟨by omega, hlt⟩, ?_⟩
    have hrd := (S6.rd 7 rfl).sla 0 (crashN D dir) D.wc 1 (by omega)
    obtain ⟨p, hp, hcell⟩ := hrd i (ChgC.val D.waits[i]) (by
      rw [List.getElem?_take_of_lt (by omega), List.getElem?_drop]
      simp [hil])
    rw [show SLA D.wa 0 D.wc 1 = some p from hp]
    refine ⟨_, _, _, by rw [Int.toNat_natCast, Nat.mul_one]; exact hcell, ?_⟩
    have hmem : D.waits[i] ∈ D.waits := List.getElem_mem hil
    rw [chg_enters]
    refine (chg_ok D.waits[i] S6 (i := 0) rfl (fun x hx => by
      obtain ⟨k, hk1, hk2⟩ := its_at (D := D) (E := E) (A := [dirI lb (D.ln + i) (appAll D.last (D.waits.take i)), It.cells b10 (outC D.room 0 om1 om2) ty.disk_Disk, dirI om2 0 (fun _ => none), dirI om1 0 (fun _ => none)]) 4 hmem rfl x hx
      exact ⟨k, by omega, hk2⟩) (by omega) (hD.small _ hmem)).mono ?_
    rintro _ w7 ⟨_, rfl, rfl, S7⟩
    refine ⟨rfl, ?_⟩
    rw [wrap_succ (by omega)]
    refine ⟨⟨i + 1, rfl, by omega, ?_⟩, by show crashN D dir - ((i + 1 : Nat) : Int).toNat < crashN D dir - ((i : Nat) : Int).toNat; simp only [Int.toNat_natCast]; omega⟩
    rw [List.take_succ_eq_append_getElem hil, appAll_snoc]
    exact S7
  have hiN : i = crashN D dir := by rw [hN0] at hge; simp at hge; omega
  subst hiN
  refine (values_ok S6 lb).mono ?_
  rintro _ w8 ⟨_, rfl, cb, rfl, S8⟩
  refine ⟨_, _, _, rfl, ?_⟩
  have hL : ∀ x b, appAll D.last (D.waits.take (crashN D dir)) x = some b → ∃ f ∈ D.files, f.b = b := hD.has _ hN
  have nd : NdF D.files := files_nd (S8.drop 5)
  refine (sortedFunc_ok S8 1 0 rfl rfl (by omega) (fs := D.files) (fun f hf => ?_) (fun f hf => by have := (hD.num_le hf).2; omega) (fun f hf g hg e => hD.num_inj hf hg e) nd hL (hD.inj _ hN)).mono ?_
  · exact List.mem_cons_of_mem _ (List.mem_cons_of_mem _ (List.mem_cons_of_mem _ (List.mem_cons_of_mem _ (List.mem_cons_of_mem _ (mem_dkE hf (by simp [FileC.its]))))))
  rintro _ w9 ⟨_, rfl, ga, gc, gs, rfl, hgn, hby, S9⟩
  have S9 : ST w0 w9 (It.row ty.P_disk_file 1 ga gs.length gc (gs.map fun f => ptrV f.b) :: It.cells cb #[.map (some lb)] ty.disk_names :: dirI lb (D.ln + crashN D dir) (lastD D dir) :: It.cells b10 (outC D.room 0 om1 om2) ty.disk_Disk :: dirI om2 0 (fun _ => none) :: dirI om1 0 (fun _ => none) :: dkE D E) := S9
  refine ⟨_, _, _, rfl, S9.newMapQ _ (fun fb w10 S10 => ⟨_, rfl, ?_⟩) (freshRun w9)⟩
  have hgnd : NdF gs := hby.up.imp_of_mem fun {f g} hf hg h e => by
    have := nd_inj nd ((hby.mem f).1 hf).1 ((hby.mem g).1 hg).1 e
    subst this
    omega
  have e1 : (gs.map fun f => ptrV f.b) = (gs.map (·.b)).map ptrV := by rw [List.map_map]; rfl
  have hgl : gs.length = (gs.map (·.b)).length := by rw [List.length_map]
  have hok : ∀ f ∈ D.files, ∀ {w' : World}, ST w0 w' (dkE D E) → w'.heap[f.b]? = some (.cells f.cells ty.disk_file (0, 0)) ∧ Row w' ty.uint8 1 f.da f.data.length f.dc (f.data.map byteV) := fun f hf w' S =>
    ⟨S.ok (It.cells f.b f.cells ty.disk_file) (mem_dkE hf (by simp [FileC.its])), S.ok (bytesI f.da f.dc f.data) (mem_dkE hf (by simp [FileC.its]))⟩
  have S10d : ST w0 w10 (dkE D E) := S10.drop 7
  have hpok : ∀ b ∈ gs.map (·.b), PtrOk w10 b := fun b hb => by
    obtain ⟨f, hf, rfl⟩ := List.mem_map.1 hb
    exact ⟨_, _, (hok f ((hby.mem f).1 hf).1 S10d).1⟩
  have hrd : Rd w10 ga ((gs.map (·.b)).map ptrV) := by rw [← e1]; exact S10.rd 1 rfl
  have hcomp := compact_ok (c := gc) (gs.map (·.b)) hrd hpok (List.pairwise_map.2 hgnd) (by rw [← hgl]; omega)
  rw [← hgl] at hcomp
  refine hcomp.mono ?_
  rintro _ w11 ⟨_, rfl, rfl, B11⟩
  have S11 := S10.grown B11
  refine ⟨_, _, _, rfl, ?_⟩
  have S11 : ST w0 w11 (crI D E gs [] fb cb lb (D.ln + crashN D dir) b10 om1 om2 (lastD D dir) ga gc) := by
    have e : prs gs [] = [] := by simp [prs]
    unfold crI
    rw [e]
    exact S11
  refine ⟨fun st w12 => ∃ (ka' : Option Addr) (kc' : Nat) (ks' : List Int) (nf : List FileC), st = [.slice ka' ks'.length kc', .int .i64 (nf.length : Int)] ∧ ks' = keeps.drop nf.length ∧ ks'.length ≤ kc' ∧ (∀ w', ST w0 w' (dkE D E) → Rd w' ka' (ks'.map intI)) ∧ FilesInv keeps gs nf ∧
    ST w0 w12 (crI D E gs nf fb cb lb (D.ln + crashN D dir) b10 om1 om2 (lastD D dir) ga gc), fun st _ => match st with
    | [_, .int _ i] => gs.length - i.toNat
    | _ => 0, ⟨ka, kc, keeps, [], rfl, rfl, hkc, hk, ⟨Nat.zero_le _, fun i _ h => absurd h (by simp)⟩, S11⟩, ?_⟩
  rintro ka' _ kc' _ w12 ⟨_, _, ks', nf, hst, hks, hkc', hk', hinv, S12⟩
  cases hst
  refine IFB_dec (fun hlt => ?_) (fun hge => ?_)
  · have hjl : nf.length < gs.length := by omega
    have hgD : gs[nf.length] ∈ D.files := ((hby.mem _).1 (List.getElem_mem hjl)).1
    have hrd12 : Rd w12 ga ((gs.map (·.b)).map ptrV) := by rw [← e1]; exact S12.rd 1 rfl
    obtain ⟨p, hpa, hpc⟩ := rdP_at hrd12 (show nf.length < (gs.map (·.b)).length by rw [← hgl]; exact hjl)
    refine ⟨⟨by omega, hlt⟩, ?_⟩
    rw [hpa]
    refine ⟨_, by rw [Int.toNat_natCast]; exact hpc, ?_⟩
    rw [List.getElem_map]
    generalize hfe : gs[nf.length] = f at *
    have hfl := hD.lasts f hgD
    have hflen := hD.len f hgD
    have hcells : ∀ {w' : World}, ST w0 w' (dkE D E) → ∀ {i : Nat} {v : Value}, f.cells[i]? = some v → w'.cell? ⟨f.b, i, none⟩ = some v := fun {w'} S {i v} hv => by
      simp [World.cell?, (hok f hgD S).1, hv]
    have Sd12 := S12.sub (crI_dk D E gs nf fb cb lb (D.ln + crashN D dir) b10 om1 om2 (lastD D dir) ga gc)
    obtain ⟨hk1, hk2⟩ := keptN_le (keeps := keeps) (i := nf.length) hfl
    refine ⟨_, hcells Sd12 (i := 2) rfl, fun st w14 => ∃ (ka'' : Option Addr) (kc'' : Nat) (ks'' : List Int), st = [.slice ka'' ks''.length kc'', .int .i64 (keptN keeps nf.length f : Int)] ∧ ks'' = keeps.drop (nf.length + 1) ∧ ks''.length ≤ kc'' ∧ (∀ w', ST w0 w' (dkE D E) → Rd w' ka'' (ks''.map intI)) ∧
      ST w0 w14 (crI D E gs nf fb cb lb (D.ln + crashN D dir) b10 om1 om2 (lastD D dir) ga gc), ?_, ?_⟩
    · cases hksc : ks' with
      | nil =>
        have hge : keeps.length ≤ nf.length := by
          have := congrArg List.length (hks.symm.trans hksc)
          simp at this
          omega
        have hkn : keptN keeps nf.length f = f.lasts := by
          unfold keptN
          rw [List.getElem?_eq_none hge]
          rfl
        refine IFB_dec (fun h => absurd h (by simp)) (fun _ => ⟨ka', kc', [], by rw [hkn], ?_, Nat.zero_le _, fun w' _ => Rd.nil _ _, S12⟩)
        rw [List.drop_of_length_le (by omega)]
      | cons k0 ks1 =>
        refine IFB_dec (fun _ => ?_) (fun h => absurd (show (((k0 :: ks1).length : Nat) : Int) > 0 by simp only [List.length_cons]; omega) h)
        have hd : keeps.drop nf.length = k0 :: ks1 := hks.symm.trans hksc
        have hget : keeps[nf.length]? = some k0 := by
          have := congrArg (fun l => l[0]?) hd
          simpa using this
        have hdrop : keeps.drop (nf.length + 1) = ks1 := by
          rw [← List.drop_drop, hd]
          rfl
        have hkn : keptN keeps nf.length f = f.lasts + (clampI k0 ((f.data.length : Int) - (f.lasts : Int))).toNat := by
          unfold keptN
          rw [hget]
        have hc0 := clampI_lo k0 ((f.data.length : Int) - (f.lasts : Int))
        have hrdk := hk' w12.drew (Sd12.grown ((Below.refl _ w12).drew))
        rw [hksc] at hrdk
        obtain ⟨q, hq, hqc⟩ := hrdk 0 (intI k0) rfl
        have Sd13 : ST w0 w12.drew (dkE D E) := Sd12.grown ((Below.refl _ w12).drew)
        have S13 := S12.grown ((Below.refl _ w12).drew)
        have hlen1 : (k0 :: ks1).length = ks1.length + 1 := rfl
        rw [hksc] at hkc'
        refine ⟨⟨by omega, by rw [hlen1]; omega⟩, ?_⟩
        rw [hq]
        have ew1 : IntKind.i64.wrap ((f.data.length : Int) - (f.lasts : Int)) = (f.data.length : Int) - (f.lasts : Int) := wrap_i64 (by omega) (by omega)
        refine ⟨_, hqc, _, _, _, hcells Sd13 (i := 1) rfl, _, hcells Sd13 (i := 2) rfl, ⟨by omega, by rw [hlen1]; omega, by omega⟩, ?_⟩
        rw [ew1]
        have ew2 : IntKind.i64.wrap ((f.lasts : Int) + clampI k0 ((f.data.length : Int) - (f.lasts : Int))) = (keptN keeps nf.length f : Int) := by
          rw [wrap_i64 (by omega) (by have := clampI_hi k0 (hi := (f.data.length : Int) - (f.lasts : Int)) (by omega); omega), hkn]
          omega
        refine ⟨SLA (some q) 1 kc' 1, kc' - 1, ks1, ?_, hdrop.symm, ?_, fun w' S' => ?_, S13⟩
        · rw [← ew2, hlen1]
          rfl
        · rw [hlen1] at hkc'
          omega
        · have h := (hk' w' S')
          rw [hksc, hq] at h
          have h2 := h.sla 1 (ks1.length + 1) kc' 1 (by rw [hlen1] at hkc'; omega)
          have e : (((k0 :: ks1).map intI).drop (1 * 1)).take ((ks1.length + 1 - 1) * 1) = ks1.map intI := by
            simp [List.take_of_length_le]
          rw [e] at h2
          exact h2
    · rintro ka'' _ kc'' _ w14 ⟨_, _, ks'', hst, hks'', hkc'', hk'', S14⟩
      cases hst
      have hfst : nf.length + 1 < 9223372036854775807 := by omega
      have Sd14 := S14.sub (crI_dk D E gs nf fb cb lb (D.ln + crashN D dir) b10 om1 om2 (lastD D dir) ga gc)
      refine ⟨_, S14.cell 4 rfl rfl, ?_⟩
      rw [wrap_succ (by omega)]
      refine S14.sto 4 rfl (i := 1) (cs' := outC D.room (nf.length + 1) om1 om2) (by show 1 < 8; decide) rfl fun w15 S15 => ?_
      refine S15.draw fun w16 _ S16 => ?_
      have Sd16 : ST w0 w16 (dkE D E) := S16.sub (List.Sublist.cons _ (List.Sublist.cons _ (List.Sublist.cons _ (List.Sublist.cons _ (List.Sublist.cons _ (List.Sublist.cons _ (List.Sublist.cons _ (List.sublist_append_right _ _))))))))
      have hrow := (hok f hgD Sd16).2
      have hdc : f.data.length ≤ f.dc := by
        rcases hrow.2 with ⟨_, h1, h2⟩ | ⟨_, _, _, _, h, _⟩
        · omega
        · exact h
      refine ⟨_, S16.cell 4 rfl rfl, _, _, _, hcells Sd16 (i := 1) rfl, ⟨by omega, by omega, by omega⟩, ?_⟩
      have hlk : (f.data.take (keptN keeps nf.length f)).length = keptN keeps nf.length f := by rw [List.length_take]; omega
      have en : ((keptN keeps nf.length f : Int).toNat - 0) = (f.data.take (keptN keeps nf.length f)).length := by rw [hlk]; simp
      rw [en]
      have hrdf : Rd w16 (SLA f.da 0 f.dc 1) ((f.data.take (keptN keeps nf.length f)).map byteV) := by
        have h := hrow.rd.sla 0 (keptN keeps nf.length f) f.dc 1 (by omega)
        simp only [List.drop_zero, Nat.sub_zero, Nat.mul_one] at h
        rw [List.map_take]
        exact h
      refine (cloneB_ok S16 hrdf (by rw [hlk]; omega)).mono ?_
      rintro _ w17 ⟨_, rfl, a', c', rfl, S17⟩
      refine ⟨_, _, _, rfl, S17.cell 5 rfl rfl, S17.newB fun b54 w18 _ _ S18 => ?_⟩
      obtain ⟨jf, hj1, hj2⟩ := infoFile
      have Sd18 : ST w0 w18 (dkE D E) := (S18.drop 9).sub (List.sublist_append_right _ _)
      have hpk : ∀ g ∈ gs, PtrOk w18 g.b := fun g hg => ⟨_, _, (hok g ((hby.mem g).1 hg).1 Sd18).1⟩
      have hnk : f.b ∉ (prs gs nf).map (·.1) := fun hin => by
        obtain ⟨q, hq, e⟩ := List.mem_map.1 hin
        obtain ⟨g, hg, e2⟩ := prs_mem gs nf q hq
        obtain ⟨i, hi, rfl⟩ := List.mem_iff_getElem.1 hg
        have hi1 : i < nf.length := by simp at hi; omega
        rw [List.getElem_take] at e2
        have := (List.pairwise_iff_getElem.1 hgnd) i nf.length (by omega) hjl hi1
        rw [hfe] at this
        exact this (e2.symm.trans e)
      have S18 : ST w0 w18 (It.cells b54 (FileC.cells ⟨b54, nf.length + 1, a', c', f.data.take (keptN keeps nf.length f), keptN keeps nf.length f⟩) ty.disk_file :: bytesI a' c' (f.data.take (keptN keeps nf.length f)) :: It.mapQ fb (prs gs nf) :: It.row ty.P_disk_file 1 ga gs.length gc (gs.map fun f => ptrV f.b) :: It.cells cb #[.map (some lb)] ty.disk_names :: dirI lb (D.ln + crashN D dir) (lastD D dir) :: It.cells b10 (outC D.room (nf.length + 1) om1 om2) ty.disk_Disk :: dirI om2 0 (fun _ => none) :: dirI om1 0 (fun _ => none) :: (nf.flatMap FileC.its ++ dkE D E)) := S18
      refine S18.qput 2 rfl tFresh pFile hj1 hj2 (hpk f (hfe ▸ List.getElem_mem hjl)) (fun q hq => ?_) hnk fun w19 S19 => ?_
      · obtain ⟨g, hg, e⟩ := prs_mem gs nf q hq
        rw [e]
        exact hpk g (List.mem_of_mem_take hg)
      have hsn := prs_snoc gs nf ⟨b54, nf.length + 1, a', c', f.data.take (keptN keeps nf.length f), keptN keeps nf.length f⟩ hjl
      rw [hfe] at hsn
      have hln2 : (nf ++ [(⟨b54, nf.length + 1, a', c', f.data.take (keptN keeps nf.length f), keptN keeps nf.length f⟩ : FileC)]).length = nf.length + 1 := by simp
      refine ⟨⟨ka'', kc'', ks'', nf ++ [⟨b54, nf.length + 1, a', c', f.data.take (keptN keeps nf.length f), keptN keeps nf.length f⟩], by rw [hln2], by rw [hln2]; exact hks'', hkc'', hk'', hinv.snoc hjl rfl (by rw [hfe]) (by rw [hfe]), ?_⟩, by show gs.length - ((nf.length + 1 : Nat) : Int).toNat < gs.length - ((nf.length : Nat) : Int).toNat; simp only [Int.toNat_natCast]; omega⟩
      unfold crI
      rw [hsn, hln2, ← hpa]
      refine S19.perm ?_
      have ep : ∀ (A X Y Z : List It), (X ++ (A ++ (Y ++ Z))).Perm (A ++ ((Y ++ X) ++ Z)) := fun A X Y Z => by
        refine (List.perm_append_comm_assoc X A _).trans (List.Perm.append_left A ?_)
        rw [List.append_assoc]
        exact List.perm_append_comm_assoc X Y Z
      have := ep [It.mapQ fb (prs gs nf ++ [(f.b, b54)]), It.row ty.P_disk_file 1 ga gs.length gc (gs.map fun f => ptrV f.b), It.cells cb #[.map (some lb)] ty.disk_names, dirI lb (D.ln + crashN D dir) (lastD D dir), It.cells b10 (outC D.room (nf.length + 1) om1 om2) ty.disk_Disk, dirI om2 0 (fun _ => none), dirI om1 0 (fun _ => none)]
        (FileC.its ⟨b54, nf.length + 1, a', c', f.data.take (keptN keeps nf.length f), keptN keeps nf.length f⟩) (nf.flatMap FileC.its) (dkE D E)
      rw [List.flatMap_append, List.flatMap_singleton]
      exact this
  have hnl : nf.length = gs.length := by have := hinv.1; omega
  have hfind : ∀ x b, lastD D dir x = some b → ∃ i, ∃ (h : i < gs.length) (h' : i < nf.length), gs[i].b = b ∧ (prs gs nf).find? (fun p => p.1 == b) = some (b, nf[i].b) := fun x b hx => by
    obtain ⟨f, hf, e⟩ := hL x b hx
    have hfg : f ∈ gs := (hby.mem f).2 ⟨hf, x, by rw [e]; exact hx⟩
    obtain ⟨i, hi, hfi⟩ := List.mem_iff_getElem.1 hfg
    have hi' : i < nf.length := by omega
    have h := prs_find gs nf hgnd i hi hi'
    have e3 : gs[i].b = b := by rw [hfi]; exact e
    rw [e3] at h
    exact ⟨i, hi, hi', e3, h⟩
  refine S12.mrange 3 rfl und_str und_names fun r w20 ks hR hmem hnd hlen S20 => ⟨_, rfl, ?_⟩
  refine ⟨fun _ w21 => CrInv w0 D E gs nf fb cb lb (D.ln + crashN D dir) b10 om1 om2 (lastD D dir) ga gc r w21, fun _ w21 => w21.rangeLeft lb r, ⟨ks, 0, fun _ => none, hR, fun x => ?_, by omega, S20⟩, ?_⟩
  · split
    · rfl
    · next hx =>
      have : lastD D dir x = none := by
        cases hh : lastD D dir x with
        | none => rfl
        | some b => exact absurd ((hmem x).2 (by rw [hh]; rfl)) hx
      simp [dirP, this]
  rintro w21 ⟨ls, k, g, hR21, hg, hkl, S21⟩
  refine hR21.round und_str _ (fun h0 => ?_) fun x c w22 hx hc hxl K hR22 hltM hent => ?_
  · subst h0
    have hgd : g = dirP gs nf (lastD D dir) := by
      funext x
      rw [hg]
      simp
    have S22 : ST w0 w21 (It.cells b10 (outC D.room nf.length om1 om2) ty.disk_Disk :: dirI om2 k g :: dirI om1 k g :: (nf.flatMap FileC.its ++ dkE D E)) := S21.drop 5
    have S23 := (((S22.nil tyFn 1).pull 2 rfl).pull 3 rfl).pull 3 rfl
    have S24 : ST w0 w21 (dkE ⟨b10, D.room, nf.length, om1, k, g, om2, k, g, none, 0, [], false, false, 0, nf⟩ (dkE D E)) := S23
    have hkn : k ≤ D.ln + D.waits.length := by simp at hkl; omega
    refine ⟨gs, _, rfl, S24, ⟨hby, hnl, fun i h h' => hinv.2 i h h', fun x hx => ?_, fun x b hx => ?_, rfl, hnl, rfl, rfl, rfl, rfl, rfl, hkn, hkn, by omega⟩⟩
    · show g x = none
      rw [hgd]
      simp [dirP, hx]
    · obtain ⟨i, h, h', e, hf⟩ := hfind x b hx
      refine ⟨i, h, h', e, ?_⟩
      show g x = some _
      rw [hgd]
      simp [dirP, hx, hf]
  · obtain ⟨jf, hj1, hj2⟩ := infoFile
    obtain ⟨i, hi, hi', hib, hff⟩ := hfind x c hc
    generalize nf[i].b = c' at hff
    have S22 := ST.ranged S21 K hR22.lt.1
    have hlsnd : ls.Nodup := by obtain ⟨_, _, _, _, _, _, h, _⟩ := hR21; exact h
    unfold OPR
    rw [hent]
    refine ⟨_, _, rfl, S22.draw fun w25 B25 S25 => ?_⟩
    have hR25 := hR22.same (B25.block lb hR22.map.lt) (B25.block r hR22.lt.1)
    have hlt25 : w25.rangeLeft lb r < w21.rangeLeft lb r := by rw [rangeLeft_same (B25.block lb hR22.map.lt) (B25.block r hR22.lt.1)]; exact hltM
    have ol : w25.heap[lb]? = some (w25.heap[lb]'hR25.map.lt) := Array.getElem?_eq_getElem _
    have or : w25.heap[r]? = some (w25.heap[r]'hR25.lt.1) := Array.getElem?_eq_getElem _
    generalize w25.heap[lb]'hR25.map.lt = obl at ol
    generalize w25.heap[r]'hR25.lt.1 = obr at or
    have S26 : ST w0 w25 (crJ D E gs nf fb cb lb (D.ln + crashN D dir) b10 om1 om2 (lastD D dir) ga gc k g (It.obj r obr) (It.obj lb obl)) := (ST.freeze (ST.freeze S25 4 rfl rfl ol) 0 rfl rfl or)
    have hbs : bl (sof x) = x := bl_sof x
    have hsz : (sof x).size ≤ maxLen := by rw [← bl_length, hbs]; exact hxl
    have hkm : k < maxLen := Nat.lt_of_lt_of_le (show k < 1000000 by omega) (by decide)
    have fin : ∀ w31, ST w0 w31 (crJ D E gs nf fb cb lb (D.ln + crashN D dir) b10 om1 om2 (lastD D dir) ga gc (k + 1) (fun y => if y = bl (sof x) then some c' else g y) (It.obj r obr) (It.obj lb obl)) →
        CrInv w0 D E gs nf fb cb lb (D.ln + crashN D dir) b10 om1 om2 (lastD D dir) ga gc r w31 ∧ w31.rangeLeft lb r < w21.rangeLeft lb r := fun w31 S31 => by
      have er : w31.heap[r]? = w25.heap[r]? := (ST.get S31 0 rfl : w31.heap[r]? = some obr).trans or.symm
      have el : w31.heap[lb]? = w25.heap[lb]? := (ST.get S31 4 rfl : w31.heap[lb]? = some obl).trans ol.symm
      have hR31 := hR25.same el er
      have S32 := st_recast (st_recast S31 4 rfl (dirI lb (D.ln + crashN D dir) (lastD D dir)) hR31.map (fun k hk => hk)) 0 rfl (It.own r) hR31.lt.1 (fun k hk => hk)
      refine ⟨⟨ls.erase x, k + 1, _, hR31, fun y => ?_, ?_, S32⟩, by rw [rangeLeft_same el er]; exact hlt25⟩
      · rw [hbs]
        by_cases hy : y = x
        · subst hy
          rw [if_pos rfl, if_neg (by rw [hlsnd.mem_erase_iff]; simp)]
          simp [dirP, hc, hff]
        · rw [if_neg hy, hg]
          simp only [List.mem_erase_of_ne hy]
      · have := List.length_erase_of_mem hx
        have := List.length_pos_of_mem hx
        omega
    have lk : ∀ (w' : World) (a0 a4 a6 a7 : It), ST w0 w' (a0 :: It.mapQ fb (prs gs nf) :: It.row ty.P_disk_file 1 ga gs.length gc (gs.map fun f => ptrV f.b) :: It.cells cb #[.map (some lb)] ty.disk_names :: a4 :: It.cells b10 (outC D.room nf.length om1 om2) ty.disk_Disk :: a6 :: a7 :: (nf.flatMap FileC.its ++ dkE D E)) → ∀ f : Value → World → Prop, f (ptrV c') w' → OPR Tryz.prog (Instr.lookup ty.map_P_disk_file_P_disk_file (.map (some fb)) (ptrV c) false) f w' := fun w' a0 a4 a6 a7 S' f hf => by
      have Sd : ST w0 w' (dkE D E) := (S'.drop 8).sub (List.sublist_append_right _ _)
      have hpk : ∀ g ∈ gs, PtrOk w' g.b := fun g hg => ⟨_, _, (hok g ((hby.mem g).1 hg).1 Sd).1⟩
      refine S'.qget 1 rfl tFresh pFile hj1 hj2 (hib ▸ hpk _ (List.getElem_mem hi)) (fun q hq => ?_) hff hf
      obtain ⟨g, hg, e⟩ := prs_mem gs nf q hq
      rw [e]
      exact hpk g (List.mem_of_mem_take hg)
    have st2 : ∀ w' : World, ST w0 w' (It.obj r obr :: It.mapQ fb (prs gs nf) :: It.row ty.P_disk_file 1 ga gs.length gc (gs.map fun f => ptrV f.b) :: It.cells cb #[.map (some lb)] ty.disk_names :: It.obj lb obl :: It.cells b10 (outC D.room nf.length om1 om2) ty.disk_Disk :: dirI om2 k g :: dirI om1 (k + 1) (fun y => if y = bl (sof x) then some c' else g y) :: (nf.flatMap FileC.its ++ dkE D E)) → OPR Tryz.prog (Instr.mapEntry ty.disk_names (.map (some om2)) (.string (sof x))) (fun r_74 w30 => ∃ t0 : Value, ∃ t1 : Int, r_74 = .tuple #[t0, .int .i64 t1] ∧ OPU Tryz.prog (Instr.entryStore ty.disk_names (.map (some om2)) (.int .i64 t1) (ptrV c')) (fun w31 => CrInv w0 D E gs nf fb cb lb (D.ln + crashN D dir) b10 om1 om2 (lastD D dir) ga gc r w31 ∧ w31.rangeLeft lb r < w21.rangeLeft lb r) w30) w' := fun w' S' =>
      ST.eput S' 6 rfl und_str und_names zeroPtr hkm hsz c' fun v0 st w1 o1 S1 K => ⟨_, _, rfl, K _ _ 6 _ S1 rfl fun w3 S3 => fin w3 S3⟩
    have st1 : ∀ w' : World, ST w0 w' (crJ D E gs nf fb cb lb (D.ln + crashN D dir) b10 om1 om2 (lastD D dir) ga gc k g (It.obj r obr) (It.obj lb obl)) → OPR Tryz.prog (Instr.mapEntry ty.disk_names (.map (some om1)) (.string (sof x))) (fun r_71 w28 => ∃ t0 : Value, ∃ t1 : Int, r_71 = .tuple #[t0, .int .i64 t1] ∧ OPU Tryz.prog (Instr.entryStore ty.disk_names (.map (some om1)) (.int .i64 t1) (ptrV c')) (fun w29 => OPR Tryz.prog (Instr.mapEntry ty.disk_names (.map (some om2)) (.string (sof x))) (fun r_74 w30 => ∃ t0 : Value, ∃ t1 : Int, r_74 = .tuple #[t0, .int .i64 t1] ∧ OPU Tryz.prog (Instr.entryStore ty.disk_names (.map (some om2)) (.int .i64 t1) (ptrV c')) (fun w31 => CrInv w0 D E gs nf fb cb lb (D.ln + crashN D dir) b10 om1 om2 (lastD D dir) ga gc r w31 ∧ w31.rangeLeft lb r < w21.rangeLeft lb r) w30) w29) w28) w' := fun w' S' =>
      ST.eput S' 7 rfl und_str und_names zeroPtr hkm hsz c' fun v0 st w1 o1 S1 K => ⟨_, _, rfl, K _ _ 7 _ S1 rfl fun w3 S3 => st2 w3 S3⟩
    have st1c : ∀ w' : World, ST w0 w' (crJ D E gs nf fb cb lb (D.ln + crashN D dir) b10 om1 om2 (lastD D dir) ga gc k g (It.obj r obr) (It.obj lb obl)) → OPR Tryz.prog (Instr.mapEntry ty.disk_names (.map (some om1)) (.string (sof x))) (fun r_71 w28 => ∃ t0 : Value, ∃ t1 : Int, r_71 = .tuple #[t0, .int .i64 t1] ∧ OPR Tryz.prog (Instr.lookup ty.map_P_disk_file_P_disk_file (.map (some fb)) (ptrV c) false) (fun r_89 w39 => ∃ t135 : Option Addr, r_89 = .pointer t135 ∧ OPU Tryz.prog (Instr.entryStore ty.disk_names (.map (some om1)) (.int .i64 t1) (.pointer t135)) (fun w29 => OPR Tryz.prog (Instr.mapEntry ty.disk_names (.map (some om2)) (.string (sof x))) (fun r_74 w30 => ∃ t0 : Value, ∃ t1 : Int, r_74 = .tuple #[t0, .int .i64 t1] ∧ OPU Tryz.prog (Instr.entryStore ty.disk_names (.map (some om2)) (.int .i64 t1) (ptrV c')) (fun w31 => CrInv w0 D E gs nf fb cb lb (D.ln + crashN D dir) b10 om1 om2 (lastD D dir) ga gc r w31 ∧ w31.rangeLeft lb r < w21.rangeLeft lb r) w30) w29) w39) w28) w' := fun w' S' =>
      ST.eput S' 7 rfl und_str und_names zeroPtr hkm hsz c' fun v0 st w1 o1 S1 K => ⟨_, _, rfl, lk w1 _ _ _ _ S1 _ ⟨_, rfl, K _ _ 7 _ S1 rfl fun w3 S3 => st2 w3 S3⟩⟩
    have c2 : w25.cell? ⟨b10, 2, none⟩ = some (.map (some om1)) := ST.cell S26 5 rfl rfl
    have c3 : w25.cell? ⟨b10, 3, none⟩ = some (.map (some om2)) := ST.cell S26 5 rfl rfl
    exact ⟨_, c2, _, c3, lk w25 _ _ _ _ S26 _ ⟨_, rfl, c3, c2, lk w25 _ _ _ _ S26 _ ⟨_, rfl, c3, c2, st1 w25 S26⟩⟩, lk w25 _ _ _ _ S26 _ ⟨_, rfl, c3, c2, lk w25 _ _ _ _ S26 _ ⟨_, rfl, c3, c2, st1 w25 S26⟩, st1c w25 S26⟩⟩
end
theorem fileD_get {D : DiskC} (nd : NdF D.files) {i : Nat} (h : i < D.files.length) : fileD D D.files[i].b = some D.files[i] := by
  obtain ⟨f, hf⟩ := fileD_some (D := D) (b := D.files[i].b) ⟨_, List.getElem_mem h, rfl⟩
  obtain ⟨h1, h2⟩ := fileD_mem hf
  rw [hf, nd_inj nd h1 (List.getElem_mem h) h2]
theorem CrashR.ok {D D' : DiskC} {m : Nat} {dir : Int} {keeps : List Int} {gs : List FileC} (h : DiskOk D m) (nd : NdF D'.files) (hr : CrashR D dir keeps gs D') : DiskOk D' (2 * m) := by
  have hgD : ∀ f ∈ gs, f ∈ D.files := fun f hf => ((hr.by_num.mem f).1 hf).1
  have hI : InjD (lastD D dir) := h.inj _ (crashN_le D dir)
  have hdir : ∀ x b, D'.dir x = some b → ∃ c, lastD D dir x = some c ∧ ∃ i, ∃ (hi : i < gs.length) (hi' : i < D'.files.length), gs[i].b = c ∧ b = D'.files[i].b := fun x b hx => by
    cases hl : lastD D dir x with
    | none => rw [hr.noneF x hl] at hx; cases hx
    | some c =>
      obtain ⟨i, hi, hi', e1, e2⟩ := hr.someF x c hl
      rw [e2] at hx
      exact ⟨c, rfl, i, hi, hi', e1, (Option.some.inj hx).symm⟩
  have e0 : ∀ n, appAll D'.last (D'.waits.take n) = D'.dir := fun n => by rw [hr.waits, List.take_nil, hr.last]; rfl
  have hb1 := hr.dn
  have hb2 := hr.ln
  have hb3 := hr.gn
  have hln := h.ln
  have hwn := h.wn
  refine ⟨by rw [hr.room]; exact h.room, by rw [hr.made, hr.len], fun i hi => (hr.file i (by rw [← hr.len]; exact hi) hi).1, fun f hf => ?_, fun f hf => ?_, by have := e0 D'.waits.length; rwa [List.take_length] at this, fun n _ => ?_, fun n _ x b hx => ?_, fun c hc => by rw [hr.waits] at hc; simp at hc, by omega, by omega, by rw [hr.waits]; exact Nat.zero_le _, by rw [hr.len]; omega, by rw [hr.fuse]; omega, by rw [hr.fuse]; omega, fun n _ x b hx => ?_⟩
  · obtain ⟨i, hi, rfl⟩ := List.mem_iff_getElem.1 hf
    obtain ⟨_, h2, h3⟩ := hr.file i (by rw [← hr.len]; exact hi) hi
    rw [h2, h3, List.length_take]
    have := (keptN_le (keeps := keeps) (i := i) (h.lasts _ (hgD _ (List.getElem_mem (by rw [← hr.len]; exact hi))))).2
    omega
  · obtain ⟨i, hi, rfl⟩ := List.mem_iff_getElem.1 hf
    obtain ⟨_, h2, h3⟩ := hr.file i (by rw [← hr.len]; exact hi) hi
    rw [h2, List.length_take]
    have := h.len _ (hgD _ (List.getElem_mem (by rw [← hr.len]; exact hi)))
    omega
  · rw [e0]
    intro x y b hx hy
    obtain ⟨c, hc, i, hi, hi', e1, e2⟩ := hdir x b hx
    obtain ⟨d, hd, j, hj, hj', e3, e4⟩ := hdir y b hy
    have hij : i = j := by
      rcases Nat.lt_trichotomy i j with h1 | h1 | h1
      · exact absurd (e2.symm.trans e4) ((List.pairwise_iff_getElem.1 nd) i j hi' hj' h1)
      · exact h1
      · exact absurd (e4.symm.trans e2) ((List.pairwise_iff_getElem.1 nd) j i hj' hi' h1)
    subst hij
    exact hI x y c hc (by rw [hd, ← e3, e1])
  · rw [e0] at hx
    obtain ⟨c, hc, i, hi, hi', e1, e2⟩ := hdir x b hx
    exact ⟨_, List.getElem_mem hi', e2.symm⟩
  · rw [e0] at hx
    obtain ⟨c, hc, _⟩ := hdir x b hx
    exact h.nm _ (crashN_le D dir) x c hc
def nA : ByteArray := ⟨#[97]⟩
structure One (D : DiskC) (f : FileC) : Prop where
  off : D.off = false
  fused : D.fused = false
  room : D.room = 10
  dir : D.dir = fun y => if y = bl nA then some f.b else none
  files : D.files = [f]
abbrev NmR := ByteArray × Nat
section
variable {w0 w : World} {H : List It}
end
abbrev WtR := ByteArray × Nat × ByteArray
structure RefC where
  b : Nat
  room : Int
  la : Option Addr
  lc : Nat
  files : List NmR
  da : Option Addr
  dc : Nat
  dir : List NmR
  xa : Option Addr
  xl : Nat
  xc : Nat
  wa : Option Addr
  wc : Nat
  waits : List WtR
section
variable {w0 w : World} {G : RefC} {E H : List It} {m : Nat}
end
section
variable {w0 w : World} {G : RefC} {E H : List It} {m : Nat}
end
section
variable {w0 w : World} {G : RefC} {E H : List It} {m : Nat}
end
section
variable {D D' : DiskC} {e : Int}
end
section
variable {w0 w : World} {D : DiskC} {G : RefC} {E H : List It} {m : Nat}
end
section
variable {w0 w : World} {E H : List It} {m : Nat}
end
def nW : ByteArray := ⟨#[119, 97, 108]⟩
def nF : ByteArray := ⟨#[119, 97, 108, 46, 110, 101, 119]⟩
theorem name_nW : nameB nW = true := by decide
theorem name_nF : nameB nF = true := by decide
theorem nWF : bl nW ≠ bl nF := by decide
abbrev FileQ := Option (List UInt8) → Prop
def LeavesQ (D : DiskC) (o : Option Nat) (P : FileQ) : Prop := match o with
  | none => P none
  | some b => ∃ f, fileD D b = some f ∧ ∀ k, f.lasts ≤ k → k ≤ f.data.length → P (some (f.data.take k))
def CrashTo (D : DiskC) (P : FileQ) : Prop := ∀ n, n ≤ D.waits.length → LeavesQ D (appAll D.last (D.waits.take n) (bl nW)) P
def Two (g : DirA) : Prop := ∀ x b, g x = some b → x = bl nW ∨ x = bl nF
structure WDk (D : DiskC) (m B : Nat) : Prop where
  ok : DiskOk D m
  ln : D.ln + D.waits.length ≤ m
  two : ∀ n, n ≤ D.waits.length → Two (appAll D.last (D.waits.take n))
  len : ∀ f ∈ D.files, f.data.length ≤ B
def Cur (D : DiskC) (P : FileQ) : Prop := match D.dir (bl nW) with
  | none => P none
  | some b => ∃ f, fileD D b = some f ∧ P (some f.data) ∧ f.lasts = f.data.length
theorem WDk.mono {D : DiskC} {m B m' B' : Nat} (h : WDk D m B) (hm : m ≤ m') (hB : B ≤ B') : WDk D m' B' :=
  ⟨h.ok.mono hm, Nat.le_trans h.ln hm, h.two, fun f hf => Nat.le_trans (h.len f hf) hB⟩
theorem LeavesQ.mono {D : DiskC} {o : Option Nat} {P Q : FileQ} (h : LeavesQ D o P) (hp : ∀ x, P x → Q x) : LeavesQ D o Q := by
  cases o with
  | none => exact hp _ h
  | some b =>
    obtain ⟨f, h1, h2⟩ := h
    exact ⟨f, h1, fun k hk hk' => hp _ (h2 k hk hk')⟩
theorem CrashTo.mono {D : DiskC} {P Q : FileQ} (h : CrashTo D P) (hp : ∀ x, P x → Q x) : CrashTo D Q := fun n hn => (h n hn).mono hp
theorem WDk.twoD {D : DiskC} {m B : Nat} (h : WDk D m B) : Two D.dir := by
  have := h.two D.waits.length (Nat.le_refl _)
  rwa [List.take_length, h.ok.all] at this
theorem WDk.off {D : DiskC} {m B : Nat} (h : WDk D m B) : WDk { D with off := true } m B :=
  ⟨⟨h.ok.room, h.ok.made, h.ok.nums, h.ok.lasts, h.ok.len, h.ok.all, h.ok.inj, h.ok.has, h.ok.small, h.ok.dn, h.ok.ln, h.ok.wn, h.ok.fn, h.ok.fuseLo, h.ok.fuseHi, h.ok.nm⟩, h.ln, h.two, h.len⟩
theorem CrashTo.off {D : DiskC} {P : FileQ} (h : CrashTo D P) : CrashTo { D with off := true } P := h
theorem WDk.left {D : DiskC} {m B : Nat} (h : WDk D m B) : (D.room : Int) - 2 * (B : Int) ≤ leftD D := by
  have two := h.twoD
  have hd : ∀ x, (dataD D x).length ≤ B := fun x => by
    unfold dataD
    split
    · simp
    · split
      · simp
      · next f hf => exact h.len f (fileD_mem hf).1
  have hk : Dom D.dir ([bl nW, bl nF].filter fun x => (D.dir x).isSome) := by
    refine ⟨List.Nodup.sublist (List.filter_sublist ..) (by decide), fun x => ?_⟩
    rw [List.mem_filter]
    refine ⟨fun h => h.2, fun hx => ⟨?_, hx⟩⟩
    obtain ⟨b, hb⟩ := Option.isSome_iff_exists.1 hx
    rcases two x b hb with rfl | rfl <;> simp
  rw [leftD_eq hk]
  have : ∀ ks : List (List UInt8), sumD D ks ≤ ks.length * B := fun ks => by
    induction ks with
    | nil => simp [sumD]
    | cons x ks ih =>
      have := hd x
      rw [sumD_cons, List.length_cons, Nat.add_mul]
      omega
  have h1 := this ([bl nW, bl nF].filter fun x => (D.dir x).isSome)
  have h2 : ([bl nW, bl nF].filter fun x => (D.dir x).isSome).length ≤ 2 := List.length_filter_le _ _
  have h3 : ([bl nW, bl nF].filter fun x => (D.dir x).isSome).length * B ≤ 2 * B := Nat.mul_le_mul_right _ h2
  omega
theorem named_of {D : DiskC} (hoff : D.off = false) {s : ByteArray} (hs : nameB s = true) : namedE D s = match D.dir (bl s) with
    | none => (none, 180)
    | some b => (some b, 0) := by
  unfold namedE
  have : liveE D.off [s] = 0 := by rw [hoff]; unfold liveE; simp [hs]
  rw [this]
  simp only [ne_eq, not_true_eq_false, if_false]
  cases D.dir (bl s) <;> rfl
theorem fileD_upd {D D' : DiskC} {pre post : List FileC} {f g : FileC} (nd : NdF D.files) (hf : D.files = pre ++ f :: post) (hf' : D'.files = pre ++ g :: post) (hb : g.b = f.b) (b : Nat) : fileD D' b = if b = f.b then some g else fileD D b := by
  have nd' : NdF D'.files := by
    rw [hf'] 
    rw [hf] at nd
    unfold NdF at *
    rw [List.pairwise_append, List.pairwise_cons] at *
    rw [hb]
    exact ⟨nd.1, nd.2.1, fun a ha c hc => by
      rcases List.mem_cons.1 hc with rfl | hc
      · rw [hb]; exact nd.2.2 a ha f (by simp)
      · exact nd.2.2 a ha c (by simp [hc])⟩
  by_cases h : b = f.b
  · rw [if_pos h, h, ← hb]
    exact fileD_of nd' hf'
  · rw [if_neg h]
    have h1 : (g.b == b) = false := by rw [hb]; simpa using fun e => h e.symm
    have h2 : (f.b == b) = false := by simpa using fun e => h e.symm
    unfold fileD
    rw [hf, hf', List.find?_append, List.find?_append, List.find?_cons, List.find?_cons, h1, h2]
theorem fileD_app {D D' : DiskC} {g : FileC} (hf : D'.files = D.files ++ [g]) {b : Nat} {f : FileC} (h : fileD D b = some f) : fileD D' b = some f := by
  unfold fileD at *
  rw [hf, List.find?_append, h]
  rfl
structure WQ (D : DiskC) (m B : Nat) (X : Option (List UInt8)) : Prop where
  wd : WDk D m B
  off : D.off = false
  same : ∀ n, n ≤ D.waits.length → appAll D.last (D.waits.take n) (bl nW) = D.dir (bl nW)
  cur : Cur D (· = X)
theorem Cur.leaves {D : DiskC} {P : FileQ} (h : Cur D P) : LeavesQ D (D.dir (bl nW)) P := by
  unfold Cur at h
  cases hd : D.dir (bl nW) with
  | none => rw [hd] at h; exact h
  | some b =>
    rw [hd] at h
    obtain ⟨f, h1, h2, h3⟩ := h
    exact ⟨f, h1, fun k hk _ => by rw [List.take_of_length_le (by omega)]; exact h2⟩
theorem WQ.crash {D : DiskC} {m B : Nat} {X : Option (List UInt8)} (h : WQ D m B X) : CrashTo D (· = X) := fun n hn => by
  rw [h.same n hn]
  exact h.cur.leaves
theorem WQ.mono {D : DiskC} {m B m' B' : Nat} {X : Option (List UInt8)} (h : WQ D m B X) (hm : m ≤ m') (hB : B ≤ B') : WQ D m' B' X := ⟨h.wd.mono hm hB, h.off, h.same, h.cur⟩
theorem CrashTo.crash {D D' : DiskC} {m B : Nat} {P : FileQ} {dir : Int} {keeps : List Int} {gs : List FileC} (h : WDk D m B) (nd : NdF D.files) (nd' : NdF D'.files) (hc : CrashTo D P) (hr : CrashR D dir keeps gs D') :
    ∃ X, P X ∧ WQ D' m B X ∧ D'.fused = false ∧ D'.room = D.room := by
  have hgD : ∀ f ∈ gs, f ∈ D.files := fun f hf => ((hr.by_num.mem f).1 hf).1
  have hn := crashN_le D dir
  have ok2 := CrashR.ok h.ok nd' hr
  have hln := h.ln
  have e1 := hr.dn
  have e2 := hr.ln
  have e3 := hr.gn
  have okD : DiskOk D' m := ⟨ok2.room, ok2.made, ok2.nums, ok2.lasts, ok2.len, ok2.all, ok2.inj, ok2.has, ok2.small, by omega, by omega, by rw [hr.waits]; exact Nat.zero_le _, by rw [hr.len]; omega, by rw [hr.fuse]; omega, ok2.fuseHi, ok2.nm⟩
  have a0 : ∀ n, appAll D'.last (D'.waits.take n) = D'.dir := fun n => by rw [hr.waits, List.take_nil, hr.last]; rfl
  have wd : WDk D' m B := by
    refine ⟨okD, by rw [hr.waits]; simp only [List.length_nil]; omega, fun n _ => ?_, fun f hf => ?_⟩
    · rw [a0]
      intro x b hx
      cases hl : lastD D dir x with
      | none => rw [hr.noneF x hl] at hx; cases hx
      | some c => exact h.two _ hn x c hl
    · obtain ⟨i, hi, rfl⟩ := List.mem_iff_getElem.1 hf
      have hi' : i < gs.length := by rw [← hr.len]; exact hi
      rw [(hr.file i hi' hi).2.1, List.length_take]
      have := h.len _ (hgD _ (List.getElem_mem hi'))
      omega
  have hW := hc _ hn
  have hlast : appAll D.last (D.waits.take (crashN D dir)) (bl nW) = lastD D dir (bl nW) := rfl
  rw [hlast] at hW
  cases hl : lastD D dir (bl nW) with
  | none =>
    rw [hl] at hW
    have hdir := hr.noneF _ hl
    refine ⟨none, hW, ⟨wd, hr.off, fun n _ => by rw [a0], ?_⟩, hr.fused, hr.room⟩
    unfold Cur
    rw [hdir]
  | some b =>
    rw [hl] at hW
    obtain ⟨f, hf, hk⟩ := hW
    obtain ⟨i, hi, hi', e4, e5⟩ := hr.someF _ _ hl
    have hfg : gs[i] = f := by
      obtain ⟨h1, h2⟩ := fileD_mem hf
      exact nd_inj nd (hgD _ (List.getElem_mem hi)) h1 (e4.trans h2.symm)
    obtain ⟨_, d2, d3⟩ := hr.file i hi hi'
    rw [hfg] at d2 d3
    have hle := keptN_le (keeps := keeps) (i := i) (h.ok.lasts f (fileD_mem hf).1)
    have hfile := fileD_get nd' hi'
    have hall : D'.files[i].lasts = D'.files[i].data.length := by rw [d2, d3, List.length_take]; omega
    refine ⟨some (f.data.take (keptN keeps i f)), hk _ hle.1 hle.2, ⟨wd, hr.off, fun n _ => by rw [a0], ?_⟩, hr.fused, hr.room⟩
    unfold Cur
    rw [e5]
    exact ⟨_, hfile, congrArg some d2, hall⟩
structure Sam (D D' : DiskC) : Prop where
  b : D'.b = D.b
  room : D'.room = D.room
  fused : D'.fused = D.fused
theorem Sam.refl (D : DiskC) : Sam D D := ⟨rfl, rfl, rfl⟩
theorem Sam.trans {D D' D2 : DiskC} (h : Sam D D') (h' : Sam D' D2) : Sam D D2 := ⟨h'.b.trans h.b, h'.room.trans h.room, h'.fused.trans h.fused⟩
theorem StepE.split {D D' : DiskC} {e pre : Int} {ok : DiskC → Prop} (h : StepE D e D' pre ok) (hp : pre = 0) : (D.fused = true ∧ e = 183 ∧ D' = { D with off := true }) ∨ (e = 0 ∧ ok D') := by
  rcases h with ⟨h1, _⟩ | ⟨_, h1, h2, h3⟩ | ⟨_, _, h1, h2⟩
  · exact absurd hp h1
  · exact .inl ⟨h1.1, h2, h3⟩
  · exact .inr ⟨h1, h2⟩
section
variable {D D' : DiskC} {m B : Nat} {X : Option (List UInt8)} {e : Int}
theorem live1_of (hoff : D.off = false) {s : ByteArray} (hs : nameB s = true) : liveE D.off [s] = 0 := by rw [hoff]; unfold liveE; simp [hs]
theorem push_take {c : ChgC} (hl : D'.last = D.last) (hw : D'.waits = D.waits ++ [c]) (h : DiskOk D m) {n : Nat} (hn : n ≤ D'.waits.length) :
    (n ≤ D.waits.length ∧ appAll D'.last (D'.waits.take n) = appAll D.last (D.waits.take n)) ∨ appAll D'.last (D'.waits.take n) = c.app D.dir := by
  rw [hl, hw]
  rw [hw, List.length_append, List.length_singleton] at hn
  by_cases h1 : n ≤ D.waits.length
  · exact .inl ⟨h1, by rw [List.take_append_of_le_length h1]⟩
  · refine .inr ?_
    rw [List.take_of_length_le (by simp; omega), appAll_snoc, h.all]
theorem create_app {g : DirA} {x : List UInt8} {b1 b2 b : Nat} {s : ByteArray} (h : x ≠ bl s) : (ChgC.create b1 b2 s b).app g x = g x := by simp only [ChgC.app, if_neg h]
theorem remove_app {g : DirA} {x : List UInt8} {b1 : Nat} {s : ByteArray} (h : x ≠ bl s) : (ChgC.remove b1 s).app g x = g x := by simp only [ChgC.app, if_neg h]
structure FrS (D : DiskC) (m B : Nat) (X : Option (List UInt8)) (b : Nat) (data : List UInt8) (ls : Nat) : Prop where
  q : WQ D m B X
  at_ : D.dir (bl nF) = some b
  file : ∃ f, fileD D b = some f ∧ f.data = data ∧ f.lasts = ls
  aside : D.dir (bl nW) ≠ some b
theorem Cur.app {P : FileQ} (h : Cur D P) (hd : D'.dir (bl nW) = D.dir (bl nW)) {g : FileC} (hf : D'.files = D.files ++ [g]) : Cur D' P := by
  unfold Cur at *
  rw [hd]
  cases hx : D.dir (bl nW) with
  | none => rw [hx] at h; exact h
  | some b =>
    rw [hx] at h
    obtain ⟨f, h1, h2⟩ := h
    exact ⟨f, fileD_app hf h1, h2⟩
theorem create_fr (h : WQ D m B X) (nd' : NdF D'.files) (hr : CreateR D nF e D') : (D.fused = true ∧ e = 183 ∧ D' = { D with off := true }) ∨ (e = 0 ∧ Sam D D' ∧ ∃ b, FrS D' (m + 2) B X b [] 0) := by
  have okD := CreateR.ok h.wd.ok hr nd'
  rcases StepE.split hr (live1_of h.off name_nF) with h1 | ⟨he, b1, b2, b, wa, wc, rfl⟩
  · exact .inl h1
  refine .inr ⟨he, ⟨rfl, rfl, rfl⟩, b, ?_⟩
  have hW : (ChgC.create b1 b2 nF b).app D.dir (bl nW) = D.dir (bl nW) := create_app nWF
  have hln := h.wd.ln
  have hfile : ∀ c f, fileD D c = some f → f.b ≠ b := fun c f hf e => by
    have hm := (fileD_mem hf).1
    exact (List.pairwise_append.1 nd').2.2 f hm ⟨b, D.made + 1, none, 0, [], 0⟩ (by simp) e
  refine ⟨⟨⟨okD, ?_, fun n hn => ?_, fun f hf => ?_⟩, h.off, fun n hn => ?_, h.cur.app hW rfl⟩, (by show (ChgC.create b1 b2 nF b).app D.dir (bl nF) = some b; simp only [ChgC.app, if_true]), ⟨⟨b, D.made + 1, none, 0, [], 0⟩, ?_, rfl, rfl⟩, ?_⟩
  · show D.ln + (D.waits ++ [_]).length ≤ m + 2
    rw [List.length_append, List.length_singleton]
    omega
  · rcases push_take (D := D) (D' := { D with made := D.made + 1, fuse := D.fuse - 1, dir := (ChgC.create b1 b2 nF b).app D.dir, dn := D.dn + 1, waits := D.waits ++ [.create b1 b2 nF b], wa := wa, wc := wc, files := D.files ++ [⟨b, D.made + 1, none, 0, [], 0⟩] }) rfl rfl h.wd.ok hn with ⟨h1, h2⟩ | h2
    · rw [h2]; exact h.wd.two n h1
    · rw [h2]
      intro x c hx
      by_cases hxn : x = bl nF
      · exact .inr hxn
      · rw [create_app hxn] at hx
        exact h.wd.twoD x c hx
  · rcases List.mem_append.1 (show f ∈ D.files ++ [_] from hf) with h1 | h1
    · exact h.wd.len f h1
    · rw [List.mem_singleton.1 h1]; exact Nat.zero_le _
  · rcases push_take (D := D) (D' := { D with made := D.made + 1, fuse := D.fuse - 1, dir := (ChgC.create b1 b2 nF b).app D.dir, dn := D.dn + 1, waits := D.waits ++ [.create b1 b2 nF b], wa := wa, wc := wc, files := D.files ++ [⟨b, D.made + 1, none, 0, [], 0⟩] }) rfl rfl h.wd.ok hn with ⟨h1, h2⟩ | h2
    · rw [h2]
      exact (h.same n h1).trans hW.symm
    · rw [h2]
  · exact fileD_of nd' (post := []) rfl
  · show (ChgC.create b1 b2 nF b).app D.dir (bl nW) ≠ some b
    rw [hW]
    intro hx
    obtain ⟨f, hf⟩ := fileD_some (h.wd.ok.hasD hx)
    exact hfile _ f hf (fileD_mem hf).2
theorem FrS.filed {b : Nat} {data : List UInt8} {ls : Nat} (h : FrS D m B X b data ls) (nd : NdF D.files) {pre post : List FileC} {f g : FileC} (hf : D.files = pre ++ f :: post) (hd : D.dir (bl nF) = some f.b) (hb : g.b = f.b)
    (okD : DiskOk { D with fuse := D.fuse - 1, files := pre ++ g :: post } (m + 2)) (hB : g.data.length ≤ B) : FrS { D with fuse := D.fuse - 1, files := pre ++ g :: post } (m + 2) B X b g.data g.lasts := by
  have hfb : f.b = b := Option.some.inj (hd.symm.trans h.at_)
  have hup := fileD_upd (D' := { D with fuse := D.fuse - 1, files := pre ++ g :: post }) nd hf rfl hb
  have hln := h.q.wd.ln
  refine ⟨⟨⟨okD, by show D.ln + D.waits.length ≤ m + 2; omega, h.q.wd.two, fun x hx => ?_⟩, h.q.off, h.q.same, ?_⟩, h.at_, ⟨g, ?_, rfl, rfl⟩, h.aside⟩
  · rcases List.mem_append.1 (show x ∈ pre ++ g :: post from hx) with h1 | h1
    · exact h.q.wd.len x (by rw [hf]; simp [h1])
    · rcases List.mem_cons.1 h1 with rfl | h1
      · exact hB
      · exact h.q.wd.len x (by rw [hf]; simp [h1])
  · have hc := h.q.cur
    unfold Cur at hc ⊢
    show match D.dir (bl nW) with | none => _ | some b => _
    cases hx : D.dir (bl nW) with
    | none => rw [hx] at hc; exact hc
    | some c =>
      rw [hx] at hc
      obtain ⟨f', h1, h2⟩ := hc
      refine ⟨f', ?_, h2⟩
      rw [hup, if_neg (by rw [hfb]; intro e; rw [e] at hx; exact h.aside hx)]
      exact h1
  · rw [hup, if_pos hfb.symm]
theorem FrS.mono {b : Nat} {data : List UInt8} {ls m' B' : Nat} (h : FrS D m B X b data ls) (hm : m ≤ m') (hB : B ≤ B') : FrS D m' B' X b data ls := ⟨h.q.mono hm hB, h.at_, h.file, h.aside⟩
theorem append_fr {b : Nat} {data : List UInt8} {ls : Nat} (h : FrS D m B X b data ls) (nd : NdF D.files) {r : ByteArray} (hB : data.length + r.size ≤ B) (hr : AppendR D nF r e D') :
    (e = 181 ∧ D' = D ∧ leftD D < r.size) ∨ (D.fused = true ∧ e = 183 ∧ D' = { D with off := true }) ∨ (e = 0 ∧ Sam D D' ∧ FrS D' (m + 2) B X b (data ++ bl r) ls) := by
  have okD := AppendR.ok h.q.wd.ok nd hr
  have hn : namedE D nF = (some b, 0) := by rw [named_of h.q.off name_nF, h.at_]
  by_cases hl : (r.size : Int) ≤ leftD D
  · have hpre : appendPre D nF r = 0 := by
      unfold appendPre
      rw [hn]
      simp only [ne_eq, not_true_eq_false, if_false]
      rw [if_neg (by omega)]
    rcases StepE.split hr hpre with h1 | ⟨he, pre, f, post, da, dc, hf, hd, rfl⟩
    · exact .inr (.inl h1)
    refine .inr (.inr ⟨he, ⟨rfl, rfl, rfl⟩, ?_⟩)
    obtain ⟨f', h1, h2, h3⟩ := h.file
    have hff : f' = f := by
      have e1 := fileD_of nd hf
      have e2 : f.b = b := Option.some.inj (hd.symm.trans h.at_)
      rw [e2, h1] at e1
      exact Option.some.inj e1
    subst hff
    have := h.filed nd (g := { f' with data := f'.data ++ bl r, da := da, dc := dc }) hf hd rfl okD (by rw [List.length_append, bl_length, h2]; exact hB)
    rw [← h2, ← h3]
    exact this
  · refine .inl ?_
    have hpre : appendPre D nF r = 181 := by
      unfold appendPre
      rw [hn]
      simp only [ne_eq, not_true_eq_false, if_false]
      rw [if_pos (by omega)]
    rcases hr with ⟨_, h1, h2⟩ | ⟨h0, _⟩ | ⟨h0, _⟩
    · exact ⟨h1.trans hpre, h2, by omega⟩
    · rw [hpre] at h0; cases h0
    · rw [hpre] at h0; cases h0
theorem sync_fr {b : Nat} {data : List UInt8} {ls : Nat} (h : FrS D m B X b data ls) (nd : NdF D.files) (hr : SyncR D nF e D') :
    (D.fused = true ∧ e = 183 ∧ D' = { D with off := true }) ∨ (e = 0 ∧ Sam D D' ∧ FrS D' (m + 2) B X b data data.length) := by
  have okD := SyncR.ok h.q.wd.ok hr
  have hn : namedE D nF = (some b, 0) := by rw [named_of h.q.off name_nF, h.at_]
  rcases StepE.split hr (by rw [hn]) with h1 | ⟨he, pre, f, post, hf, hd, rfl⟩
  · exact .inl h1
  refine .inr ⟨he, ⟨rfl, rfl, rfl⟩, ?_⟩
  obtain ⟨f', h1, h2, h3⟩ := h.file
  have hff : f' = f := by
    have e1 := fileD_of nd hf
    have e2 : f.b = b := Option.some.inj (hd.symm.trans h.at_)
    rw [e2, h1] at e1
    exact Option.some.inj e1
  subst hff
  have := h.filed nd (g := { f' with lasts := f'.data.length }) hf hd rfl okD (h.q.wd.len f' (fileD_mem h1).1)
  rw [← h2]
  exact this
structure ReN (D : DiskC) (m B : Nat) (X : Option (List UInt8)) (b : Nat) (data : List UInt8) : Prop where
  wd : WDk D m B
  off : D.off = false
  crash : CrashTo D fun Y => Y = X ∨ Y = some data
  at_ : D.dir (bl nW) = some b
  file : ∃ f, fileD D b = some f ∧ f.data = data ∧ f.lasts = data.length
theorem rename_fr {b : Nat} {data : List UInt8} (h : FrS D m B X b data data.length) (hr : RenameR D nF nW e D') :
    (D.fused = true ∧ e = 183 ∧ D' = { D with off := true }) ∨ (e = 0 ∧ Sam D D' ∧ ReN D' (m + 2) B X b data) := by
  have okD := RenameR.ok h.q.wd.ok hr
  have hn : namedE D nF = (some b, 0) := by rw [named_of h.q.off name_nF, h.at_]
  have hpre : renamePre D nF nW = 0 := by
    unfold renamePre
    rw [show liveE D.off [nF, nW] = 0 by rw [h.q.off]; unfold liveE; simp [name_nF, name_nW], hn]
    rfl
  rcases StepE.split hr hpre with h1 | ⟨he, b1, b2, b3, f, wa, wc, hf, rfl⟩
  · exact .inl h1
  obtain rfl : f = b := Option.some.inj (hf.symm.trans h.at_)
  have hln := h.q.wd.ln
  obtain ⟨f', h1, h2, h3⟩ := h.file
  have hW : (ChgC.rename b1 b2 b3 nF nW f).app D.dir (bl nW) = some f := by simp only [ChgC.app, if_true]
  have pt : ∀ {n : Nat}, n ≤ (D.waits ++ [ChgC.rename b1 b2 b3 nF nW f]).length → (n ≤ D.waits.length ∧ appAll D.last ((D.waits ++ [ChgC.rename b1 b2 b3 nF nW f]).take n) = appAll D.last (D.waits.take n)) ∨ appAll D.last ((D.waits ++ [ChgC.rename b1 b2 b3 nF nW f]).take n) = (ChgC.rename b1 b2 b3 nF nW f).app D.dir := fun {n} hn => push_take (D := D) (D' := turned D (.rename b1 b2 b3 nF nW f) wa wc) rfl rfl h.q.wd.ok hn
  refine .inr ⟨he, ⟨rfl, rfl, rfl⟩, ⟨⟨okD, ?_, fun n hn => ?_, h.q.wd.len⟩, h.q.off, fun n hn => ?_, hW, f', h1, h2, h3⟩⟩
  · show D.ln + (D.waits ++ [_]).length ≤ m + 2
    rw [List.length_append, List.length_singleton]
    omega
  · rcases pt hn with ⟨g1, g2⟩ | g2
    · show Two (appAll D.last ((D.waits ++ [_]).take n))
      rw [g2]
      exact h.q.wd.two n g1
    · show Two (appAll D.last ((D.waits ++ [_]).take n))
      rw [g2]
      intro x c hx
      by_cases hxn : x = bl nW
      · exact .inl hxn
      · simp only [ChgC.app, if_neg hxn] at hx
        split at hx
        · cases hx
        · exact h.q.wd.twoD x c hx
  · show LeavesQ D (appAll D.last ((D.waits ++ [_]).take n) (bl nW)) (fun Y => Y = X ∨ Y = some data)
    rcases pt hn with ⟨g1, g2⟩ | g2
    · rw [g2]
      exact LeavesQ.mono (h.q.crash n g1) fun x hx => .inl hx
    · rw [g2, hW]
      exact ⟨f', h1, fun k hk _ => .inr (by rw [List.take_of_length_le (by rw [h2]; omega), h2])⟩
theorem dir_fr {b : Nat} {data : List UInt8} (h : ReN D m B X b data) (hr : DirR D e D') :
    (D.fused = true ∧ e = 183 ∧ D' = { D with off := true }) ∨ (e = 0 ∧ Sam D D' ∧ WQ D' (m + 2) B (some data)) := by
  have okD := DirR.ok h.wd.ok hr
  rcases StepE.split hr (by rw [h.off]; rfl) with h1 | ⟨he, lb, rfl⟩
  · exact .inl h1
  have hdn := h.wd.ok.dn
  refine .inr ⟨he, ⟨rfl, rfl, rfl⟩, ⟨⟨okD, by show D.dn + 0 ≤ m + 2; omega, fun n _ => ?_, h.wd.len⟩, h.off, fun n _ => ?_, ?_⟩⟩
  · show Two (appAll D.dir (([] : List ChgC).take n))
    rw [List.take_nil]
    exact h.wd.twoD
  · show appAll D.dir (([] : List ChgC).take n) (bl nW) = _
    rw [List.take_nil]
    rfl
  · unfold Cur
    show match D.dir (bl nW) with | none => _ | some b => _
    rw [h.at_]
    obtain ⟨f, h1, h2, h3⟩ := h.file
    exact ⟨f, h1, congrArg some h2, by rw [h3, h2]⟩
theorem remove_fr {b : Nat} {data : List UInt8} {ls : Nat} (h : FrS D m B X b data ls) (hr : RemoveR D nF e D') :
    (D.fused = true ∧ e = 183 ∧ D' = { D with off := true }) ∨ (e = 0 ∧ Sam D D' ∧ WQ D' (m + 2) B X) := by
  have okD := RemoveR.ok h.q.wd.ok hr
  have hn : namedE D nF = (some b, 0) := by rw [named_of h.q.off name_nF, h.at_]
  rcases StepE.split hr (by rw [hn]) with h1 | ⟨he, b1, wa, wc, rfl⟩
  · exact .inl h1
  have hln := h.q.wd.ln
  have hW : (ChgC.remove b1 nF).app D.dir (bl nW) = D.dir (bl nW) := remove_app nWF
  have pt : ∀ {n : Nat}, n ≤ (D.waits ++ [ChgC.remove b1 nF]).length → (n ≤ D.waits.length ∧ appAll D.last ((D.waits ++ [ChgC.remove b1 nF]).take n) = appAll D.last (D.waits.take n)) ∨ appAll D.last ((D.waits ++ [ChgC.remove b1 nF]).take n) = (ChgC.remove b1 nF).app D.dir := fun {n} hn => push_take (D := D) (D' := turned D (.remove b1 nF) wa wc) rfl rfl h.q.wd.ok hn
  refine .inr ⟨he, ⟨rfl, rfl, rfl⟩, ⟨⟨okD, ?_, fun n hn => ?_, h.q.wd.len⟩, h.q.off, fun n hn => ?_, ?_⟩⟩
  · show D.ln + (D.waits ++ [_]).length ≤ m + 2
    rw [List.length_append, List.length_singleton]
    omega
  · show Two (appAll D.last ((D.waits ++ [_]).take n))
    rcases pt hn with ⟨g1, g2⟩ | g2
    · rw [g2]
      exact h.q.wd.two n g1
    · rw [g2]
      intro x c hx
      by_cases hxn : x = bl nF
      · exact .inr hxn
      · simp only [ChgC.app, if_neg hxn] at hx
        exact h.q.wd.twoD x c hx
  · show appAll D.last ((D.waits ++ [_]).take n) (bl nW) = (ChgC.remove b1 nF).app D.dir (bl nW)
    rw [hW]
    rcases pt hn with ⟨g1, g2⟩ | g2
    · rw [g2]
      exact h.q.same n g1
    · rw [g2, hW]
  · have hc := h.q.cur
    unfold Cur at hc ⊢
    show match (ChgC.remove b1 nF).app D.dir (bl nW) with | none => _ | some b => _
    rw [hW]
    exact hc
theorem append_wal {Y : List UInt8} (h : WQ D m B (some Y)) (nd : NdF D.files) {r : ByteArray} (hB : Y.length + r.size ≤ B) (hr : AppendR D nW r e D') :
    (e = 181 ∧ D' = D ∧ leftD D < r.size) ∨ (D.fused = true ∧ e = 183 ∧ D' = { D with off := true }) ∨
      (e = 0 ∧ Sam D D' ∧ WDk D' (m + 2) B ∧ D'.off = false ∧ ∃ f, D'.dir (bl nW) = some f.b ∧ fileD D' f.b = some f ∧ f.data = Y ++ bl r ∧ f.lasts = Y.length ∧ ∀ n, n ≤ D'.waits.length → appAll D'.last (D'.waits.take n) (bl nW) = D'.dir (bl nW)) := by
  have okD := AppendR.ok h.wd.ok nd hr
  have hc := h.cur
  unfold Cur at hc
  cases hx : D.dir (bl nW) with
  | none => rw [hx] at hc; cases hc
  | some b =>
  rw [hx] at hc
  obtain ⟨f', h1, h2, h3⟩ := hc
  have h2 : f'.data = Y := Option.some.inj h2
  have hn : namedE D nW = (some b, 0) := by rw [named_of h.off name_nW, hx]
  by_cases hl : (r.size : Int) ≤ leftD D
  · have hpre : appendPre D nW r = 0 := by
      unfold appendPre
      rw [hn]
      simp only [ne_eq, not_true_eq_false, if_false]
      rw [if_neg (by omega)]
    rcases StepE.split hr hpre with h1 | ⟨he, pre, f, post, da, dc, hf, hd, rfl⟩
    · exact .inr (.inl h1)
    refine .inr (.inr ⟨he, ⟨rfl, rfl, rfl⟩, ?_⟩)
    have hfb : f.b = b := Option.some.inj (hd.symm.trans hx)
    have hff : f' = f := by
      have e1 := fileD_of nd hf
      rw [hfb, h1] at e1
      exact Option.some.inj e1
    subst hff
    have hln := h.wd.ln
    refine ⟨⟨okD, by show D.ln + D.waits.length ≤ m + 2; omega, h.wd.two, fun x hx => ?_⟩, h.off, { f' with data := f'.data ++ bl r, da := da, dc := dc }, hd, ?_, by rw [h2], by show f'.lasts = _; rw [h3, h2], h.same⟩
    · rcases List.mem_append.1 (show x ∈ pre ++ _ :: post from hx) with h1 | h1
      · exact h.wd.len x (by rw [hf]; simp [h1])
      · rcases List.mem_cons.1 h1 with rfl | h1
        · show (f'.data ++ bl r).length ≤ B
          rw [List.length_append, bl_length, h2]
          exact hB
        · exact h.wd.len x (by rw [hf]; simp [h1])
    · rw [fileD_upd (f := f') (g := { f' with data := f'.data ++ bl r, da := da, dc := dc }) nd hf rfl rfl, if_pos rfl]
  · refine .inl ?_
    have hpre : appendPre D nW r = 181 := by
      unfold appendPre
      rw [hn]
      simp only [ne_eq, not_true_eq_false, if_false]
      rw [if_pos (by omega)]
    rcases hr with ⟨_, h1, h2⟩ | ⟨h0, _⟩ | ⟨h0, _⟩
    · exact ⟨h1.trans hpre, h2, by omega⟩
    · rw [hpre] at h0; cases h0
    · rw [hpre] at h0; cases h0
theorem grown_crash {Y r : List UInt8} {f : FileC} (hd : D.dir (bl nW) = some f.b) (hf : fileD D f.b = some f) (h1 : f.data = Y ++ r) (h2 : f.lasts = Y.length) (hs : ∀ n, n ≤ D.waits.length → appAll D.last (D.waits.take n) (bl nW) = D.dir (bl nW)) :
    CrashTo D fun Z => ∃ k, Z = some (Y ++ r.take k) := fun n hn => by
  rw [hs n hn, hd]
  refine ⟨f, hf, fun k hk _ => ⟨k - Y.length, ?_⟩⟩
  rw [h1, List.take_append, List.take_of_length_le (by omega)]
theorem sync_wal {Y : List UInt8} (wd : WDk D m B) (hoff : D.off = false) {f : FileC} (hd : D.dir (bl nW) = some f.b) (hfile : fileD D f.b = some f) (h1 : f.data = Y) (hs : ∀ n, n ≤ D.waits.length → appAll D.last (D.waits.take n) (bl nW) = D.dir (bl nW)) (nd : NdF D.files)
    (hr : SyncR D nW e D') : (D.fused = true ∧ e = 183 ∧ D' = { D with off := true }) ∨ (e = 0 ∧ Sam D D' ∧ WQ D' (m + 2) B (some Y)) := by
  have okD := SyncR.ok wd.ok hr
  have hn : namedE D nW = (some f.b, 0) := by rw [named_of hoff name_nW, hd]
  rcases StepE.split hr (by rw [hn]) with h1 | ⟨he, pre, f', post, hf, hd', rfl⟩
  · exact .inl h1
  have hff : f' = f := by
    have e1 := fileD_of nd hf
    have e2 : f'.b = f.b := Option.some.inj (hd'.symm.trans hd)
    rw [e2, hfile] at e1
    exact (Option.some.inj e1).symm
  subst hff
  have hln := wd.ln
  refine .inr ⟨he, ⟨rfl, rfl, rfl⟩, ⟨⟨okD, by show D.ln + D.waits.length ≤ m + 2; omega, wd.two, fun x hx => ?_⟩, hoff, hs, ?_⟩⟩
  · rcases List.mem_append.1 (show x ∈ pre ++ _ :: post from hx) with h1 | h1
    · exact wd.len x (by rw [hf]; simp [h1])
    · rcases List.mem_cons.1 h1 with rfl | h1
      · exact wd.len f' (by rw [hf]; simp)
      · exact wd.len x (by rw [hf]; simp [h1])
  · unfold Cur
    show match D.dir (bl nW) with | none => _ | some b => _
    rw [hd]
    exact ⟨{ f' with lasts := f'.data.length }, by rw [fileD_upd (f := f') (g := { f' with lasts := f'.data.length }) nd hf rfl rfl, if_pos rfl], congrArg some h1, rfl⟩
end
end Go.Proofs.YtfgbfodohmeamaaGreatDoor
