/-
  Texts of this claim, laid one behind the other by a program of mine (install.py): K.Wp2, K.Wl8, K.Wl9, K.Wl10, K.Wl11, K.Rl1, K.Rl2, K.Rl3, K.La1, K.La2, K.La3, K.Lw4, K.Lw5, Dn.Open, K.DkArg, K.La4.
-/
import Derived.Test.YtfgbfodohmeamaaGreatDoorM4
import Derived.Test.YtfgbfodohmeamaaGreatDoorM5
import Derived.Test.YtfgbfodohmeamaaGreatDoorM3
import Derived.ChangeArms
import Derived.Deep.Slices
import Derived.OpenShut
namespace Go.Proofs.YtfgbfodohmeamaaGreatDoor
set_option maxRecDepth 100000
open Go.Dn Go.Proofs
set_option linter.unusedVariables false
def setP (L : LogP) (t v : Int) : Option LogP := if t < L.term ∨ v < 0 ∨ 7 < v ∨ (t = L.term ∧ L.vote ≠ 0 ∧ v ≠ L.vote) then none else some { L with term := t, vote := v }
def appP (L : LogP) : List EntP → Option LogP
  | [] => some L
  | x :: r => if L.may x then appP { L with l := L.l ++ [x] } r else none
def cutP (L : LogP) (i : Int) : Option LogP := if L.has i then some (L.cut i) else none
theorem appP_play : ∀ (xs : List EntP) (L : LogP), appP L xs = playP L (xs.map .ent)
  | [], L => rfl
  | x :: r, L => by
    simp only [appP, List.map_cons, playP, stepP]
    split
    · exact appP_play r _
    · rfl
theorem appP_snoc : ∀ (xs : List EntP) (x : EntP) (L : LogP), appP L (xs ++ [x]) = (appP L xs).bind fun A => if A.may x then some { A with l := A.l ++ [x] } else none
  | [], x, L => by simp [appP]
  | y :: r, x, L => by
    simp only [List.cons_append, appP]
    split
    · exact appP_snoc r x _
    · rfl
theorem setP_play {L L' : LogP} {t v : Int} (h : setP L t v = some L') : playP L [.state t v] = some L' ∧ L.term ≤ t ∧ 0 ≤ v ∧ v ≤ 7 ∧ L' = { L with term := t, vote := v } := by
  unfold setP at h
  split at h
  · cases h
  · next hc =>
    have h1 : L.term ≤ t := by omega
    have h2 : 0 ≤ v := by omega
    have h3 : v ≤ 7 := by omega
    refine ⟨?_, h1, h2, h3, (Option.some.inj h).symm⟩
    simp only [playP, stepP, if_pos (show v ≤ 7 ∧ L.term ≤ t from ⟨h3, h1⟩), Option.bind_some]
    exact h
theorem cutP_play {L L' : LogP} {i : Int} (h : cutP L i = some L') : playP L [.cut i] = some L' ∧ L.has i ∧ L' = L.cut i := by
  unfold cutP at h
  split at h
  · next hc =>
    refine ⟨?_, hc, (Option.some.inj h).symm⟩
    simp only [playP, stepP, if_pos hc, Option.bind_some]
    exact h
  · cases h
theorem LogOk.mono {L : LogP} {m n : Int} (h : LogOk L m) (hn : m ≤ n) : LogOk L n := ⟨h.term, h.vote, h.sidx, h.sterm, h.sdata, h.ents, Int.le_trans h.last hn⟩
theorem LogOk.b {L : LogP} {m : Int} (h : LogOk L m) (hm : m ≤ 4611686018427387904) : LogB L := ⟨h.sidx, Int.le_trans h.last hm⟩
theorem setP_ok {L L' : LogP} {m t v : Int} (h : LogOk L m) (ht : t ≤ 9223372036854775807) (hs : setP L t v = some L') : LogOk L' m := by
  obtain ⟨_, h1, h2, h3, rfl⟩ := setP_play hs
  exact ⟨⟨by have := h.term.1; show 0 ≤ t; omega, ht⟩, ⟨h2, h3⟩, h.sidx, h.sterm, h.sdata, h.ents, h.last⟩
theorem may_ok {L : LogP} {m : Int} {x : EntP} (h : LogOk L m) (hx : x.2.1 ≤ 9223372036854775807) (hm : L.may x) : LogOk { L with l := L.l ++ [x] } (m + 1) :=
  ⟨h.term, h.vote, h.sidx, h.sterm, h.sdata, h.ents.snoc hm hx, by have := h.last; unfold LogP.last at *; rw [List.length_append, List.length_singleton]; push_cast; omega⟩
theorem appP_ok : ∀ (xs : List EntP) {L L' : LogP} {m : Int}, LogOk L m → (∀ x ∈ xs, x.2.1 ≤ 9223372036854775807) → appP L xs = some L' → LogOk L' (m + xs.length) ∧ L'.term = L.term ∧ L'.vote = L.vote ∧ L'.sidx = L.sidx ∧ L'.sterm = L.sterm ∧ L'.sdata = L.sdata ∧ L'.l = L.l ++ xs
  | [], L, L', m, h, _, hs => by cases hs; exact ⟨by simpa using h, rfl, rfl, rfl, rfl, rfl, by simp⟩
  | x :: r, L, L', m, h, hx, hs => by
    simp only [appP] at hs
    split at hs
    · next hm =>
      obtain ⟨h1, h2, h3, h4, h5, h6, h7⟩ := appP_ok r (may_ok h (hx x (by simp)) hm) (fun y hy => hx y (by simp [hy])) hs
      refine ⟨h1.mono (by rw [List.length_cons]; push_cast; omega), h2, h3, h4, h5, h6, ?_⟩
      rw [h7]
      simp
    · cases hs
theorem cutP_ok {L L' : LogP} {m i : Int} (h : LogOk L m) (hs : cutP L i = some L') : LogOk L' m := by
  obtain ⟨_, hh, rfl⟩ := cutP_play hs
  refine ⟨h.term, h.vote, h.sidx, h.sterm, h.sdata, h.ents.take _, ?_⟩
  have := h.last
  unfold LogP.last LogP.cut at *
  show L.sidx + ((L.l.take (i - L.sidx - 1).toNat).length : Int) ≤ m
  rw [List.length_take]
  omega
def sizeL (L : LogP) : Nat := L.sdata.size + 100 + (L.l.map fun x => x.2.2.size + 43).sum
theorem ents_size : ∀ (l : List EntP), (∀ x ∈ l, okE x) → (flatR (l.map .ent)).length ≤ (l.map fun x => x.2.2.size + 43).sum
  | [], _ => by simp [flatR]
  | x :: l, h => by
    have h1 := ents_size l fun y hy => h y (by simp [hy])
    have h2 := (Pay.bytes_len (p := .ent x) (h x (by simp))).2
    have h3 := Pay.rcd_len (.ent x)
    have h4 : (Pay.ent x).size = x.2.2.size := rfl
    rw [List.map_cons, flatR_cons, List.length_append, List.map_cons, List.sum_cons]
    omega
theorem okE_of {L : LogP} {m : Int} (h : LogOk L m) (hm : m ≤ 9223372036854775807) : ∀ x ∈ L.l, okE x := fun x hx => (fresh_plays h hm).ok (.ent x) (by simp [freshR, hx])
theorem fresh_size {L : LogP} {m : Int} (h : LogOk L m) (hm : m ≤ 9223372036854775807) : (flatR (freshR L)).length ≤ sizeL L := by
  have hpl := (fresh_plays h hm).ok
  have h1 := ents_size L.l (okE_of h hm)
  have h2 := (Pay.bytes_len (hpl (.snap (L.sidx, L.sterm, L.sdata)) (by simp [freshR]))).2
  have h3 := (Pay.bytes_len (hpl (.state L.term L.vote) (by simp [freshR]))).2
  have h4 := Pay.rcd_len (.snap (L.sidx, L.sterm, L.sdata))
  have h5 := Pay.rcd_len (.state L.term L.vote)
  have h6 : (Pay.snap (L.sidx, L.sterm, L.sdata)).size = L.sdata.size := rfl
  have h7 : (Pay.state L.term L.vote).size = 0 := rfl
  have e : flatR (freshR L) = (Pay.snap (L.sidx, L.sterm, L.sdata)).rcd ++ ((Pay.state L.term L.vote).rcd ++ flatR (L.l.map .ent)) := rfl
  rw [e, List.length_append, List.length_append]
  unfold sizeL
  omega
def WholeF (Y : List UInt8) (L : LogP) : Prop := ∃ ps, Plays ps L ∧ Y = flatR ps
theorem WholeF.more {Y : List UInt8} {L L' : LogP} {qs : List Pay} (h : WholeF Y L) (hq : ∀ p ∈ qs, p.ok) (hs : playP L qs = some L') : WholeF (Y ++ flatR qs) L' := by
  obtain ⟨ps, h1, rfl⟩ := h
  exact ⟨ps ++ qs, h1.more hq hs, (flatR_append _ _).symm⟩
end Go.Proofs.YtfgbfodohmeamaaGreatDoor
namespace Go.Proofs.YtfgbfodohmeamaaGreatDoor
set_option maxRecDepth 100000
open Go.Dn Go.Proofs
open Go.RowKit (Below)
set_option linter.unusedVariables false
theorem rd_blk {xs : List Value} {b k : Nat} (h : (It.rd (some ⟨b, 0, none⟩) xs).blk = some k) : k = b := by
  cases xs with
  | nil => cases h
  | cons x xs => cases h; rfl
theorem RewR.sure {D D' : DiskC} {m B : Nat} {X : Option (List UInt8)} {Y : List UInt8} {e : Int} (h : RewR D m B X Y e D') (hf : D.fused = false) (hroom : 2 * B + Y.length ≤ D.room) : e = 0 ∧ WQ D' (m + 10) B (some Y) := by
  rcases h with h | ⟨_, h, _⟩ | ⟨_, h, _⟩
  · exact h
  · omega
  · rw [hf] at h; cases h
theorem readE_none {D : DiskC} {m B : Nat} (hq : WQ D m B none) : readE D nW = (⟨#[]⟩, 180) := by
  have hc := hq.cur
  unfold Cur at hc
  have hn : namedE D nW = (none, 180) := by
    rw [named_of hq.off name_nW]
    cases hd : D.dir (bl nW) with
    | none => rfl
    | some b => rw [hd] at hc; obtain ⟨f, _, h, _⟩ := hc; cases h
  unfold readE
  rw [hn]
  rfl
theorem readE_some {D : DiskC} {m B : Nat} {Y : List UInt8} (hq : WQ D m B (some Y)) : readE D nW = (sof Y, 0) := by
  have hc := hq.cur
  unfold Cur at hc
  cases hd : D.dir (bl nW) with
  | none => rw [hd] at hc; cases hc
  | some b =>
    rw [hd] at hc
    obtain ⟨f, h1, h2, _⟩ := hc
    have hn : namedE D nW = (some b, 0) := by rw [named_of hq.off name_nW, hd]
    unfold readE
    rw [hn, dataD_of hd h1, Option.some.inj h2]
    rfl
theorem WQ.len {D : DiskC} {m B : Nat} {Y : List UInt8} (hq : WQ D m B (some Y)) : Y.length ≤ B := by
  have hc := hq.cur
  unfold Cur at hc
  cases hd : D.dir (bl nW) with
  | none => rw [hd] at hc; cases hc
  | some b =>
    rw [hd] at hc
    obtain ⟨f, h1, h2, _⟩ := hc
    rw [← Option.some.inj h2]
    exact hq.wd.len f (fileD_mem h1).1
theorem zero_ok : LogOk zeroL 0 := ⟨⟨by decide, by decide⟩, ⟨by decide, by decide⟩, by decide, ⟨by decide, by decide⟩, by decide, trivial, by decide⟩
def SaysF (ρ : Prop) (X : Option (List UInt8)) (L : LogP) : Prop := match X with
  | none => L = zeroL ∧ ρ
  | some Y => ∃ ps t, Plays ps L ∧ Torn t ∧ Y = flatR ps ++ t ∧ (t = [] ∨ ρ)
theorem WholeF.says {Y : List UInt8} {L : LogP} (h : WholeF Y L) (ρ : Prop) : SaysF ρ (some Y) L := by
  obtain ⟨ps, h1, rfl⟩ := h
  exact ⟨ps, [], h1, .inl rfl, by simp, .inl rfl⟩
section
variable {w0 w : World} {H : List It} {D : DiskC} {m B : Nat}
theorem wal_Open_ok (S : ST w0 w (dkE D H)) {X : Option (List UInt8)} (hq : WQ D m B X) (hm : m + 20 < 1000000) (hf : D.fused = false) (hB : B ≤ 10000000) {L : LogP} {mx : Int} (hL : LogOk L mx) (hmx : mx ≤ 2305843009213693952) (hX : SaysF (2 * B + (flatR (freshR L)).length ≤ D.room) X L) (hfs : (flatR (freshR L)).length ≤ B) :
    Calls Tryz.prog f.wal_Open #[ptrV D.b] w (Ret fun v w' => ∃ W D' Y, v = .tuple #[ptrV W.b, .int .i64 0] ∧ W.L = L ∧ Sam D D' ∧ WQ D' (m + 10) B (some Y) ∧ WholeF Y L ∧ ST w0 w' (walI W D'.b (dkE D' H))) := by
  have hpl0 := fresh_plays hL (by omega)
  apply R.wal_Open_calls
  unfold R.wal_Open
  refine IFB_false (S.newB fun b2 w1 _ _ S1 => ?_)
  obtain ⟨W0, hW0⟩ : ∃ W0 : WalC, W0 = ⟨b2, none, 0, zeroL⟩ := ⟨_, rfl⟩
  have S1 : ST w0 w1 (walI W0 D.b (dkE D H)) := by
    rw [hW0]
    exact (S1.nil ty.api_Entry 3).perm (List.Perm.swap _ _ _)
  have hb0 : W0.b = b2 := by rw [hW0]
  have hl0 : W0.L = zeroL := by rw [hW0]
  refine (read_ok (S1.perm (wd_perm D D.b)) hq.wd.ok nW (by decide)).mono ?_
  rintro _ w2 ⟨_, rfl, rfl, S2⟩
  have S2 := S2.perm (wd_perm D D.b).symm
  refine ⟨_, _, rfl, fun st w10 => st = [.int .i64 0] ∧ ∃ la lc D' Y, Sam D D' ∧ WQ D' (m + 10) B (some Y) ∧ WholeF Y L ∧ ST w0 w10 (walI ⟨b2, la, lc, L⟩ D'.b (dkE D' H)), ?_, ?_⟩
  rotate_left
  · rintro _ w10 ⟨hst, la, lc, D', Y, h1, h2, h3, S10⟩
    cases hst
    exact IFB_ne (fun h => absurd rfl h) (fun _ => ⟨⟨b2, la, lc, L⟩, D', Y, rfl, rfl, h1, h2, h3, S10⟩)
  cases X with
  | none =>
    obtain ⟨hX, hroom⟩ : L = zeroL ∧ _ := hX
    subst hX
    rw [readE_none hq]
    refine IFB_eq (fun _ => ?_) (fun h => absurd rfl h)
    have hcall := wal_rewrite_ok (T := W0) (td := D.b) S2 hq hm (fun w' S' => walR_of S') (by rw [hl0]; exact hL) (by omega) (by rw [hl0]; omega) (by omega)
    rw [hb0, hl0] at hcall
    refine hcall.mono ?_
    rintro _ w3 ⟨_, rfl, e, D', rfl, sm, hr, S3⟩
    obtain ⟨rfl, q⟩ := hr.sure hf hroom
    refine ⟨_, rfl, rfl, none, 0, D', _, sm, q, ⟨_, hpl0, rfl⟩, ?_⟩
    rw [hW0] at S3
    exact S3
  | some Y =>
    obtain ⟨ps, t, hpl, ht, rfl, hroom⟩ := hX
    match ps, hpl with
    | .snap x :: rest, ⟨hps, hplay⟩ =>
    have hYl := hq.len
    have hx : x.1 ≤ 2305843009213693952 := by
      have h1 : L.sidx = x.1 := (play_keeps hplay).1
      have h2 := hL.last
      unfold LogP.last at h2
      omega
    rw [readE_some hq]
    refine IFB_eq (fun h => absurd h (by show ¬ (0 : Int) = 180; decide)) (fun _ => ⟨fun st w6 => st = [.bool false] ∧ ∃ la lc, ST w0 w6 (walI ⟨b2, la, lc, L⟩ D.b (dkE D H)), ?_, ?_⟩)
    · refine IFB_eq (fun _ => bytes_of_string tbytes (sof (flatR (.snap x :: rest) ++ t)) w2 fun b c cs e w4 hb B4 hh hcs hsc htk => ⟨_, _, _, rfl, ?_⟩) (fun h => absurd rfl h)
      have hrd : Rd w4 (some ⟨b, 0, none⟩) ((flatR (.snap x :: rest) ++ t).map byteV) := by
        have := (Rd.of_block0 hh).take (sof (flatR (.snap x :: rest) ++ t)).size
        rwa [htk, bl_sof] at this
      rw [sof_size] at hsc ⊢
      have S4 := (S2.add B4 (It.rd (some ⟨b, 0, none⟩) ((flatR (.snap x :: rest) ++ t).map byteV)) hrd (fun k hk => by rw [rd_blk hk]; omega)).perm (walI_perm [It.rd (some ⟨b, 0, none⟩) ((flatR (.snap x :: rest) ++ t).map byteV)])
      have hcall := wal_read_ok (a := some ⟨b, 0, none⟩) (c := c) S4 hl0 x rest L t hps hplay ht (by omega) hx hsc (by simp)
      rw [hb0] at hcall
      refine hcall.mono ?_
      rintro _ w5 ⟨_, rfl, rfl, la, lc, S5⟩
      have S6 := (S5.perm (walI_perm [It.rd (some ⟨b, 0, none⟩) ((flatR (.snap x :: rest) ++ t).map byteV)]).symm).drop 1
      exact ⟨_, rfl, rfl, la, lc, S6⟩
    · rintro _ w6 ⟨hst, la, lc, S6⟩
      cases hst
      refine IFB_false (IFB_eq (fun _ => bytes_of_string tbytes (sof (flatR (.snap x :: rest) ++ t)) w6 fun b c cs e w7 hb B7 hh hcs hsc htk => ⟨_, _, _, rfl, ?_⟩) (fun h => absurd rfl h))
      have hrd : Rd w7 (some ⟨b, 0, none⟩) ((flatR (.snap x :: rest) ++ t).map byteV) := by
        have := (Rd.of_block0 hh).take (sof (flatR (.snap x :: rest) ++ t)).size
        rwa [htk, bl_sof] at this
      rw [sof_size] at hsc ⊢
      refine (wal_whole_ok (.snap x :: rest) t hps ht (by omega) hsc hrd).mono ?_
      rintro _ w8 ⟨_, rfl, rfl, B8⟩
      have S8 := (S6.grown B7).grown B8
      refine ⟨_, rfl, IFB_dec (fun hlt => ?_) (fun hge => ?_)⟩
      · obtain ⟨W1, hW1⟩ : ∃ W1 : WalC, W1 = ⟨b2, la, lc, L⟩ := ⟨_, rfl⟩
        rw [← hW1] at S8
        have hcall := wal_rewrite_ok (T := W1) (td := D.b) S8 hq hm (fun w' S' => walR_of S') (by rw [hW1]; exact hL) (by omega) (by rw [hW1]; show (flatR (freshR L)).length ≤ B; omega) (by omega)
        have hb1 : W1.b = b2 := by rw [hW1]
        have hl1 : W1.L = L := by rw [hW1]
        rw [hb1, hl1] at hcall
        refine hcall.mono ?_
        rintro _ w9 ⟨_, rfl, e', D', rfl, sm, hr, S9⟩
        have hroom : 2 * B + (flatR (freshR L)).length ≤ D.room := by
          rcases hroom with h | h
          · rw [h] at hlt; simp at hlt
          · exact h
        obtain ⟨rfl, q⟩ := hr.sure hf hroom
        refine ⟨_, rfl, rfl, la, lc, D', _, sm, q, ⟨_, hpl0, rfl⟩, ?_⟩
        rw [hW1] at S9
        exact S9
      · have ht0 : t = [] := by
          rw [List.length_append] at hge
          exact List.eq_nil_of_length_eq_zero (by omega)
        subst ht0
        rw [List.append_nil] at hq
        exact ⟨rfl, la, lc, D, _, .refl _, hq.mono (by omega) (Nat.le_refl _), ⟨.snap x :: rest, ⟨hps, hplay⟩, rfl⟩, S8⟩
end
def LayOp (D : DiskC) (m B : Nat) (Y : List UInt8) (L : LogP) (o : Option LogP) (qs : List Pay) (e : Int) (D' : DiskC) (L2 : LogP) : Prop :=
  (o = none ∧ e = 2 ∧ D' = D ∧ L2 = L) ∨ (∃ L', o = some L' ∧ LayR D m B Y (flatR qs) e D' ∧ L2 = if e = 0 then L' else L)
theorem flatR_one (p : Pay) : flatR [p] = p.rcd := by simp [flatR]
section
variable {w0 w : World} {H : List It} {W : WalC} {D : DiskC} {m B : Nat}
theorem lift_perm (P : List It) (d : Nat) : (P ++ walI W d (dkE D H)).Perm (walI W d (dkE D (P ++ H))) :=
  (walI_perm P).trans (List.Perm.cons _ (List.Perm.cons _ (dkE_perm D P H).symm))
theorem wal_SetState_ok (S : ST w0 w (walI W D.b (dkE D H))) {Y : List UInt8} (hq : WQ D m B (some Y)) (hm : m + 10 < 1000000) {mx : Int} (hL : LogOk W.L mx) (t v : Int) (ht : t ≤ 9223372036854775807) (hB : Y.length + 100 ≤ B) :
    Calls Tryz.prog f.wal_Wal_SetState #[ptrV W.b, .agg #[.int .i64 t, .int .i64 v]] w (Ret fun u w' => ∃ e D' L2, u = .int .i64 e ∧ Sam D D' ∧ LayOp D m B Y W.L (setP W.L t v) [.state t v] e D' L2 ∧ ST w0 w' (walI { W with L := L2 } D'.b (dkE D' H))) := by
  apply R.wal_Wal_SetState_calls
  unfold R.wal_Wal_SetState
  refine S.newB fun b4 w1 _ _ S1 => ?_
  have no : (t < W.L.term ∨ v < 0 ∨ 7 < v ∨ (t = W.L.term ∧ W.L.vote ≠ 0 ∧ v ≠ W.L.vote)) → ∀ w', ST w0 w' (It.cells b4 #[.int .i64 t, .int .i64 v] 44 :: walI W D.b (dkE D H)) →
      ∃ e D' L2, Value.int .i64 2 = .int .i64 e ∧ Sam D D' ∧ LayOp D m B Y W.L (setP W.L t v) [.state t v] e D' L2 ∧ ST w0 w' (walI { W with L := L2 } D'.b (dkE D' H)) := fun hc w' S' =>
    ⟨2, D, W.L, rfl, .refl _, .inl ⟨by unfold setP; rw [if_pos hc], rfl, rfl, rfl⟩, S'.drop 1⟩
  refine ⟨fun st w3 => st = [] ∧ ¬ (t < W.L.term ∨ v < 0 ∨ 7 < v ∨ (t = W.L.term ∧ W.L.vote ≠ 0 ∧ v ≠ W.L.vote)) ∧ ST w0 w3 (It.cells b4 #[.int .i64 t, .int .i64 v] 44 :: walI W D.b (dkE D H)), ?_, ?_⟩
  · refine IFB_false (S1.draw fun w2 _ S2 => ⟨_, S2.cell 0 rfl rfl, _, S2.cell 1 rfl rfl, IFB_dec (fun h => no (.inl h) _ S2) (fun h1 => ⟨_, S2.cell 0 rfl rfl, IFB_dec (fun h => no (.inr (.inl h)) _ S2) (fun h2 => ⟨_, S2.cell 0 rfl rfl, IFB_dec (fun h => no (.inr (.inr (.inl h))) _ S2) (fun h3 => ⟨_, S2.cell 0 rfl rfl, _, S2.cell 1 rfl rfl, ?_⟩)⟩)⟩)⟩)
    have h1 : ¬ t < W.L.term := h1
    have h3 : ¬ 7 < v := h3
    refine IFB_eq (fun h4 => ⟨_, S2.cell 1 rfl rfl, IFB_ne (fun h5 => ⟨_, S2.cell 0 rfl rfl, _, S2.cell 1 rfl rfl, IFB_ne (fun h6 => no (.inr (.inr (.inr ⟨h4, h5, h6⟩))) _ S2) (fun h6 => ⟨rfl, ?_, S2⟩)⟩) (fun h5 => ⟨rfl, ?_, S2⟩)⟩) (fun h4 => ⟨rfl, ?_, S2⟩)
    · rintro (h | h | h | ⟨_, _, h⟩)
      · exact h1 h
      · exact h2 h
      · exact h3 h
      · exact h h6
    · rintro (h | h | h | ⟨_, h, _⟩)
      · exact h1 h
      · exact h2 h
      · exact h3 h
      · exact h h5
    · rintro (h | h | h | ⟨h, _, _⟩)
      · exact h1 h
      · exact h2 h
      · exact h3 h
      · exact h4 h
  · rintro w3 ⟨_, hc, S3⟩
    have ht0 := hL.term.1
    have hs : setP W.L t v = some { W.L with term := t, vote := v } := by unfold setP; rw [if_neg hc]
    have hpl := setP_play hs
    have okt : okN t := ⟨by have := hpl.2.1; omega, ht⟩
    have okv : okN v := ⟨hpl.2.2.1, by have := hpl.2.2.2.1; omega⟩
    refine ⟨_, S3.cell 0 rfl rfl, _, S3.cell 0 rfl rfl, (wal_stateRecord_ok w3 t v okt okv).mono ?_⟩
    rintro _ w4 ⟨_, rfl, a4, c4, rfl, h4⟩
    have hrl := (Pay.bytes_len (p := .state t v) ⟨okt, okv⟩).2
    have hrz : (Pay.state t v).size = 0 := rfl
    have hrc := Pay.rcd_len (.state t v)
    have S4 := (S3.grown h4.bel).perm (lift_perm [It.cells b4 #[.int .i64 t, .int .i64 v] 44] D.b)
    refine ⟨_, _, _, rfl, (wal_lay_ok S4 hq hm _ h4.rd (by omega)).mono ?_⟩
    rintro _ w5 ⟨_, rfl, e, D', rfl, sm, hr, S5⟩
    have S5 := S5.perm (lift_perm [It.cells b4 #[.int .i64 t, .int .i64 v] 44] D'.b).symm
    rw [← flatR_one] at hr
    refine ⟨_, rfl, IFB_eq (fun he => ?_) (fun he => ?_)⟩
    · subst he
      refine ⟨_, S5.cell 0 rfl rfl, _, S5.cell 0 rfl rfl, ?_⟩
      refine ST.stoA S5 1 rfl 1 rfl (cs' := #[ptrV D'.b, .int .i64 t, .int .i64 W.L.vote, .int .i64 W.L.sidx, .int .i64 W.L.sterm, .string W.L.sdata, .slice W.la W.L.l.length W.lc]) (by show 1 < 7; omega) rfl fun w6 S6 => ?_
      refine ST.stoA S6 1 rfl 2 rfl (cs' := #[ptrV D'.b, .int .i64 t, .int .i64 v, .int .i64 W.L.sidx, .int .i64 W.L.sterm, .string W.L.sdata, .slice W.la W.L.l.length W.lc]) (by show 2 < 7; omega) rfl fun w7 S7 => ?_
      exact ⟨0, D', { W.L with term := t, vote := v }, rfl, sm, .inr ⟨_, hs, hr, by rw [if_pos rfl]⟩, S7.drop 1⟩
    · exact ⟨e, D', W.L, rfl, sm, .inr ⟨_, hs, hr, by rw [if_neg he]⟩, S5.drop 1⟩
theorem wal_Cut_ok (S : ST w0 w (walI W D.b (dkE D H))) {Y : List UInt8} (hq : WQ D m B (some Y)) (hm : m + 10 < 1000000) {mx : Int} (hL : LogOk W.L mx) (hmx : mx ≤ 4611686018427387904) (i : Int) (hB : Y.length + 100 ≤ B) :
    Calls Tryz.prog f.wal_Wal_Cut #[ptrV W.b, .int .i64 i] w (Ret fun u w' => ∃ e D' L2, u = .int .i64 e ∧ Sam D D' ∧ LayOp D m B Y W.L (cutP W.L i) [.cut i] e D' L2 ∧ ST w0 w' (walI { W with L := L2 } D'.b (dkE D' H))) := by
  have hLB := hL.b hmx
  apply R.wal_Wal_Cut_calls
  unfold R.wal_Wal_Cut
  refine IFB_false ((wal_has_ok (walR_of S) hLB i).mono ?_)
  rintro _ w1 ⟨_, rfl, rfl, B1⟩
  have S1 := S.grown B1
  refine ⟨_, rfl, IFB_not (IFB_dec (fun hh => ?_) (fun hh => ?_))⟩
  · have hs : cutP W.L i = some (W.L.cut i) := by unfold cutP; rw [if_pos hh]
    have hs0 := hL.sidx
    have hlt := LogP.has_lt hh
    have hlen := hLB.len
    have hlast := hLB.last
    obtain ⟨hh1, hh2⟩ := hh
    have oki : okN i := ⟨by omega, by omega⟩
    refine S1.newB fun b5 w2 _ B2 S2 => (wal_words_ok 3 [i] (S2.rdc 0 rfl) (by
      intro y hy
      simp only [List.mem_cons, List.not_mem_nil, or_false] at hy
      rw [hy]
      exact oki) (by simp)).mono ?_
    rintro _ w3 ⟨_, rfl, a3, c3, rfl, h3⟩
    have e3 : wordsL 3 [i] = (Pay.cut i).bytes := by simp [wordsL, Pay.bytes]
    have hrl := (Pay.bytes_len (p := .cut i) oki).2
    have hrz : (Pay.cut i).size = 0 := rfl
    have hrc := Pay.rcd_len (.cut i)
    rw [e3] at h3 ⊢
    refine ⟨_, _, _, rfl, (wal_record_ok _ h3.rd (by omega)).mono ?_⟩
    rintro _ w4 ⟨_, rfl, a4, c4, rfl, h4⟩
    have S4 := ((S2.grown h3.bel).grown h4.bel).drop 1
    have S4 : ST w0 w4 (walI W D.b (dkE D H)) := S4
    refine ⟨_, _, _, rfl, (wal_lay_ok S4 hq hm (Pay.cut i).rcd h4.rd (by omega)).mono ?_⟩
    rintro _ w5 ⟨_, rfl, e, D', rfl, sm, hr, S5⟩
    rw [← flatR_one] at hr
    refine ⟨_, rfl, IFB_eq (fun he => S5.draw fun w6 B6 S6 => ?_) (fun he => ?_)⟩
    · subst he
      have e : IntKind.i64.wrap (IntKind.i64.wrap (i - W.L.sidx) - 1) = i - W.L.sidx - 1 := by rw [wrap_i64 (n := i - W.L.sidx) (by omega) (by omega), wrap_i64 (by omega) (by omega)]
      have hcap := (S6.rw 1 rfl).le
      refine ⟨_, _, _, S6.cell 0 rfl rfl, _, S6.cell 0 rfl rfl, ?_⟩
      rw [e, SLA_zero]
      refine ⟨⟨by omega, by omega, by omega⟩, ?_⟩
      refine ST.stoA S6 0 rfl 6 rfl (cs' := #[ptrV D'.b, .int .i64 W.L.term, .int .i64 W.L.vote, .int .i64 W.L.sidx, .int .i64 W.L.sterm, .string W.L.sdata, .slice W.la ((i - W.L.sidx - 1).toNat - 0) (W.lc - 0)]) (by show 6 < 7; omega) rfl fun w27 S27 => ⟨0, D', W.L.cut i, rfl, sm, .inr ⟨_, hs, hr, by rw [if_pos rfl]⟩, ?_⟩
      have hfr := (S27.rw 1 rfl).front (i := (i - W.L.sidx - 1).toNat) (by omega)
      rw [ents_take] at hfr
      have hl2 : (W.L.l.take (i - W.L.sidx - 1).toNat).length = (i - W.L.sidx - 1).toNat := by rw [List.length_take]; omega
      have S28 := S27.chg 1 rfl (.refl _ _) (rowE W.la W.lc (W.L.l.take (i - W.L.sidx - 1).toNat)) (by unfold rowE; rw [hl2]; exact hfr) (fun k hk => .inl hk)
      have S28 : ST w0 w27 (It.cells W.b #[ptrV D'.b, .int .i64 W.L.term, .int .i64 W.L.vote, .int .i64 W.L.sidx, .int .i64 W.L.sterm, .string W.L.sdata, .slice W.la ((i - W.L.sidx - 1).toNat - 0) (W.lc - 0)] ty.wal_Wal :: rowE W.la W.lc (W.L.l.take (i - W.L.sidx - 1).toNat) :: dkE D' H) := S28
      show ST w0 w27 (It.cells W.b #[ptrV D'.b, .int .i64 W.L.term, .int .i64 W.L.vote, .int .i64 W.L.sidx, .int .i64 W.L.sterm, .string W.L.sdata, .slice W.la (W.L.l.take (i - W.L.sidx - 1).toNat).length W.lc] ty.wal_Wal :: rowE W.la W.lc (W.L.l.take (i - W.L.sidx - 1).toNat) :: dkE D' H)
      rw [hl2]
      exact S28
    · exact ⟨e, D', W.L, rfl, sm, .inr ⟨_, hs, hr, by rw [if_neg he]⟩, S5⟩
  · exact ⟨2, D, W.L, rfl, .refl _, .inl ⟨by unfold cutP; rw [if_neg hh], rfl, rfl, rfl⟩, S1⟩
end
theorem ents_one (l : List EntP) : ∀ u ∈ l.flatMap entC, u.oneCell' = true := by
  intro u hu
  obtain ⟨x, _, hx⟩ := List.mem_flatMap.1 hu
  simp only [entC, List.mem_cons, List.not_mem_nil, or_false] at hx
  rcases hx with rfl | rfl | rfl <;> rfl
theorem appP_take {L A : LogP} {xs : List EntP} {i : Nat} (hi : i < xs.length) (h : appP L (xs.take i) = some A) : appP L (xs.take (i + 1)) = if A.may xs[i] then some { A with l := A.l ++ [xs[i]] } else none := by
  rw [List.take_succ_eq_append_getElem hi, appP_snoc, h]
  rfl
theorem appP_none {L : LogP} {xs : List EntP} {i : Nat} (h : appP L (xs.take i) = none) : appP L xs = none := by
  have e : xs = xs.take i ++ xs.drop i := (List.take_append_drop i xs).symm
  rw [appP_play] at h
  rw [appP_play, e, List.map_append, playP_append, h]
  rfl
theorem flatR_le : ∀ (ps : List Pay), (∀ p ∈ ps, p.ok) → (flatR ps).length ≤ ps.length * 262187
  | [], _ => by simp [flatR]
  | p :: ps, h => by
    have h1 := flatR_le ps fun q hq => h q (by simp [hq])
    have h2 := (Pay.bytes_len (h p (by simp))).2
    have h3 := Pay.size_le (h p (by simp))
    have h4 := p.rcd_len
    rw [flatR_cons, List.length_append, List.length_cons, Nat.add_mul]
    omega
section
variable {w0 w : World} {H : List It} {W : WalC} {D : DiskC} {m B : Nat} {a : Option Addr} {c : Nat}
theorem cloneE_ok (S : ST w0 w H) {l : List EntP} (h : Rd w a (l.flatMap entC)) (hl : l.length ≤ 1000000) : Calls Tryz.prog f.slices_Clone_api_Entry_api_Entry #[.slice a l.length c] w (Ret fun v w' => ∃ a' c', v = .slice a' l.length c' ∧ ST w0 w' (rowE a' c' l :: H)) := by
  apply R.slices_Clone_api_Entry_api_Entry_calls
  unfold R.slices_Clone_api_Entry_api_Entry
  cases a with
  | none =>
    have : l = [] := by
      cases l with
      | nil => rfl
      | cons x l =>
        obtain ⟨p, hp, _⟩ := h 0 (.int .i64 x.1) (by simp [entC])
        cases hp
    subst this
    exact IFB_true ⟨none, 0, rfl, S.nil _ _⟩
  | some q =>
    refine IFB_false (S.newB fun b2 w1 _ B1 S => ?_)
    have S := S.chg 0 rfl (.refl _ _) (It.row ty.api_Entry 3 (some ⟨b2, 0, none⟩) 0 0 []) (row_empty (S.blk 0 rfl)) (fun k hk => .inl hk)
    refine S.app 0 rfl tEnts rfl (by omega) (by omega) (h.grown B1) (mm := l.length) (ents_len l) (ents_one l) (by omega) fun a' c' w' S => ⟨_, _, _, rfl, a', c', by rw [Nat.zero_add], ?_⟩
    simp only [Nat.zero_add, List.nil_append] at S
    exact S
theorem wal_Append_ok (S : ST w0 w (walI W D.b (dkE D H))) {Y : List UInt8} (hq : WQ D m B (some Y)) (hm : m + 10 < 1000000) {mx : Int} (hL : LogOk W.L mx) (xs : List EntP) (hmx : mx + xs.length ≤ 4611686018427387904) (hln : W.L.l.length + xs.length ≤ 900000)
    (hx : ∀ x ∈ xs, x.2.1 ≤ 9223372036854775807) (hr : rowE a c xs ∈ H) (hB : Y.length + (xs.map fun x => x.2.2.size + 43).sum ≤ B) :
    Calls Tryz.prog f.wal_Wal_Append #[ptrV W.b, .slice a xs.length c] w (Ret fun u w' => ∃ e D' la lc L2, u = .int .i64 e ∧ Sam D D' ∧ LayOp D m B Y W.L (appP W.L xs) (xs.map .ent) e D' L2 ∧ ST w0 w' (walI { W with la := la, lc := lc, L := L2 } D'.b (dkE D' H))) := by
  apply R.wal_Wal_Append_calls
  unfold R.wal_Wal_Append
  refine IFB_false ⟨_, S.cell 0 rfl rfl, _, S.cell 0 rfl rfl, _, S.cell 0 rfl rfl, _, S.cell 0 rfl rfl, _, S.cell 0 rfl rfl, _, S.cell 0 rfl rfl, _, _, _, S.cell 0 rfl rfl, S.newB fun b11 w1 _ _ S1 => S1.sto7 0 rfl fun w8 S8 => ⟨_, _, _, S8.cell 1 rfl rfl, (cloneE_ok S8 (S8.rd 2 rfl) (by omega)).mono ?_⟩⟩
  rintro _ w9 ⟨_, rfl, a9, c9, rfl, S9⟩
  refine ⟨_, _, _, rfl, S9.sto 1 rfl (cs' := WalC.cells ⟨b11, a9, c9, W.L⟩ D.b) (by show 6 < 7; omega) rfl fun w10 S10 => ?_⟩
  have S10 : ST w0 w10 (walI ⟨b11, a9, c9, W.L⟩ D.b (walI W D.b (dkE D H))) := S10.perm (List.Perm.swap _ _ _)
  refine ⟨fun st w11 => ∃ (i : Nat) (b : Option Addr) (bc : Nat) (la : Option Addr) (lc : Nat) (A : LogP), st = [.slice b (flatR ((xs.take i).map .ent)).length bc, .int .i64 (i : Int)] ∧ i ≤ xs.length ∧ (∀ p ∈ (xs.take i).map Pay.ent, p.ok) ∧ appP W.L (xs.take i) = some A ∧
    ST w0 w11 (bytesI b bc (flatR ((xs.take i).map .ent)) :: walI ⟨b11, la, lc, A⟩ D.b (walI W D.b (dkE D H))), fun st _ => match st with
    | [_, .int _ i] => xs.length - i.toNat
    | _ => 0, ⟨0, none, 0, a9, c9, W.L, rfl, Nat.zero_le _, by simp, by simp [appP], S10.nil _ _⟩, ?_⟩
  rintro b _ bc _ w11 ⟨i, _, _, la, lc, A, hst, hi, hok, hA, S11⟩
  cases hst
  have hAok := appP_ok _ hL (fun x hx' => hx x (List.mem_of_mem_take hx')) hA
  have hAl : A.l.length ≤ 900000 := by rw [hAok.2.2.2.2.2.2, List.length_append, List.length_take]; omega
  have hAB : LogB A := hAok.1.b (by rw [List.length_take]; omega)
  refine IFB_dec (fun hlt => ?_) (fun hge => ?_)
  · have hil : i < xs.length := by omega
    have hrd : Rd w11 a (xs.flatMap entC) := (S11.ok (rowE a c xs) (by simp [walI, dkE, hr]) : Row _ _ _ _ _ _ _).rd
    obtain ⟨q, rfl, hc⟩ := rowW_at entC_len (by omega) hrd hil
    refine ⟨⟨by omega, hlt⟩, _, by rw [Int.toNat_natCast]; have := hc 0 _ rfl; rw [addr_add_zero] at this; exact this, _, by rw [Int.toNat_natCast]; exact hc 1 _ rfl, _, by rw [Int.toNat_natCast]; exact hc 2 _ rfl, S11.lit3 fun b23 w15 _ S15 => ⟨_, S15.cell 0 rfl rfl, _, S15.cell 0 rfl rfl, _, S15.cell 0 rfl rfl, ?_⟩⟩
    refine (wal_next_ok (W := ⟨b11, la, lc, A⟩) ⟨S15.blk 2 rfl, S15.rd 3 rfl⟩ hAB xs[i]).mono ?_
    rintro _ w16 ⟨_, rfl, rfl, B16⟩
    have S16 := S15.grown B16
    have htk := appP_take hil hA
    refine ⟨_, rfl, IFB_not (IFB_dec (fun hmay => ?_) (fun hmay => ?_))⟩
    · rw [if_pos hmay] at htk
      have hxi := hx _ (List.getElem_mem hil)
      have okx : okE xs[i] := by
        have h1 : xs[i].1 = A.sidx + (A.l.length : Int) + 1 := hmay.1
        have h2 : 1 ≤ xs[i].2.1 := hmay.2.1.1
        have h3 : xs[i].2.2.size ≤ 262144 := hmay.2.2
        have hs := hAB.sidx
        have hl := hAB.last
        unfold LogP.last at hl
        exact ⟨⟨by omega, by omega⟩, ⟨by omega, hxi⟩, h3⟩
      refine ⟨_, _, _, S16.cell 2 rfl rfl, _, S16.cell 0 rfl rfl, _, S16.cell 0 rfl rfl, _, S16.cell 0 rfl rfl, S16.newB fun b33 w17 _ _ S17 => ?_⟩
      refine push_ent (cs := #[]) (t := 0) (l := A.l) (la := la) (lc := lc) S17 4 rfl (by omega) xs[i] (S17.rdc 0 rfl) fun a' c' w18 S18 => ⟨_, _, _, rfl, ?_⟩
      have hcs : (WalC.cells ⟨b11, la, lc, A⟩ D.b).setIfInBounds 6 (.slice a' (A.l.length + 1) c') = WalC.cells ⟨b11, a', c', { A with l := A.l ++ [xs[i]] }⟩ D.b := by
        have : A.l.length + 1 = (A.l ++ [xs[i]]).length := by simp
        rw [this]
        rfl
      refine S18.sto 3 rfl (by show 6 < 7; omega) hcs fun w19 S19 => ⟨_, S19.cell 1 rfl rfl, _, S19.cell 1 rfl rfl, _, S19.cell 1 rfl rfl, ?_⟩
      refine (wal_entryRecord_ok w19 2 xs[i] okx).mono ?_
      rintro _ w20 ⟨_, rfl, a20, c20, rfl, h20⟩
      have S20 := S19.grown h20.bel
      have hok' : ∀ p ∈ (xs.take (i + 1)).map Pay.ent, p.ok := fun p hp => by
        rw [List.take_succ_eq_append_getElem hil, List.map_append] at hp
        rcases List.mem_append.1 hp with h | h
        · exact hok p h
        · simp only [List.map_cons, List.map_nil, List.mem_singleton] at h
          rw [h]
          exact okx
      have e3 : flatR ((xs.take (i + 1)).map .ent) = flatR ((xs.take i).map .ent) ++ recL ((2 : UInt8) :: entB xs[i]) := by
        rw [List.take_succ_eq_append_getElem hil, List.map_append, flatR_append]
        simp [flatR, Pay.rcd, Pay.bytes]
      have hbig := flatR_le _ hok'
      rw [List.length_map, List.length_take, e3, List.length_append] at hbig
      have hmin : min (i + 1) xs.length ≤ 900000 := by omega
      have hmul : min (i + 1) xs.length * 262187 ≤ 900000 * 262187 := Nat.mul_le_mul_right _ hmin
      refine ⟨_, _, _, rfl, app_bytes S20 2 rfl h20.rd (by omega) fun a21 c21 w21 S21 => ⟨_, _, _, rfl, ?_⟩⟩
      rw [← e3] at S21 ⊢
      rw [wrap_succ (by omega)]
      exact ⟨⟨i + 1, a21, c21, a', c', _, rfl, by omega, hok', htk, S21.drop 2⟩, by show xs.length - ((i + 1 : Nat) : Int).toNat < xs.length - ((i : Nat) : Int).toNat; simp only [Int.toNat_natCast]; omega⟩
    · rw [if_neg hmay] at htk
      exact ⟨2, D, W.la, W.lc, W.L, rfl, .refl _, .inl ⟨appP_none htk, rfl, rfl, rfl⟩, S16.drop 4⟩
  · have : i = xs.length := by omega
    subst this
    rw [List.take_length] at S11 hok hA ⊢
    have hsz := ents_size xs fun x hx' => hok (.ent x) (List.mem_map_of_mem hx')
    have S12 := S11.perm (lift_perm (W := W) [bytesI b bc (flatR (xs.map .ent)), It.cells b11 (WalC.cells ⟨b11, la, lc, A⟩ D.b) ty.wal_Wal, rowE la lc A.l] D.b)
    refine (wal_lay_ok S12 hq hm (flatR (xs.map .ent)) (S11.rd 0 rfl) (by omega)).mono ?_
    rintro _ w22 ⟨_, rfl, e, D', rfl, sm, hlay, S22⟩
    have S23 := S22.perm (lift_perm (W := W) [bytesI b bc (flatR (xs.map .ent)), It.cells b11 (WalC.cells ⟨b11, la, lc, A⟩ D.b) ty.wal_Wal, rowE la lc A.l] D'.b).symm
    refine ⟨_, rfl, IFB_eq (fun he => ?_) (fun he => ?_)⟩
    · subst he
      refine ⟨_, S23.cell 1 rfl rfl, _, S23.cell 1 rfl rfl, _, S23.cell 1 rfl rfl, _, S23.cell 1 rfl rfl, _, S23.cell 1 rfl rfl, _, S23.cell 1 rfl rfl, _, _, _, S23.cell 1 rfl rfl, ?_⟩
      refine ST.stoA S23 3 rfl 0 rfl (cs' := #[ptrV D.b, .int .i64 W.L.term, .int .i64 W.L.vote, .int .i64 W.L.sidx, .int .i64 W.L.sterm, .string W.L.sdata, .slice W.la W.L.l.length W.lc]) (by show 0 < 7; omega) rfl fun w24 S24 => ?_
      refine ST.stoA S24 3 rfl 1 rfl (cs' := #[ptrV D.b, .int .i64 A.term, .int .i64 W.L.vote, .int .i64 W.L.sidx, .int .i64 W.L.sterm, .string W.L.sdata, .slice W.la W.L.l.length W.lc]) (by show 1 < 7; omega) rfl fun w25 S25 => ?_
      refine ST.stoA S25 3 rfl 2 rfl (cs' := #[ptrV D.b, .int .i64 A.term, .int .i64 A.vote, .int .i64 W.L.sidx, .int .i64 W.L.sterm, .string W.L.sdata, .slice W.la W.L.l.length W.lc]) (by show 2 < 7; omega) rfl fun w26 S26 => ?_
      refine ST.stoA S26 3 rfl 3 rfl (cs' := #[ptrV D.b, .int .i64 A.term, .int .i64 A.vote, .int .i64 A.sidx, .int .i64 W.L.sterm, .string W.L.sdata, .slice W.la W.L.l.length W.lc]) (by show 3 < 7; omega) rfl fun w27 S27 => ?_
      refine ST.stoA S27 3 rfl 4 rfl (cs' := #[ptrV D.b, .int .i64 A.term, .int .i64 A.vote, .int .i64 A.sidx, .int .i64 A.sterm, .string W.L.sdata, .slice W.la W.L.l.length W.lc]) (by show 4 < 7; omega) rfl fun w28 S28 => ?_
      refine ST.stoA S28 3 rfl 5 rfl (cs' := #[ptrV D.b, .int .i64 A.term, .int .i64 A.vote, .int .i64 A.sidx, .int .i64 A.sterm, .string A.sdata, .slice W.la W.L.l.length W.lc]) (by show 5 < 7; omega) rfl fun w29 S29 => ?_
      refine ST.stoA S29 3 rfl 6 rfl (cs' := #[ptrV D.b, .int .i64 A.term, .int .i64 A.vote, .int .i64 A.sidx, .int .i64 A.sterm, .string A.sdata, .slice la A.l.length lc]) (by show 6 < 7; omega) rfl fun w30 S30 => ?_
      refine ⟨0, D', la, lc, A, rfl, sm, .inr ⟨_, hA, hlay, by rw [if_pos rfl]⟩, ?_⟩
      have S31 := ((S30.drop 2).pull 2 rfl).drop 1
      have S31 : ST w0 w30 (rowE la lc A.l :: It.cells W.b #[ptrV D.b, .int .i64 A.term, .int .i64 A.vote, .int .i64 A.sidx, .int .i64 A.sterm, .string A.sdata, .slice la A.l.length lc] ty.wal_Wal :: dkE D' H) := S31
      rw [← sm.b] at S31
      exact S31.perm (List.Perm.swap _ _ _)
    · exact ⟨e, D', W.la, W.lc, W.L, rfl, sm, .inr ⟨_, hA, hlay, by rw [if_neg he]⟩, S23.drop 3⟩
end
section
variable {w0 w : World} {H : List It} {W : WalC} {D : DiskC} {m B : Nat} {a : Option Addr} {c : Nat}
end
structure LogC where
  b : Nat
  la : Option Addr
  lc : Nat
  L : LogP
section
variable {w0 w : World} {H : List It} {G : LogC}
end
section
variable {w0 w : World} {H : List It} {G : LogC} {a : Option Addr} {c : Nat}
end
section
variable {w0 w : World} {H : List It} {G : LogC} {a : Option Addr} {c : Nat}
end
section
variable {w0 w : World} {H : List It} {G : LogC} {a : Option Addr} {c : Nat}
end
section
variable {w0 w : World} {H : List It} {W : WalC} {d : Nat}
end
section
variable {w0 w : World} {H : List It} {W : WalC} {D : DiskC} {m B : Nat}
end
section
variable {w0 w : World} {C X : DiskC} {Z : List It} {m : Nat}
end
end Go.Proofs.YtfgbfodohmeamaaGreatDoor
namespace Go.Dn
set_option maxRecDepth 100000
section
variable {P : Program} {w : World}
end
end Go.Dn
namespace Go.Proofs.YtfgbfodohmeamaaGreatDoor
set_option maxRecDepth 100000
open Go.Dn Go.Proofs
open Go.RowKit (Below)
set_option linter.unusedVariables false
def NoEnv (_ : World) : Prop := True
instance (x : Int) : Decidable (okN x) := by unfold okN; infer_instance
theorem LayR.sure {D D' : DiskC} {m B : Nat} {Y r : List UInt8} {e : Int} (h : LayR D m B Y r e D') (hq : WQ D m B (some Y)) (hf : D.fused = false) (hroom : 2 * B + r.length ≤ D.room) : e = 0 ∧ WQ D' (m + 4) B (some (Y ++ r)) := by
  rcases h with h | ⟨_, _, h⟩ | ⟨_, h, _⟩
  · exact h
  · have := hq.wd.left
    omega
  · rw [hf] at h; cases h
theorem disk0_q {b room db lb B : Nat} (h : room ≤ 16777216) : WQ (disk0 b room db lb) 0 B none := by
  refine ⟨⟨disk0_ok h, Nat.le_refl _, fun n _ x c hx => ?_, fun f hf => ?_⟩, rfl, fun n _ => by simp [disk0, appAll], rfl⟩
  · simp [disk0, appAll] at hx
  · simp [disk0] at hf
theorem zero_len : (flatR (freshR zeroL)).length = 31 := by
  have d0 : digitsL 0 = [0] := by unfold digitsL; simp
  have e : flatR (freshR zeroL) = (Pay.snap (0, 0, ⟨#[]⟩)).rcd ++ ((Pay.state 0 0).rcd ++ []) := rfl
  have t0 : textL ⟨#[]⟩ = [0] := by
    unfold textL
    show digitsL 0 ++ [] = [0]
    rw [d0]
    rfl
  have n0 : numL 0 = [0] := d0
  rw [e, List.length_append, List.length_append, Pay.rcd_len, Pay.rcd_len]
  simp only [Pay.bytes, entB, n0, t0]
  rfl
section
variable {w0 w : World} {H : List It}
theorem law19_opened_ok (S : ST w0 w H) (room : Int) (h1 : 200 ≤ room) (h2 : room ≤ 16777216) :
    Calls Tryz.prog f.law19_opened #[.int .i64 room] w (Ret fun v w' => ∃ D W Y, v = .tuple #[ptrV D.b, ptrV W.b, .bool true] ∧ W.L = zeroL ∧ (D.room : Int) = room ∧ D.fused = false ∧ WQ D 20 60 (some Y) ∧ WholeF Y zeroL ∧ ST w0 w' (walI W D.b (dkE D H))) := by
  apply R.law19_opened_calls
  unfold R.law19_opened
  refine (new_ok S room).mono ?_
  rintro _ w1 ⟨_, rfl, ⟨h, _⟩ | ⟨_, b, db, lb, rfl, S1⟩⟩
  · omega
  have hz := zero_len
  refine ⟨_, _, rfl, (wal_Open_ok (X := none) (L := zeroL) (B := 60) S1 (disk0_q (by omega)) (by omega) rfl (by omega) zero_ok (by omega) ⟨rfl, by rw [hz]; show 2 * 60 + 31 ≤ room.toNat; omega⟩ (by rw [hz]; omega)).mono ?_⟩
  rintro _ w2 ⟨_, rfl, W, D', Y, rfl, hL, sm, hq, hw, S2⟩
  refine ⟨_, _, rfl, IFB_true (IFB_true ⟨D', W, Y, ?_, hL, ?_, ?_, hq.mono (by omega) (Nat.le_refl _), hw, S2⟩)⟩
  · rw [sm.b]; rfl
  · rw [sm.room]; show ((room.toNat : Nat) : Int) = room; omega
  · rw [sm.fused]; rfl
def xA : EntP := (1, 1, ⟨#[97]⟩)
def xB : EntP := (2, 2, ⟨#[98]⟩)
theorem law19_shown_ok (w : World) : Calls Tryz.prog f.law19_shown #[] w (Ret fun v w' => v = .bool true ∧ Below w.heap.size w w') := by
  apply R.law19_shown_calls
  unfold R.law19_shown
  refine (law19_opened_ok (ST.start w) 10000 (by omega) (by omega)).mono ?_
  rintro _ w1 ⟨_, rfl, D, W, Y, rfl, hL, hroom, hf, hq, hw, S1⟩
  have hYl := hq.len
  have hq := hq.mono (Nat.le_refl _) (show 60 ≤ 3000 by omega)
  refine ⟨_, _, _, rfl, IFB_false ((wal_SetState_ok S1 hq (by omega) (by rw [hL]; exact zero_ok) 2 1 (by omega) (by omega)).mono ?_)⟩
  rintro _ w2 ⟨_, rfl, e2, D2, L2, rfl, sm2, h2, S2⟩
  rw [hL] at h2
  have hs2 : setP zeroL 2 1 = some { zeroL with term := 2, vote := 1 } := by
    unfold setP
    rw [if_neg (by decide)]
  rcases h2 with ⟨h, _⟩ | ⟨L2', hs, hr2, hL2⟩
  · rw [hs2] at h; cases h
  obtain rfl := Option.some.inj (hs2.symm.trans hs)
  have hl2 : (flatR [Pay.state 2 1]).length ≤ 43 := by
    rw [flatR_one, Pay.rcd_len]
    have := (Pay.bytes_len (p := .state 2 1) ⟨by decide, by decide⟩).2
    have hz : (Pay.state 2 1).size = 0 := rfl
    omega
  obtain ⟨rfl, hq2⟩ := hr2.sure hq hf (by omega)
  rw [if_pos rfl] at hL2
  subst hL2
  have hw2 := hw.more (qs := [Pay.state 2 1]) (fun p hp => by rw [List.mem_singleton.1 hp]; exact ⟨by decide, by decide⟩) (setP_play hs2).1
  refine ⟨_, rfl, S2.newB fun b7 w3 _ _ S3 => ?_⟩
  have S3 := S3.chg 0 rfl (.refl _ _) (rowE (some ⟨b7, 0, none⟩) 2 [xA, xB]) (by
    have hb := S3.blk 0 rfl
    exact ⟨rfl, .inr ⟨b7, _, rfl, hb, Nat.le_refl _, by decide, rfl, rfl⟩⟩) (fun k hk => .inl hk)
  have S3 := S3.perm (lift_perm (W := { W with L := { zeroL with term := 2, vote := 1 } }) [rowE (some ⟨b7, 0, none⟩) 2 [xA, xB]] D2.b)
  have okL2 : LogOk { zeroL with term := 2, vote := 1 } 0 := setP_ok zero_ok (by omega) hs2
  refine (wal_Append_ok (W := { W with L := { zeroL with term := 2, vote := 1 } }) (a := some ⟨b7, 0, none⟩) (c := 2) S3 hq2 (by omega) okL2 [xA, xB] (by decide) (by show 0 + 2 ≤ 900000; omega) (by decide) (by simp) (by rw [List.length_append]; show _ + (44 + (44 + 0)) ≤ _; omega)).mono ?_
  rintro _ w4 ⟨_, rfl, e4, D4, la, lc, L4, rfl, sm4, h4, S4⟩
  have hs4 : appP { zeroL with term := 2, vote := 1 } [xA, xB] = some { zeroL with term := 2, vote := 1, l := [xA, xB] } := by
    have m1 : LogP.may { zeroL with term := 2, vote := 1 } xA := by decide
    have m2 : LogP.may { zeroL with term := 2, vote := 1, l := [xA] } xB := by decide
    simp only [appP, if_pos m1]
    exact if_pos m2
  rcases h4 with ⟨h, _⟩ | ⟨L4', hs, hr4, hL4⟩
  · have h := hs4.symm.trans h; cases h
  obtain rfl := Option.some.inj (hs4.symm.trans hs)
  have okx : ∀ y ∈ [xA, xB], okE y := by
    intro y hy
    simp only [List.mem_cons, List.not_mem_nil, or_false] at hy
    rcases hy with rfl | rfl <;> exact ⟨by decide, by decide, by decide⟩
  have hl4 : (flatR ([xA, xB].map Pay.ent)).length ≤ 88 := ents_size _ okx
  have hf2 : D2.fused = false := by rw [sm2.fused]; exact hf
  have hr2' : (D2.room : Int) = 10000 := by rw [sm2.room]; exact hroom
  obtain ⟨rfl, hq4⟩ := hr4.sure hq2 hf2 (by omega)
  rw [if_pos rfl] at hL4
  subst hL4
  have hw4 := hw2.more (qs := [xA, xB].map Pay.ent) (fun p hp => by
    obtain ⟨y, hy, rfl⟩ := List.mem_map.1 hp
    exact okx y hy) (by rw [← appP_play]; exact hs4)
  have okL4 : LogOk { zeroL with term := 2, vote := 1, l := [xA, xB] } 2 := (appP_ok _ okL2 (by decide) hs4).1
  refine ⟨_, rfl, (wal_Cut_ok S4 hq4 (by omega) okL4 (by omega) 2 (by simp only [List.length_append]; omega)).mono ?_⟩
  rintro _ w5 ⟨_, rfl, e5, D5, L5, rfl, sm5, h5, S5⟩
  have hs5 : cutP { zeroL with term := 2, vote := 1, l := [xA, xB] } 2 = some { zeroL with term := 2, vote := 1, l := [xA] } := by
    unfold cutP
    rw [if_pos (by decide)]
    rfl
  rcases h5 with ⟨h, _⟩ | ⟨L5', hs, hr5, hL5⟩
  · have h := hs5.symm.trans h; cases h
  obtain rfl := Option.some.inj (hs5.symm.trans hs)
  have hl5 : (flatR [Pay.cut 2]).length ≤ 43 := by
    rw [flatR_one, Pay.rcd_len]
    have := (Pay.bytes_len (p := .cut 2) (by show okN 2; decide)).2
    have hz : (Pay.cut 2).size = 0 := rfl
    omega
  have hf4 : D4.fused = false := by rw [sm4.fused]; exact hf2
  have hr4' : (D4.room : Int) = 10000 := by rw [sm4.room]; exact hr2'
  obtain ⟨rfl, hq5⟩ := hr5.sure hq4 hf4 (by omega)
  rw [if_pos rfl] at hL5
  subst hL5
  have hw5 := hw4.more (qs := [Pay.cut 2]) (fun p hp => by rw [List.mem_singleton.1 hp]; exact (by decide : okN 2)) (cutP_play hs5).1
  have okL5 : LogOk { zeroL with term := 2, vote := 1, l := [xA] } 2 := cutP_ok okL4 hs5
  refine ⟨_, rfl, ?_⟩
  have eb5 : D5.b = D.b := sm5.b.trans (sm4.b.trans sm2.b)
  rw [← eb5]
  have S5p := (S5.perm (wd_perm D5 D5.b))
  refine (crash_ok (ka := none) (kc := 0) S5p hq5.wd.ok (by omega) 0 [] (fun w' _ => Rd.nil _ _) (Nat.le_refl _)).mono ?_
  rintro _ w6 ⟨_, rfl, gs, D6, rfl, S6, h6⟩
  obtain ⟨X, rfl, hq6, hf6, hroom6⟩ := CrashTo.crash hq5.wd (files_nd S5p) (files_nd S6) hq5.crash h6
  refine ⟨_, rfl, (wal_Open_ok S6 hq6 (by omega) hf6 (by omega) okL5 (by omega) (hw5.says _) (by have := fresh_size okL5 (by omega); have hz : sizeL { zeroL with term := 2, vote := 1, l := [xA] } = 144 := rfl; omega)).mono ?_⟩
  rintro _ w7 ⟨_, rfl, W7, D7, Y7, rfl, hL7, sm7, hq7, hw7, S7⟩
  refine ⟨_, _, rfl, IFB_eq (fun _ => IFB_eq (fun _ => IFB_eq (fun _ => IFB_eq (fun _ => (wal_State_ok (walR_of S7)).mono ?_) (fun h => absurd rfl h)) (fun h => absurd rfl h)) (fun h => absurd rfl h)) (fun h => absurd rfl h)⟩
  rintro _ w8 ⟨_, rfl, rfl, B8⟩
  have S8 := S7.grown B8
  rw [hL7]
  refine ⟨_, _, rfl, IFB_true ((wal_Last_ok (walR_of S8) (by rw [hL7]; exact okL5.b (by omega))).mono ?_)⟩
  rintro _ w9 ⟨_, rfl, rfl, B9⟩
  rw [hL7]
  exact ⟨_, rfl, rfl, (S8.grown B9).bel⟩
theorem wal_has_nil (w : World) (i : Int) : Calls Tryz.prog f.wal_Wal_has #[.pointer none, .int .i64 i] w (Ret fun v w' => v = .bool false ∧ w' = w) := by
  apply R.wal_Wal_has_calls
  unfold R.wal_Wal_has
  exact IFB_false ⟨rfl, rfl⟩
theorem wal_Entry_nil (w : World) (i : Int) : Calls Tryz.prog f.wal_Wal_Entry #[.pointer none, .int .i64 i] w (Ret fun v w' => v = atV none ∧ Below w.heap.size w w') := by
  apply R.wal_Wal_Entry_calls
  unfold R.wal_Wal_Entry
  refine (ST.start w).newB fun b3 w1 _ B1 S1 => (wal_has_nil w1 i).mono ?_
  rintro _ w2 ⟨_, rfl, rfl, rfl⟩
  refine ⟨_, rfl, IFB_true (S1.sto 0 rfl (cs' := #[.int .i64 0, .int .i64 0, .string ⟨#[]⟩]) (by simp) rfl fun w7 S7 => S7.sto 0 rfl (cs' := #[.int .i64 0, .int .i64 0, .string ⟨#[]⟩]) (by simp) rfl fun w8 S8 => S8.sto 0 rfl (cs' := #[.int .i64 0, .int .i64 0, .string ⟨#[]⟩]) (by simp) rfl fun w9 S9 => ⟨_, S9.cell 0 rfl rfl, _, S9.cell 0 rfl rfl, _, S9.cell 0 rfl rfl, rfl, S9.bel⟩)⟩
theorem wal_TermAt_nil (w : World) (i : Int) : Calls Tryz.prog f.wal_Wal_TermAt #[.pointer none, .int .i64 i] w (Ret fun v w' => v = .tuple #[.int .i64 0, .bool false] ∧ Below w.heap.size w w') := by
  apply R.wal_Wal_TermAt_calls
  unfold R.wal_Wal_TermAt
  refine ⟨fun st w1 => st = [.bool false] ∧ w1 = w, IFB_false ⟨rfl, rfl⟩, ?_⟩
  rintro _ w1 ⟨hst, rfl⟩
  cases hst
  refine IFB_false ((wal_Entry_nil w1 i).mono ?_)
  rintro _ w2 ⟨_, rfl, rfl, B2⟩
  exact ⟨_, _, _, _, rfl, ((ST.start w1).grown B2).lit3 fun b14 w3 _ S3 => ⟨_, S3.cell 0 rfl rfl, rfl, S3.bel⟩⟩
theorem wal_Last_nil (w : World) : Calls Tryz.prog f.wal_Wal_Last #[.pointer none] w (Ret fun v w' => v = .int .i64 0 ∧ w' = w) := by
  apply R.wal_Wal_Last_calls
  unfold R.wal_Wal_Last
  exact IFB_true ⟨rfl, rfl⟩
theorem wal_State_nil (w : World) : Calls Tryz.prog f.wal_Wal_State #[.pointer none] w (Ret fun v w' => v = .agg #[.int .i64 0, .int .i64 0] ∧ Below w.heap.size w w') := by
  apply R.wal_Wal_State_calls
  unfold R.wal_Wal_State
  exact (ST.start w).newB fun b2 w1 _ B1 S1 => IFB_true (S1.sto 0 rfl (cs' := #[.int .i64 0, .int .i64 0]) (by simp) rfl fun w4 S4 => S4.sto 0 rfl (cs' := #[.int .i64 0, .int .i64 0]) (by simp) rfl fun w5 S5 => ⟨_, S5.cell 0 rfl rfl, _, S5.cell 0 rfl rfl, rfl, S5.bel⟩)
theorem wal_Snap_nil (w : World) : Calls Tryz.prog f.wal_Wal_Snap #[.pointer none] w (Ret fun v w' => v = .agg #[.int .i64 0, .int .i64 0, .string ⟨#[]⟩] ∧ Below w.heap.size w w') := by
  apply R.wal_Wal_Snap_calls
  unfold R.wal_Wal_Snap
  exact (ST.start w).newB fun b2 w1 _ B1 S1 => IFB_true (S1.sto 0 rfl (cs' := #[.int .i64 0, .int .i64 0, .string ⟨#[]⟩]) (by simp) rfl fun w4 S4 => S4.sto 0 rfl (cs' := #[.int .i64 0, .int .i64 0, .string ⟨#[]⟩]) (by simp) rfl fun w5 S5 => S5.sto 0 rfl (cs' := #[.int .i64 0, .int .i64 0, .string ⟨#[]⟩]) (by simp) rfl fun w6 S6 => ⟨_, S6.cell 0 rfl rfl, _, S6.cell 0 rfl rfl, _, S6.cell 0 rfl rfl, rfl, S6.bel⟩)
theorem WalNone_ok {w : World} (he : NoEnv w) (i : Int) (wi : (Lit.int .i64 i).wf = true) : Calls Tryz.prog f.law19_WalNone #[.int .i64 i] w (Ret fun v w' => v = .bool true ∧ Below w.heap.size w w') := by
  apply R.law19_WalNone_calls
  unfold R.law19_WalNone
  refine (law19_shown_ok w).mono ?_
  rintro _ w1 ⟨_, rfl, rfl, B1⟩
  have hopen : Calls Tryz.prog f.wal_Open #[.pointer none] w1 (Ret fun v w' => v = .tuple #[.pointer none, .int .i64 1] ∧ w' = w1) := by
    apply R.wal_Open_calls
    unfold R.wal_Open
    exact IFB_true ⟨rfl, rfl⟩
  refine ⟨_, rfl, hopen.mono ?_⟩
  rintro _ w2 ⟨_, rfl, rfl, rfl⟩
  refine ⟨_, _, rfl, (wal_Entry_nil w2 i).mono ?_⟩
  rintro _ w3 ⟨_, rfl, rfl, B3⟩
  refine ⟨_, _, _, _, rfl, ((ST.start w).grown (below_trans B1 B3)).lit3 fun b12 w7 _ S7 => (wal_TermAt_nil w7 i).mono ?_⟩
  rintro _ w8 ⟨_, rfl, rfl, B8⟩
  have S8 := S7.grown B8
  refine ⟨_, _, rfl, IFB_true (IFB_true (IFB_eq (fun _ => IFB_true (IFB_true ((wal_Last_nil w8).mono ?_))) (fun h => absurd rfl h)))⟩
  rintro _ w9 ⟨_, rfl, rfl, rfl⟩
  refine ⟨_, rfl, IFB_eq (fun _ => (wal_State_nil w9).mono ?_) (fun h => absurd rfl h)⟩
  rintro _ w10 ⟨_, rfl, rfl, B10⟩
  have S10 := S8.grown B10
  refine ⟨_, _, rfl, IFB_true ((wal_Snap_nil w10).mono ?_)⟩
  rintro _ w11 ⟨_, rfl, rfl, B11⟩
  have S11 := S10.grown B11
  have hset : Calls Tryz.prog f.wal_Wal_SetState #[.pointer none, .agg #[.int .i64 0, .int .i64 0]] w11 (Ret fun v w' => v = .int .i64 1 ∧ Below w11.heap.size w11 w') := by
    apply R.wal_Wal_SetState_calls
    unfold R.wal_Wal_SetState
    exact (ST.start w11).newB fun b4 w1 _ B1 S1 => ⟨fun _ _ => False, IFB_true ⟨rfl, B1⟩, fun _ h => h.elim⟩
  refine ⟨_, _, _, rfl, IFB_true (hset.mono ?_)⟩
  rintro _ w12 ⟨_, rfl, rfl, B12⟩
  have S12 := S11.grown B12
  have happ : Calls Tryz.prog f.wal_Wal_Append #[.pointer none, .slice none 0 0] w12 (Ret fun v w' => v = .int .i64 1 ∧ w' = w12) := by
    apply R.wal_Wal_Append_calls
    unfold R.wal_Wal_Append
    exact IFB_true ⟨rfl, rfl⟩
  refine ⟨_, rfl, IFB_eq (fun _ => happ.mono ?_) (fun h => absurd rfl h)⟩
  rintro _ w13 ⟨_, rfl, rfl, rfl⟩
  have hcut : Calls Tryz.prog f.wal_Wal_Cut #[.pointer none, .int .i64 i] w13 (Ret fun v w' => v = .int .i64 1 ∧ w' = w13) := by
    apply R.wal_Wal_Cut_calls
    unfold R.wal_Wal_Cut
    exact IFB_true ⟨rfl, rfl⟩
  refine ⟨_, rfl, IFB_eq (fun _ => hcut.mono ?_) (fun h => absurd rfl h)⟩
  rintro _ w14 ⟨_, rfl, rfl, rfl⟩
  have hsn : Calls Tryz.prog f.wal_Wal_SetSnap #[.pointer none, .agg #[.int .i64 0, .int .i64 0, .string ⟨#[]⟩]] w14 (Ret fun v w' => v = .int .i64 1 ∧ Below w14.heap.size w14 w') := by
    apply R.wal_Wal_SetSnap_calls
    unfold R.wal_Wal_SetSnap
    exact (ST.start w14).newB fun b4 w1 _ B1 S1 => IFB_true ⟨rfl, B1⟩
  refine ⟨_, rfl, IFB_eq (fun _ => hsn.mono ?_) (fun h => absurd rfl h)⟩
  rintro _ w15 ⟨_, rfl, rfl, B15⟩
  exact ⟨_, rfl, rfl, (S12.grown B15).bel⟩
end
end Go.Proofs.YtfgbfodohmeamaaGreatDoor
