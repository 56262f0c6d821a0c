/-
  The reading of a whole function: what it asks suffices for the call.
-/
import Derived.Test.YtpaajmaecjjfjaaDoorDnDraw
import Derived.Scope
namespace Go.Dn
section
variable {P : Program} {n : Nat} {L C : Hints}

theorem St.refl {a : Act} {W : Nat → Bool} (hn : a.tmps.size = n) (hd : a.defers = []) : St n a W a := ⟨hn, hd, fun _ _ => rfl⟩
theorem St.trans {a b c : Act} {W W' V : Nat → Bool} (h : St n a W b) (h' : St n b W' c) (hv : ∀ i, V i = false → W i = false ∧ W' i = false) : St n a V c :=
  ⟨h'.size, h'.defers, fun i hi => (h'.same i (hv i hi).2).trans (h.same i (hv i hi).1)⟩
theorem St.weaken {a b : Act} {W V : Nat → Bool} (h : St n a W b) (hv : ∀ i, V i = false → W i = false) : St n a V b := ⟨h.size, h.defers, fun i hi => h.same i (hv i hi)⟩

theorem ALL1_inst {z : Value} {f : Value → Prop} (h : ALL1 z f) {v : Value} (hl : like1 z v = true) : f v := by
  cases z <;> first
    | exact h v
    | (cases v <;> first | (simp [like1] at hl; done) | exact h _ | exact h _ _ _ | (have := intKindB_eq hl; subst this; exact h _))
theorem ALLL_inst : ∀ {zs vs : List Value} {f : List Value → Prop}, ALLL zs f → likeL zs vs = true → f vs
  | [], [], _, h, _ => h
  | z :: zs, v :: vs, f, h, hl => by
    simp only [likeL, Bool.and_eq_true] at hl
    exact ALLL_inst (f := fun vs => f (v :: vs)) (ALL1_inst h hl.1) hl.2
  | [], _ :: _, _, _, hl => by simp [likeL] at hl
  | _ :: _, [], _, _, hl => by simp [likeL] at hl
theorem ALLV_inst {z : Value} {f : Value → Prop} (h : ALLV z f) {v : Value} (hl : likeV z v = true) : f v := by
  unfold ALLV at h
  unfold likeV at hl
  split at h
  · rename_i zs
    simp only at hl
    split at hl
    · rename_i vs
      have := ALLL_inst h hl
      simpa using this
    · cases hl
  · rename_i hne
    split at hl
    · rename_i zs; exact absurd rfl (hne zs)
    · exact ALL1_inst h hl
theorem ALLM_inst : ∀ {zs vs : List Value} {f : List Value → Prop}, ALLM zs f → likeM zs vs = true → f vs
  | [], [], _, h, _ => h
  | z :: zs, v :: vs, f, h, hl => by
    simp only [likeM, Bool.and_eq_true] at hl
    exact ALLM_inst (f := fun vs => f (v :: vs)) (ALLV_inst h hl.1) hl.2
  | [], _ :: _, _, _, hl => by simp [likeM] at hl
  | _ :: _, [], _, _, hl => by simp [likeM] at hl

def lookA (a : Act) : List (Nat × Value) → Option (List Value)
  | [] => some []
  | x :: r => match a.tmps[x.1]?, lookA a r with
    | some v, some vs => some (v :: vs)
    | _, _ => none
theorem lookAll_A {fr : Fr} {a : Act} (hg : Agrees fr a) : ∀ {mods : List (Nat × Value)} {s : List Value}, lookAll fr mods = some s → lookA a mods = some s
  | [], s, h => by simpa [lookAll, lookA] using h
  | x :: r, s, h => by
    unfold lookAll at h
    split at h
    · rename_i v vs hv hvs
      simp at h
      subst h
      simp [lookA, hg _ _ hv, lookAll_A hg hvs]
    · cases h
theorem ENT_out {mods : List (Nat × Value)} {fr : Fr} {k : List Value → Prop} {a : Act} (hg : Agrees fr a) (h : ENT mods fr k) : ∃ s, lookA a mods = some s ∧ likeM (mods.map (·.2)) s = true ∧ k s := by
  unfold ENT at h
  split at h
  · rename_i s hs
    cases hl : likeM (mods.map (·.2)) s with
    | false => rw [hl] at h; exact h.elim
    | true => rw [hl] at h; exact ⟨s, lookAll_A hg hs, hl, h⟩
  · exact h.elim
theorem keepFr_agrees {fr : Fr} {a a' : Act} {c : Code} (hg : Agrees fr a) (hsame : ∀ i, writes i c = false → a'.tmps[i]? = a.tmps[i]?) : ∀ {keep : List Nat}, keepOk c keep = true → Agrees (keepFr fr keep) a'
  | [], _ => by intro i v h; simp [keepFr, look] at h
  | i :: r, hk => by
    have hk' : writes i c = false ∧ keepOk c r = true := by simpa [keepOk] using hk
    unfold keepFr
    split
    · rename_i v hv
      intro j u hu
      rw [look_cons] at hu
      by_cases hij : i = j
      · subst hij
        simp at hu
        subst hu
        rw [hsame i hk'.1]
        exact hg _ _ hv
      · simp only [hij, if_false] at hu
        exact keepFr_agrees hg hsame hk'.2 j u hu
    · exact keepFr_agrees hg hsame hk'.2
theorem frameOf_agrees {a : Act} {rest : Fr} (hr : Agrees rest a) : ∀ {mods : List (Nat × Value)} {s : List Value}, lookA a mods = some s → Agrees (frameOf mods s rest) a
  | [], s, _ => by simpa [frameOf] using hr
  | x :: r, s, h => by
    unfold lookA at h
    split at h
    · rename_i v vs hv hvs
      simp at h
      subst h
      intro j u hu
      simp only [frameOf] at hu
      rw [look_cons] at hu
      by_cases hij : x.1 = j
      · subst hij
        simp at hu
        subst hu
        exact hv
      · simp only [hij, if_false] at hu
        exact frameOf_agrees hr hvs j u hu
    · cases h

theorem den_sound (hmix : P.follows .mixedOrders = true) (c : Code) : ∀ (K : Exit → Fr → World → Prop) (fr : Fr) (w : World) (a : Act), Agrees fr a → a.tmps.size = n → a.defers = [] →
    den P n L C c K fr w → c.wp P (Lift n a (fun i => writes i c) K) a w := by
  induction c with
  | skip => intro K fr w a hg hn hd h; exact wp_skip ⟨.refl hn hd, fr, hg, h⟩
  | label l => intro K fr w a hg hn hd h; exact wp_label ⟨.refl hn hd, fr, hg, h⟩
  | exit id => intro K fr w a hg hn hd h; exact wp_exit ⟨.refl hn hd, fr, hg, h⟩
  | ret => intro K fr w a hg hn hd h; exact wp_ret ⟨.refl hn hd, fr, hg, h⟩
  | seq x y ihx ihy =>
    intro K fr w a hg hn hd h
    unfold den at h
    split at h
    · refine wp_seq (wp_mono (ihx _ fr w a hg hn hd h) ?_)
      rintro e a' w' ⟨hst, fr', hg', hk⟩
      cases e with
      | normal =>
        refine wp_mono (ihy K fr' w' a' hg' hst.size hst.defers hk) ?_
        rintro e2 a2 w2 ⟨hst2, fr2, hg2, hk2⟩
        exact ⟨hst.trans hst2 fun i hi => by simpa [writes] using hi, fr2, hg2, hk2⟩
      | _ => exact ⟨hst.weaken fun i hi => by simp [writes] at hi; exact hi.1, fr', hg', hk⟩
    · rename_i hint hh
      cases hko : keepOk x hint.keep with
      | false => rw [hko] at h; exact h.elim
      | true =>
        rw [hko] at h
        obtain ⟨Y, hbefore, hbehind⟩ := h
        refine wp_seq (wp_mono (ihx _ fr w a hg hn hd hbefore) ?_)
        rintro e a' w' ⟨hst, fr', hg', hk⟩
        cases e with
        | normal =>
          obtain ⟨s, hs, hl, hY⟩ := ENT_out hg' hk
          have hden := ALLM_inst hbehind hl w' hY
          have hag := frameOf_agrees (keepFr_agrees (keep := hint.keep) hg hst.same hko) hs
          refine wp_mono (ihy K _ w' a' hag hst.size hst.defers hden) ?_
          rintro e2 a2 w2 ⟨hst2, fr2, hg2, hk2⟩
          exact ⟨hst.trans hst2 fun i hi => by simpa [writes] using hi, fr2, hg2, hk2⟩
        | _ => exact ⟨hst.weaken fun i hi => by simp [writes] at hi; exact hi.1, fr', hg', hk⟩
  | cond c x y ihx ihy =>
    intro K fr w a hg hn hd h
    unfold den at h
    split at h
    · rename_i t ht
      have hc := hg.eval _ _ ht
      have key : (t = true → ∃ fr', Agrees fr' a ∧ den P n L C x K fr' w) ∧ (t = false → ∃ fr', Agrees fr' a ∧ den P n L C y K fr' w) := by
        split at h
        · rename_i i
          have hag := hg.again (show look fr i = some (.bool t) from ht)
          cases t with
          | true => exact ⟨fun _ => ⟨_, hag, h⟩, by simp⟩
          | false => exact ⟨by simp, fun _ => ⟨_, hag, h⟩⟩
        · cases t with
          | true => exact ⟨fun _ => ⟨_, hg, h⟩, by simp⟩
          | false => exact ⟨by simp, fun _ => ⟨_, hg, h⟩⟩
      refine wp_cond_split hc (fun ht => ?_) (fun hf => ?_)
      · obtain ⟨fr', hg', h'⟩ := key.1 ht
        refine wp_mono (ihx K fr' w a hg' hn hd h') ?_
        rintro e a' w' ⟨hst, r⟩
        exact ⟨hst.weaken fun i hi => by simp [writes] at hi; exact hi.1, r⟩
      · obtain ⟨fr', hg', h'⟩ := key.2 hf
        refine wp_mono (ihy K fr' w a hg' hn hd h') ?_
        rintro e a' w' ⟨hst, r⟩
        exact ⟨hst.weaken fun i hi => by simp [writes] at hi; exact hi.2, r⟩
    · exact h.elim
  | block id c ih =>
    intro K fr w a hg hn hd h
    unfold den at h
    refine wp_block (wp_mono (ih _ fr w a hg hn hd h) ?_)
    rintro e a' w' ⟨hst, fr', hg', hk⟩
    cases e with
    | exit j =>
      simp only [Exit.inBlock]
      replace hk : bif Nat.beq j id then K .normal fr' w' else K (.exit j) fr' w' := hk
      cases hb : Nat.beq j id with
      | true =>
        have hji : j = id := Nat.eq_of_beq_eq_true hb
        rw [if_pos hji]
        rw [hb] at hk
        exact ⟨hst, fr', hg', hk⟩
      | false =>
        have hji : ¬ j = id := fun he => by subst he; simp at hb
        rw [if_neg hji]
        rw [hb] at hk
        exact ⟨hst, fr', hg', hk⟩
    | _ => exact ⟨hst, fr', hg', hk⟩
  | loop c ih =>
    intro K fr w a hg hn hd h
    unfold den at h
    split at h
    · exact h.elim
    · rename_i hint hh
      cases hko : keepOk c hint.keep with
      | false => rw [hko] at h; exact h.elim
      | true =>
        rw [hko] at h
        obtain ⟨Inv, mu, hent, hall⟩ := h
        refine wp_loop (fun a' w' => St n a (fun i => writes i c) a' ∧ ∃ s, lookA a' hint.mods = some s ∧ likeM (hint.mods.map (·.2)) s = true ∧ Inv s w')
          (fun a' w' => mu ((lookA a' hint.mods).getD []) w') ?_ ?_
        · obtain ⟨s, hs, hl, hi⟩ := ENT_out hg hent
          exact ⟨.refl hn hd, s, hs, hl, hi⟩
        · rintro a' w' ⟨hst, s, hs, hl, hi⟩
          have hden := ALLM_inst hall hl w' hi
          have hag := frameOf_agrees (keepFr_agrees (keep := hint.keep) hg hst.same hko) hs
          refine wp_mono (ih _ _ w' a' hag hst.size hst.defers hden) ?_
          rintro e a2 w2 ⟨hst2, fr2, hg2, hk2⟩
          have hst3 : St n a (fun i => writes i c) a2 := hst.trans hst2 fun i hi => ⟨hi, hi⟩
          cases e with
          | normal =>
            obtain ⟨s2, hs2, hl2, hi2, hlt⟩ := ENT_out hg2 hk2
            exact ⟨⟨hst3, s2, hs2, hl2, hi2⟩, by simpa [hs, hs2] using hlt⟩
          | _ => exact ⟨hst3, fr2, hg2, hk2⟩
  | region id ops draw =>
    intro K fr w a hg hn hd h
    cases draw with
    | false =>
      refine wp_region ?_
      have := dOps_sound (P := P) (n := n) (ops := ops) (a0 := a) (K := K) ops.toList 0 rfl fr w a hg (.refl hn hd) h
      rw [List.range_eq_range']
      rw [Array.length_toList] at this
      exact this
    | true =>
      unfold den at h
      cases hsel : Region.noSelect ops with
      | false => rw [hsel] at h; exact h.elim
      | true =>
        rw [hsel] at h
        have := dDraw_sound (P := P) (n := n) (ops := ops) (a0 := a) hsel (K := K) ops.size _ [] fr w.drew a hg (.refl hn hd) Closed.start (by simp) h
        refine wp_mono (wp_region_any hmix (wpAny_of_X _ _ _ _ _ this)) ?_
        rintro e a' w' ⟨hst, fr', hg', hk⟩
        cases e with
        | normal => exact ⟨hst, fr', hg', hk⟩
        | _ => exact hk.elim
  | scope c ih =>
    intro K fr w a hg hn hd h
    unfold den at h
    refine wp_scope_straight (wp_mono (ih _ fr w a hg hn hd h) ?_)
    rintro e a' w' ⟨hst, fr', hg', hk⟩
    cases e with
    | goto l => exact hk.elim
    | _ => exact ⟨hst, fr', hg', hk⟩
  | rangeFunc f ps x y ihx ihy => intro K fr w a hg hn hd h; exact h.elim
  | goto l => intro K fr w a hg hn hd h; exact h.elim
  | refuse s => intro K fr w a hg hn hd h; exact h.elim

theorem argFr_agrees (tmps : Array Value) : ∀ (args : List Value) (i : Nat), (∀ j v, args[j]? = some v → tmps[i + j]? = some v) → Agrees (argFr i args) ⟨tmps, []⟩
  | [], _, _ => by intro j v h; simp [argFr, look] at h
  | x :: r, i, h => by
    intro j u hu
    simp only [argFr] at hu
    rw [look_cons] at hu
    by_cases hij : i = j
    · subst hij
      simp at hu
      subst hu
      exact h 0 x rfl
    · simp only [hij, if_false] at hu
      exact argFr_agrees tmps r (i + 1) (fun k v hk => by have := h (k + 1) v (by simpa using hk); rwa [show i + (k + 1) = i + 1 + k by omega] at this) j u hu

def resOne (tmps : Array Value) : ResultVar → Sem Value
  | .tmp t => pure (tmps.getD t undef)
  | .cell a t => do loadVar t (← asAddr (tmps.getD a undef))
theorem resD_run {fr : Fr} {a : Act} (hg : Agrees fr a) : ∀ (rs : List ResultVar) (k : List Value → World → Prop) (w : World), resD P fr rs k w →
    ∃ vs, k vs w ∧ vs.length = rs.length ∧ (rs.mapM (resOne a.tmps)).run P w = .ok vs w
  | [], k, w, h => ⟨[], h, rfl, by simp⟩
  | .tmp t :: r, k, w, h => by
    obtain ⟨v, hv, h⟩ := VAL_out h
    obtain ⟨vs, hk, hl, hr⟩ := resD_run hg r _ w h
    refine ⟨v :: vs, hk, by simp [hl], ?_⟩
    have := hg _ _ hv
    simp [resOne, this, hr]
  | .cell ad t :: r, k, w, h => by
    obtain ⟨p, v, hh, hx, hk0, hholds, hrun⟩ := loadD_run h
    obtain ⟨vs, hk, hl, hr⟩ := resD_run hg r _ w hk0
    refine ⟨v :: vs, hk, by simp [hl], ?_⟩
    have h1 := hg _ _ hx
    have h2 := hrun w hholds
    simp only [Instr.loadAt, Instr.sureAddr, Sem.run_bind, Sem.run_pure, Result.andThen_ok] at h2
    simp [resOne, h1, asAddr, h2, hr]

theorem results_run {fn : Func} {tmps : Array Value} {vs : List Value} {w : World} (h : (fn.results.toList.mapM (resOne tmps)).run P w = .ok vs w) :
    (results fn tmps).run P w = .ok (oneOrTuple vs) w := by
  have e : results fn tmps = (do let vs ← fn.results.mapM (resOne tmps); pure (if h : vs.size = 1 then vs[0] else .tuple vs)) := by
    rfl
  rw [e]
  have h2 : (fn.results.mapM (resOne tmps)).run P w = .ok vs.toArray w := by
    rw [Array.mapM_eq_mapM_toList]
    simp [h]
  simp only [Sem.run_bind, h2, Result.andThen_ok, Sem.run_pure]
  congr 1
  match vs with
  | [] => simp [oneOrTuple]
  | [v] => simp [oneOrTuple]
  | _ :: _ :: _ => simp [oneOrTuple]

/-- A CALL, out of the reading of the function. -/
theorem dFun_calls (hmix : P.follows .mixedOrders = true) {f : FuncId} {args : List Value} {k : Value → World → Prop} {w : World} (h : dFun P L C f args k w) :
    Calls P f ⟨args⟩ w fun e w' => ∃ v, e = .returned v ∧ k v w' := by
  unfold dFun at h
  split at h
  · rename_i fn hf
    split at h
    · rename_i c hc
      cases hl : Nat.ble args.length fn.ntmps with
      | false => rw [hl] at h; exact h.elim
      | true =>
        rw [hl] at h
        simp only [cond_true] at h
        have hle : args.length ≤ fn.ntmps := Nat.le_of_ble_eq_true hl
        refine calls_of_wp hf hc ?_
        have hag : Agrees (argFr 0 args) ⟨(⟨args⟩ : Array Value) ++ Array.replicate (fn.ntmps - args.length) undef, []⟩ := by
          refine argFr_agrees _ args 0 fun j v hj => ?_
          have hjl : j < args.length := (List.getElem?_eq_some_iff.1 hj).1
          rw [Nat.zero_add, Array.getElem?_append_left (by simpa using hjl)]
          simpa using hj
        refine wp_mono (den_sound (n := fn.ntmps) hmix c _ (argFr 0 args) w _ hag (by simp; omega) rfl h) ?_
        rintro e a' w' ⟨hst, fr', hg', hk⟩
        cases e with
        | normal =>
          obtain ⟨vs, hk, _, hr⟩ := resD_run hg' _ _ _ hk
          exact ⟨hst.defers, _, results_run hr, _, rfl, hk⟩
        | ret =>
          obtain ⟨vs, hk, _, hr⟩ := resD_run hg' _ _ _ hk
          exact ⟨hst.defers, _, results_run hr, _, rfl, hk⟩
        | _ => exact hk.elim
    · exact h.elim
  · exact h.elim
end
end Go.Dn
