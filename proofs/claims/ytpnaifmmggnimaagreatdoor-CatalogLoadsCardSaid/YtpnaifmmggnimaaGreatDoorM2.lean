/-
  Texts of this claim, laid one behind the other by a program of mine (install.py): Dn.Main.
-/
import Derived.Test.YtpnaifmmggnimaaGreatDoorM1
import Derived.Scope
import Derived.RangeFuncRecord
/-
  The reading of a whole function: what it asks suffices for the call.
-/
namespace Go.Dn
section
variable {P : Program} {n : Nat} {L C : Hints}
theorem St.refl {a : Act} {W : Nat → Bool} {nr : Bool} (hn : a.tmps.size = n) : St n a W nr a := ⟨hn, fun _ => rfl, fun _ _ => rfl⟩
theorem St.trans {a b c : Act} {W W' V : Nat → Bool} {r r' q : Bool} (h : St n a W r b) (h' : St n b W' r' c) (hv : ∀ i, V i = false → W i = false ∧ W' i = false) (hq : q = true → r = true ∧ r' = true) : St n a V q c :=
  ⟨h'.size, fun e => (h'.defers (hq e).2).trans (h.defers (hq e).1), fun i hi => (h'.same i (hv i hi).2).trans (h.same i (hv i hi).1)⟩
theorem St.weaken {a b : Act} {W V : Nat → Bool} {r q : Bool} (h : St n a W r b) (hv : ∀ i, V i = false → W i = false) (hq : q = true → r = true) : St n a V q b := ⟨h.size, fun e => h.defers (hq e), fun i hi => h.same i (hv i hi)⟩
theorem ALL1_inst {z : Value} {f : Value → Prop} (h : ALL1 z f) {v : Value} (hl : like1 z v = true) : f v := by
  cases z <;> first
    | exact h v
    | (cases v <;> first | (simp [like1] at hl; done) | exact h _ | exact h _ _ _ | (have := intKindB_eq hl; subst this; exact h _) | (rename_i fn _ _; cases fn <;> first | (simp [like1] at hl; done) | exact h _ _ _))
theorem ALLL_inst : ∀ {zs vs : List Value} {f : List Value → Prop}, ALLL zs f → likeL zs vs = true → f vs
  | [], [], _, h, _ => h
  | z :: zs, v :: vs, f, h, hl => by
    simp only [likeL, Bool.and_eq_true] at hl
    exact ALLL_inst (f := fun vs => f (v :: vs)) (ALL1_inst h hl.1) hl.2
  | [], _ :: _, _, _, hl => by simp [likeL] at hl
  | _ :: _, [], _, _, hl => by simp [likeL] at hl
theorem ALLV_inst {z : Value} {f : Value → Prop} (h : ALLV z f) {v : Value} (hl : likeV z v = true) : f v := by
  unfold ALLV at h
  unfold likeV at hl
  split at h
  · rename_i zs
    simp only at hl
    split at hl
    · rename_i vs
      have := ALLL_inst h hl
      simpa using this
    · cases hl
  · rename_i hne
    split at hl
    · rename_i zs; exact absurd rfl (hne zs)
    · exact ALL1_inst h hl
theorem ALLM_inst : ∀ {zs vs : List Value} {f : List Value → Prop}, ALLM zs f → likeM zs vs = true → f vs
  | [], [], _, h, _ => h
  | z :: zs, v :: vs, f, h, hl => by
    simp only [likeM, Bool.and_eq_true] at hl
    exact ALLM_inst (f := fun vs => f (v :: vs)) (ALLV_inst h hl.1) hl.2
  | [], _ :: _, _, _, hl => by simp [likeM] at hl
  | _ :: _, [], _, _, hl => by simp [likeM] at hl
def lookA (a : Act) : List (Nat × Value) → Option (List Value)
  | [] => some []
  | x :: r => match a.tmps[x.1]?, lookA a r with
    | some v, some vs => some (v :: vs)
    | _, _ => none
theorem lookAll_A {fr : Fr} {a : Act} (hg : Agrees fr a) : ∀ {mods : List (Nat × Value)} {s : List Value}, lookAll fr mods = some s → lookA a mods = some s
  | [], s, h => by simpa [lookAll, lookA] using h
  | x :: r, s, h => by
    unfold lookAll at h
    split at h
    · rename_i v vs hv hvs
      simp at h
      subst h
      simp [lookA, hg _ _ hv, lookAll_A hg hvs]
    · cases h
theorem ENT_out {mods : List (Nat × Value)} {fr : Fr} {k : List Value → Prop} {a : Act} (hg : Agrees fr a) (h : ENT mods fr k) : ∃ s, lookA a mods = some s ∧ likeM (mods.map (·.2)) s = true ∧ k s := by
  unfold ENT at h
  split at h
  · rename_i s hs
    cases hl : likeM (mods.map (·.2)) s with
    | false => rw [hl] at h; exact h.elim
    | true => rw [hl] at h; exact ⟨s, lookAll_A hg hs, hl, h⟩
  · exact h.elim
theorem keepFr_agrees {fr : Fr} {a a' : Act} {c : Code} (hg : Agrees fr a) (hsame : ∀ i, writes i c = false → a'.tmps[i]? = a.tmps[i]?) : ∀ {keep : List Nat}, keepOk c keep = true → Agrees (keepFr fr keep) a'
  | [], _ => by intro i v h; simp [keepFr, look] at h
  | i :: r, hk => by
    have hk' : writes i c = false ∧ keepOk c r = true := by simpa [keepOk] using hk
    unfold keepFr
    split
    · rename_i v hv
      intro j u hu
      rw [look_cons] at hu
      by_cases hij : i = j
      · subst hij
        simp at hu
        subst hu
        rw [hsame i hk'.1]
        exact hg _ _ hv
      · simp only [hij, if_false] at hu
        exact keepFr_agrees hg hsame hk'.2 j u hu
    · exact keepFr_agrees hg hsame hk'.2
theorem frameOf_agrees {a : Act} {rest : Fr} (hr : Agrees rest a) : ∀ {mods : List (Nat × Value)} {s : List Value}, lookA a mods = some s → Agrees (frameOf mods s rest) a
  | [], s, _ => by simpa [frameOf] using hr
  | x :: r, s, h => by
    unfold lookA at h
    split at h
    · rename_i v vs hv hvs
      simp at h
      subst h
      intro j u hu
      simp only [frameOf] at hu
      rw [look_cons] at hu
      by_cases hij : x.1 = j
      · subst hij
        simp at hu
        subst hu
        exact hv
      · simp only [hij, if_false] at hu
        exact frameOf_agrees hr hvs j u hu
    · cases h
theorem ALL1_all {z : Value} {f : Value → Prop} (h : ∀ v, f v) : ALL1 z f := by
  cases z <;> first | exact fun _ => h _ | exact fun _ _ _ => h _
theorem ALLL_all : ∀ {zs : List Value} {f : List Value → Prop}, (∀ vs, vs.length = zs.length → f vs) → ALLL zs f
  | [], _, h => h [] rfl
  | z :: zs, _, h => ALL1_all fun v => ALLL_all fun vs hl => h (v :: vs) (by simp [hl])
theorem ALLV_all {z : Value} {f : Value → Prop} (h : ∀ v, f v) : ALLV z f := by
  unfold ALLV
  split
  · exact ALLL_all fun _ _ => h _
  · exact ALL1_all h
theorem ALLM_all : ∀ {zs : List Value} {f : List Value → Prop}, (∀ vs, vs.length = zs.length → f vs) → ALLM zs f
  | [], _, h => h [] rfl
  | z :: zs, _, h => ALLV_all fun v => ALLM_all fun vs hl => h (v :: vs) (by simp [hl])
theorem orJ_out {j : Option Code} {f : Exit → Prop} : ∀ {l : List (Option Code × Exit)}, orJ j f l → ∃ x ∈ l, j = x.1 ∧ f x.2
  | [x], h => ⟨x, List.mem_cons_self, h⟩
  | x :: y :: r, h => by
    rcases h with h | h
    · exact ⟨x, List.mem_cons_self, h⟩
    · obtain ⟨z, hz, h⟩ := orJ_out h
      exact ⟨z, List.mem_cons_of_mem _ hz, h⟩
theorem jumpsOf_out {c : Code} {x : Option Code × Exit} (h : x ∈ jumpsOf c) : x = (none, .normal) ∨ x = (some .ret, .ret) ∨ ∃ i, x = (some (.exit i), .exit i) := by
  unfold jumpsOf at h
  rcases List.mem_cons.1 h with h | h
  · exact .inl h
  · rcases List.mem_append.1 h with h | h
    · cases hr : hasRet c with
      | true => rw [hr] at h; exact .inr (.inl (by simpa using h))
      | false => rw [hr] at h; simp at h
    · obtain ⟨i, _, e⟩ := List.mem_map.1 h
      exact .inr (.inr ⟨i, e.symm⟩)
theorem putAll_agrees : ∀ (ps : List Nat) (vs : List Value) (fr : Fr) (t : Array Value), Agrees fr ⟨t, []⟩ → t.size = n →
    Agrees (putAll n fr ps vs) ⟨(ps.zip vs).foldl (fun t x => t.setIfInBounds x.1 x.2) t, []⟩ ∧ ((ps.zip vs).foldl (fun t x => t.setIfInBounds x.1 x.2) t).size = n
  | [], _, fr, t, h, hn => by simpa [putAll] using ⟨h, hn⟩
  | _ :: _, [], fr, t, h, hn => by simpa [putAll] using ⟨h, hn⟩
  | p :: ps, v :: vs, fr, t, h, hn => by
    have := putAll_agrees ps vs (put n fr (some p) v) (t.setIfInBounds p v) (h.put hn (some p) v) (by simpa using hn)
    simpa [putAll] using this
theorem natsB_eq : ∀ {a b : List Nat}, natsB a b = true → a = b
  | [], [], _ => rfl
  | x :: r, y :: s, h => by
    simp only [natsB, Bool.and_eq_true] at h
    rw [Nat.eq_of_beq_eq_true h.1, natsB_eq h.2]
  | [], _ :: _, h => by simp [natsB] at h
  | _ :: _, [], h => by simp [natsB] at h
theorem run_enterLoop_inner {w : World} {lo : Nat} {ro : Loop} (h : w.heap[lo]? = some (.loop ro)) (fn : FuncId) (tmps : Array Value) (ps : Array Tmp) (assign body : Code) :
    (Instr.enterLoop fn tmps ps assign body (some lo)).run P w =
      .ok (w.heap.size, []) (w.alloc (.loop { state := .ready, pending := none, fn, tmps, params := ps, assign, body, defers := ro.defers })) := by
  unfold Instr.enterLoop
  simp only [Sem.run_bind, run_getLoop h, run_newObj_alloc, Result.andThen, Sem.run_pure]
section scope
variable {b : Frame} {a : Act} {k : List Item} {cs : List Frame} {w : World} {Q : Exit → Act → World → Prop} {F : Fence} {m : Nat}
theorem stepR_scope {c : Code} : step P (lone (b.atR a (.code (.scope c) :: k)) cs w) = .next (lone (b.atR a (.code c :: .inScope c :: k)) cs w) :=
  step_lone_go (by simp [stepG, stepG.exec, Frame.atR])
theorem stepR_inScope {c : Code} : step P (lone (b.atR a (.inScope c :: k)) cs w) = .next (lone (b.atR a k) cs w) :=
  step_lone_go (by simp [stepG, stepG.exec, Frame.atR])
theorem wpIn_scope {c : Code} (h : c.wpIn F m P (Exit.noGoto Q) a w) : (Code.scope c).wpIn F m P Q a w := by
  intro b k cs hro hb hr
  have h0 : (lone (b.atR a (.code (.scope c) :: k)) cs w).fenced P F := fenced_calm hb hr rfl
  obtain ⟨e, a₁, w₁, hq, harr⟩ := h b (.inScope c :: k) cs hro hb hr
  cases e with
  | normal => exact ⟨.normal, a₁, w₁, hq, .head h0 stepR_scope (StepsIn.trans harr (.one (fenced_calm hb hr rfl) stepR_inScope))⟩
  | exit id =>
    have hx : exitTo id (.inScope c :: k) = exitTo id k := by simp [exitTo]
    exact ⟨.exit id, a₁, w₁, hq, fun k' hk => .head h0 stepR_scope (harr.1 k' (by rw [hx]; exact hk)),
      fun hr' hk => let ⟨k₁, h1, h2⟩ := harr.2 hr' (by rw [hx]; exact hk); ⟨k₁, h1, .head h0 stepR_scope h2⟩⟩
  | goto l => exact hq.elim
  | ret => exact ⟨_, a₁, w₁, hq, .of_steps (.one h0 stepR_scope) harr⟩
  | panic ch => exact ⟨_, a₁, w₁, hq, .of_steps (.one h0 stepR_scope) harr⟩
  | outgrown => exact ⟨_, a₁, w₁, hq, .of_steps (.one h0 stepR_scope) harr⟩
end scope
theorem den_sound (hmix : P.follows .mixedOrders = true) (c : Code) : ∀ (rd : Option Nat) (m : Nat) (K : Exit → Fr → List Nat → World → Prop) (fr : Fr) (ms : List Nat) (w : World) (a : Act), Agrees fr a → a.tmps.size = n → a.defers = marks ms →
    den P n L C c rd K fr ms w → c.wpIn (FF rd) m P (Lift n a (fun i => writes i c) (noRange c) K) a w := by
  induction c with
  | skip => intro rd m K fr ms w a hg hn hd h; exact wpIn_skip ⟨.refl hn, fr, ms, hg, hd, h⟩
  | label l => intro rd m K fr ms w a hg hn hd h; exact wpIn_label ⟨.refl hn, fr, ms, hg, hd, h⟩
  | exit id => intro rd m K fr ms w a hg hn hd h; exact wpIn_exit ⟨.refl hn, fr, ms, hg, hd, h⟩
  | ret => intro rd m K fr ms w a hg hn hd h; exact wpIn_ret ⟨.refl hn, fr, ms, hg, hd, h⟩
  | seq x y ihx ihy =>
    intro rd m K fr ms w a hg hn hd h
    have hV : ∀ i, writes i (Code.seq x y) = false → writes i x = false ∧ writes i y = false := fun i hi => by simpa [writes] using hi
    have hR : noRange (Code.seq x y) = true → noRange x = true ∧ noRange y = true := fun hi => by simpa [noRange] using hi
    unfold den at h
    split at h
    · refine wpIn_seq (wpIn_mono (ihx rd m _ fr ms w a hg hn hd h) ?_)
      rintro e a' w' ⟨hst, fr', ms', hg', hd', hk⟩
      cases e with
      | normal =>
        refine wpIn_mono (ihy rd m K fr' ms' w' a' hg' hst.size hd' hk) ?_
        rintro e2 a2 w2 ⟨hst2, fr2, ms2, hg2, hd2, hk2⟩
        exact ⟨hst.trans hst2 hV hR, fr2, ms2, hg2, hd2, hk2⟩
      | _ => exact ⟨hst.weaken (fun i hi => (hV i hi).1) (fun hi => (hR hi).1), fr', ms', hg', hd', hk⟩
    · rename_i hint hh
      cases hko : keepOk x hint.keep with
      | false => rw [hko] at h; exact h.elim
      | true =>
        rw [hko] at h
        cases hnr : noRange x with
        | true =>
          rw [hnr] at h
          obtain ⟨Y, hbefore, hbehind⟩ := h
          refine wpIn_seq (wpIn_mono (ihx rd m _ fr ms w a hg hn hd hbefore) ?_)
          rintro e a' w' ⟨hst, fr', ms', hg', hd', hk⟩
          cases e with
          | normal =>
            obtain ⟨s, hs, hl, hY⟩ := ENT_out hg' hk
            have hden := ALLM_inst hbehind hl w' hY
            have hag := frameOf_agrees (keepFr_agrees (keep := hint.keep) hg hst.same hko) hs
            refine wpIn_mono (ihy rd m K _ ms w' a' hag hst.size ((hst.defers hnr).trans hd) hden) ?_
            rintro e2 a2 w2 ⟨hst2, fr2, ms2, hg2, hd2, hk2⟩
            exact ⟨hst.trans hst2 hV hR, fr2, ms2, hg2, hd2, hk2⟩
          | _ => exact ⟨hst.weaken (fun i hi => (hV i hi).1) (fun hi => (hR hi).1), fr', ms', hg', hd', hk⟩
        | false =>
          rw [hnr] at h
          obtain ⟨Y, hbefore, hbehind⟩ := h
          refine wpIn_seq (wpIn_mono (ihx rd m _ fr ms w a hg hn hd hbefore) ?_)
          rintro e a' w' ⟨hst, fr', ms', hg', hd', hk⟩
          cases e with
          | normal =>
            obtain ⟨s, hs, hl, hY⟩ := ENT_out hg' hk
            have hden := ALLM_inst hbehind hl ms' w' hY
            have hag := frameOf_agrees (keepFr_agrees (keep := hint.keep) hg hst.same hko) hs
            refine wpIn_mono (ihy rd m K _ ms' w' a' hag hst.size hd' hden) ?_
            rintro e2 a2 w2 ⟨hst2, fr2, ms2, hg2, hd2, hk2⟩
            exact ⟨hst.trans hst2 hV hR, fr2, ms2, hg2, hd2, hk2⟩
          | _ => exact ⟨hst.weaken (fun i hi => (hV i hi).1) (fun hi => (hR hi).1), fr', ms', hg', hd', hk⟩
  | cond c x y ihx ihy =>
    intro rd m K fr ms w a hg hn hd h
    have hV : ∀ i, writes i (Code.cond c x y) = false → writes i x = false ∧ writes i y = false := fun i hi => by simpa [writes] using hi
    have hR : noRange (Code.cond c x y) = true → noRange x = true ∧ noRange y = true := fun hi => by simpa [noRange] using hi
    unfold den at h
    split at h
    · rename_i t ht
      have hc := hg.eval _ _ ht
      have key : (t = true → ∃ fr', Agrees fr' a ∧ den P n L C x rd K fr' ms w) ∧ (t = false → ∃ fr', Agrees fr' a ∧ den P n L C y rd K fr' ms w) := by
        split at h
        · rename_i i
          have hag := hg.again (show look fr i = some (.bool t) from ht)
          cases t with
          | true => exact ⟨fun _ => ⟨_, hag, h⟩, by simp⟩
          | false => exact ⟨by simp, fun _ => ⟨_, hag, h⟩⟩
        · cases t with
          | true => exact ⟨fun _ => ⟨_, hg, h⟩, by simp⟩
          | false => exact ⟨by simp, fun _ => ⟨_, hg, h⟩⟩
      refine wpIn_cond_split hc (fun ht => ?_) (fun hf => ?_)
      · obtain ⟨fr', hg', h'⟩ := key.1 ht
        refine wpIn_mono (ihx rd m K fr' ms w a hg' hn hd h') ?_
        rintro e a' w' ⟨hst, r⟩
        exact ⟨hst.weaken (fun i hi => (hV i hi).1) (fun hi => (hR hi).1), r⟩
      · obtain ⟨fr', hg', h'⟩ := key.2 hf
        refine wpIn_mono (ihy rd m K fr' ms w a hg' hn hd h') ?_
        rintro e a' w' ⟨hst, r⟩
        exact ⟨hst.weaken (fun i hi => (hV i hi).2) (fun hi => (hR hi).2), r⟩
    · exact h.elim
  | block id c ih =>
    intro rd m K fr ms w a hg hn hd h
    unfold den at h
    refine wpIn_block (wpIn_mono (ih rd m _ fr ms w a hg hn hd h) ?_)
    rintro e a' w' ⟨hst, fr', ms', hg', hd', hk⟩
    cases e with
    | exit j =>
      simp only [Exit.inBlock]
      replace hk : bif Nat.beq j id then K .normal fr' ms' w' else K (.exit j) fr' ms' w' := hk
      cases hb : Nat.beq j id with
      | true =>
        have hji : j = id := Nat.eq_of_beq_eq_true hb
        rw [if_pos hji]
        rw [hb] at hk
        exact ⟨hst, fr', ms', hg', hd', hk⟩
      | false =>
        have hji : ¬ j = id := fun he => by subst he; simp at hb
        rw [if_neg hji]
        rw [hb] at hk
        exact ⟨hst, fr', ms', hg', hd', hk⟩
    | _ => exact ⟨hst, fr', ms', hg', hd', hk⟩
  | loop c ih =>
    intro rd m K fr ms w a hg hn hd h
    unfold den at h
    split at h
    · exact h.elim
    · rename_i hint hh
      cases hko : keepOk c hint.keep with
      | false => rw [hko] at h; exact h.elim
      | true =>
        rw [hko] at h
        cases hnr : noRange c with
        | true =>
          rw [hnr] at h
          obtain ⟨Inv, mu, hent, hall⟩ := h
          refine wpIn_loop (fun a' w' => St n a (fun i => writes i c) (noRange c) a' ∧ ∃ s, lookA a' hint.mods = some s ∧ likeM (hint.mods.map (·.2)) s = true ∧ Inv s w')
            (fun a' w' => mu ((lookA a' hint.mods).getD []) w') ?_ ?_
          · obtain ⟨s, hs, hl, hi⟩ := ENT_out hg hent
            exact ⟨.refl hn, s, hs, hl, hi⟩
          · rintro a' w' ⟨hst, s, hs, hl, hi⟩
            have hden := ALLM_inst hall hl w' hi
            have hag := frameOf_agrees (keepFr_agrees (keep := hint.keep) hg hst.same hko) hs
            refine wpIn_mono (ih rd m _ _ ms w' a' hag hst.size ((hst.defers hnr).trans hd) hden) ?_
            rintro e a2 w2 ⟨hst2, fr2, ms2, hg2, hd2, hk2⟩
            have hst3 : St n a (fun i => writes i c) (noRange c) a2 := hst.trans hst2 (fun i hi => ⟨hi, hi⟩) (fun hi => ⟨hi, hi⟩)
            cases e with
            | normal =>
              obtain ⟨s2, hs2, hl2, hi2, hlt⟩ := ENT_out hg2 hk2
              exact ⟨⟨hst3, s2, hs2, hl2, hi2⟩, by simpa [hs, hs2] using hlt⟩
            | _ => exact ⟨hst3, fr2, ms2, hg2, hd2, hk2⟩
        | false =>
          rw [hnr] at h
          obtain ⟨Inv, mu, hent, hall⟩ := h
          refine wpIn_loop (fun a' w' => St n a (fun i => writes i c) (noRange c) a' ∧ ∃ s ms', lookA a' hint.mods = some s ∧ likeM (hint.mods.map (·.2)) s = true ∧ a'.defers = marks ms' ∧ Inv s ms' w')
            (fun a' w' => mu ((lookA a' hint.mods).getD []) w') ?_ ?_
          · obtain ⟨s, hs, hl, hi⟩ := ENT_out hg hent
            exact ⟨.refl hn, s, ms, hs, hl, hd, hi⟩
          · rintro a' w' ⟨hst, s, ms', hs, hl, hd', hi⟩
            have hden := ALLM_inst hall hl ms' w' hi
            have hag := frameOf_agrees (keepFr_agrees (keep := hint.keep) hg hst.same hko) hs
            refine wpIn_mono (ih rd m _ _ ms' w' a' hag hst.size hd' hden) ?_
            rintro e a2 w2 ⟨hst2, fr2, ms2, hg2, hd2, hk2⟩
            have hst3 : St n a (fun i => writes i c) (noRange c) a2 := hst.trans hst2 (fun i hi => ⟨hi, hi⟩) (fun hi => ⟨hi, hi⟩)
            cases e with
            | normal =>
              obtain ⟨s2, hs2, hl2, hi2, hlt⟩ := ENT_out hg2 hk2
              exact ⟨⟨hst3, s2, ms2, hs2, hl2, hd2, hi2⟩, by simpa [hs, hs2] using hlt⟩
            | _ => exact ⟨hst3, fr2, ms2, hg2, hd2, hk2⟩
  | region id ops draw =>
    intro rd m K fr ms w a hg hn hd h
    have hQ : ∀ a' w', LiftO n a (fun i => opsWrite i ops.toList) (fun fr' w' => K .normal fr' ms w') a' w' → Lift n a (fun i => writes i (Code.region id ops draw)) (noRange (Code.region id ops draw)) K .normal a' w' := by
      rintro a' w' ⟨hst, fr', hg', hk⟩
      exact ⟨⟨hst.size, fun _ => hst.defers rfl, fun i hi => hst.same i (by simpa [writes] using hi)⟩, fr', ms, hg', (hst.defers rfl).trans hd, hk⟩
    have hP : ∀ a' ch w', St n a (fun i => opsWrite i ops.toList) true a' → panK (panOf C fun ch w' => K (.panic ch) [] ms w') ch w' → Lift n a (fun i => writes i (Code.region id ops draw)) (noRange (Code.region id ops draw)) K (.panic ch) a' w' := by
      intro a' ch w' hst hk
      refine ⟨⟨hst.size, fun _ => hst.defers rfl, fun i hi => hst.same i (by simpa [writes] using hi)⟩, [], ms, (by intro i v h; simp [look] at h), (hst.defers rfl).trans hd, ?_⟩
      unfold panOf at hk
      split at hk
      · exact hk.elim
      · exact hk
    cases draw with
    | false =>
      refine wpIn_region (wpOpsIn_of_A rd m hQ hP _ _ _ (.refl hn) ?_)
      have := dOps_sound (P := P) (kp := panOf C fun ch w' => K (.panic ch) [] ms w') (n := n) (ops := ops) (a0 := a) (K := fun fr' w' => K .normal fr' ms w') ops.toList 0 rfl fr w a hg (.refl hn) h
      rw [List.range_eq_range']
      rw [Array.length_toList] at this
      exact this
    | true =>
      unfold den at h
      cases hsel : Region.noSelect ops with
      | false => rw [hsel] at h; exact h.elim
      | true =>
        rw [hsel] at h
        have := dDraw_sound (P := P) (kp := panOf C fun ch w' => K (.panic ch) [] ms w') (n := n) (ops := ops) (a0 := a) hsel (K := fun fr' w' => K .normal fr' ms w') ops.size _ [] fr w.drew a hg (.refl hn) Closed.start (by simp) h
        exact wpIn_region_any hmix (wpAnyIn_of_X rd m hQ hP _ _ _ _ _ (.refl hn) this)
  | scope c ih =>
    intro rd m K fr ms w a hg hn hd h
    unfold den at h
    refine wpIn_scope (wpIn_mono (ih rd m _ fr ms w a hg hn hd h) ?_)
    rintro e a' w' ⟨hst, fr', ms', hg', hd', hk⟩
    cases e with
    | goto l => exact hk.elim
    | _ => exact ⟨hst, fr', ms', hg', hd', hk⟩
  | rangeFunc g ps x y ihx ihy =>
    intro rd m K fr ms w a hg hn hd h
    unfold den at h
    split at h
    · exact h.elim
    · rename_i hint hh
      cases hok : natsB (hint.mods.map (·.1)) ps.toList && noRange x with
      | false => rw [hok] at h; exact h.elim
      | true =>
        rw [hok] at h
        simp only [Bool.and_eq_true] at hok
        have hps := natsB_eq hok.1
        have hpl : ps.size = (hint.mods.map (·.2)).length := by rw [← Array.length_toList, ← hps]; simp
        obtain ⟨f, fi, ca, hv, hen, hr⟩ := FUNV_out h
        have hgv := hg.eval _ _ hv
        -- what a round asks
        have round : ∀ (rr : Loop) (l : Nat), rr.state = .ready → rr.pending = none → rr.params = ps → rr.tmps = a.tmps → rr.assign = x → rr.body = y →
            ALLM (hint.mods.map (·.2)) fun vs => ∀ (k : Bool → World → Prop) (w : World), w.heap[l]? = some (.loop rr) → den P n L C x (some l) (fun e fr1 _ w1 => match e with
              | .normal => BEGR rr l (fun w2 => den P n L C y (some l) (fun e _ _ w3 => match e with
                | .normal => ENDR rr l k none w3
                | .ret => ENDR rr l k (some .ret) w3
                | .exit i => ENDR rr l k (some (.exit i)) w3
                | _ => False) fr1 [] w2) w1
              | _ => False) (putAll n fr ps.toList vs) [] w → YLD P l ⟨vs⟩ k w := by
          intro rr l hst hpe hpa htm has hbo
          refine ALLM_all fun vs hvl k wx hrec hden => ?_
          have hsz : (⟨vs⟩ : Array Value).size = rr.params.size := by rw [hpa, hpl]; exact hvl
          refine ⟨_, _, _, _, run_yield hrec hsz, roundIn_of_wpIn (F := Fence.wide) trivial ?_⟩
          rw [hpa, htm, has, hbo]
          have ez : (ps.zip (⟨vs⟩ : Array Value)).foldl (fun (t : Array Value) (x : Tmp × Value) => t.setIfInBounds x.1 x.2) a.tmps = (ps.toList.zip vs).foldl (fun t x => t.setIfInBounds x.1 x.2) a.tmps := by
            rw [← Array.foldl_toList]
            simp
          have hag := putAll_agrees (n := n) ps.toList vs fr a.tmps hg hn
          rw [← ez] at hag
          refine wpIn_mono (ihx (some l) 0 _ _ [] wx _ hag.1 hag.2 rfl hden) ?_
          rintro e a1 w1 ⟨hst1, fr1, ms1, hg1, hd1, hk1⟩
          cases e with
          | normal =>
            obtain ⟨hb1, hk1⟩ := hk1
            refine ⟨_, run_beginRound hb1 hst, ?_⟩
            have hd1' : a1.defers = marks [] := hst1.defers hok.2
            refine wpIn_mono (ihy (some l) 0 _ fr1 [] _ a1 hg1 hst1.size hd1' hk1) ?_
            rintro e2 a2 w2 ⟨_, fr2, ms2, _, _, hk2⟩
            cases e2 with
            | normal => exact ⟨_, _, run_endRound none hk2.1, true, rfl, hk2.2⟩
            | ret => exact ⟨_, _, run_endRound (some .ret) hk2.1, false, rfl, hk2.2⟩
            | exit i => exact ⟨_, _, run_endRound (some (.exit i)) hk2.1, false, rfl, hk2.2⟩
            | _ => exact hk2.elim
          | _ => exact hk1.elim
        -- what comes behind
        have post : ∀ (rr : Loop) (l : Nat) (ms' : List Nat) (w3 : World), ENDL rr l (fun j w' => orJ j (fun e => K e fr (ms' ++ ms) w') (jumpsOf y)) w3 → ∀ v,
            rangePost (FF rd) m P l (Lift n a (fun i => writes i (Code.rangeFunc g ps x y)) (noRange (Code.rangeFunc g ps x y)) K) { a with defers := marks ms' ++ a.defers } (.returned v) w3 := by
          rintro rr l ms' w3 ⟨j, hj, hk⟩ v
          have hnb : (if j.isNone then LoopState.ready else .done) ≠ .busy := by split <;> simp
          refine ⟨_, _, run_endLoop hj hnb, ?_⟩
          have hl : ∀ {e w'}, K e fr (ms' ++ ms) w' → Lift n a (fun i => writes i (Code.rangeFunc g ps x y)) (noRange (Code.rangeFunc g ps x y)) K e { a with defers := marks ms' ++ a.defers } w' := by
            intro e w' hK
            exact ⟨⟨hn, fun h => (by cases h), fun _ _ => rfl⟩, fr, ms' ++ ms, hg, by simp [marks, hd], hK⟩
          obtain ⟨z, hz, e1, e2⟩ := orJ_out hk
          rcases jumpsOf_out hz with rfl | rfl | ⟨i, rfl⟩
          · subst e1; exact hl e2
          · subst e1; exact wpIn_ret (hl e2)
          · subst e1; exact wpIn_exit (hl e2)
        refine wpIn_rangeFunc fun fn _ => ?_
        have hinv : ∀ (l : Nat) (w1 : World), (resolve a.eval (rangeCall g l) 0).run P w1 = .ok { target := .fn (.func f) ca, args := fi ++ #[.func (.yield l) #[] #[]] } w1 ∧
            (invoke (.fn (.func f) ca) (fi ++ #[.func (.yield l) #[] #[]])).run P w1 = .ok (.enter f ⟨fi.toList ++ [.func (.yield l) #[] #[]] ++ ca.toList⟩) w1 := by
          intro l w1
          constructor
          · simp only [resolve, hgv, Deferred.ofValue]
            simp [Act.eval]
          · have ha : fi ++ #[.func (.yield l) #[] #[]] ++ ca = ⟨fi.toList ++ [.func (.yield l) #[] #[]] ++ ca.toList⟩ := Array.ext' (by simp)
            simp only [invoke, enters_run hen, ha]
        cases rd with
        | none =>
          have hc := hr _ rfl rfl (round { state := .ready, pending := none, fn, tmps := a.tmps, params := ps, assign := x, body := y, defers := w.heap.size } (w.heap.size + 1) rfl rfl rfl rfl rfl rfl)
          refine ⟨_, _, _, _, _, f, _, _, run_enterLoop_outer _ _ _ _ _, (hinv _ _).1, fun _ _ => trivial, (hinv _ _).2, fun h => (by cases h), ?_⟩
          refine CallsIn.mono (F := FF none) (callsIn_wide.2 hc) ?_
          rintro e w3 ⟨⟨v, rfl⟩, he⟩
          exact post _ _ [w.heap.size] w3 he v
        | some lo =>
          obtain ⟨⟨ro, hro⟩, hr⟩ := hr
          have hc := hr _ rfl rfl (round { state := .ready, pending := none, fn, tmps := a.tmps, params := ps, assign := x, body := y, defers := ro.defers } w.heap.size rfl rfl rfl rfl rfl rfl)
          refine ⟨_, _, _, _, _, f, _, _, run_enterLoop_inner hro _ _ _ _ _, (hinv _ _).1, fun _ _ => trivial, (hinv _ _).2, fun h => (by cases h), ?_⟩
          have hc2 := (callsIn_wide (n := m - 1)).2 hc
          refine CallsIn.mono (F := FF (some lo)) ⟨trivial, fun cs _ => hc2.2 cs (FF_room none _)⟩ ?_
          rintro e w3 ⟨⟨v, rfl⟩, he⟩
          exact post _ _ [] w3 he v
  | goto l => intro rd m K fr ms w a hg hn hd h; exact h.elim
  | refuse s => intro rd m K fr ms w a hg hn hd h; exact h.elim
theorem argFr_agrees (tmps : Array Value) : ∀ (args : List Value) (i : Nat), (∀ j v, args[j]? = some v → tmps[i + j]? = some v) → Agrees (argFr i args) ⟨tmps, []⟩
  | [], _, _ => by intro j v h; simp [argFr, look] at h
  | x :: r, i, h => by
    intro j u hu
    simp only [argFr] at hu
    rw [look_cons] at hu
    by_cases hij : i = j
    · subst hij
      simp at hu
      subst hu
      exact h 0 x rfl
    · simp only [hij, if_false] at hu
      exact argFr_agrees tmps r (i + 1) (fun k v hk => by have := h (k + 1) v (by simpa using hk); rwa [show i + (k + 1) = i + 1 + k by omega] at this) j u hu
def resOne (tmps : Array Value) : ResultVar → Sem Value
  | .tmp t => pure (tmps.getD t undef)
  | .cell a t => do loadVar t (← asAddr (tmps.getD a undef))
theorem resD_run {fr : Fr} {a : Act} (hg : Agrees fr a) : ∀ (rs : List ResultVar) (k : List Value → World → Prop) (w : World), resD P fr rs k w →
    ∃ vs, k vs w ∧ vs.length = rs.length ∧ (rs.mapM (resOne a.tmps)).run P w = .ok vs w
  | [], k, w, h => ⟨[], h, rfl, by simp⟩
  | .tmp t :: r, k, w, h => by
    obtain ⟨v, hv, h⟩ := VAL_out h
    obtain ⟨vs, hk, hl, hr⟩ := resD_run hg r _ w h
    refine ⟨v :: vs, hk, by simp [hl], ?_⟩
    have := hg _ _ hv
    simp [resOne, this, hr]
  | .cell ad t :: r, k, w, h => by
    obtain ⟨p, v, hh, hx, hk0, hholds, hrun⟩ := loadD_run h
    obtain ⟨vs, hk, hl, hr⟩ := resD_run hg r _ w hk0
    refine ⟨v :: vs, hk, by simp [hl], ?_⟩
    have h1 := hg _ _ hx
    have h2 := hrun w hholds
    simp only [Instr.loadAt, Instr.sureAddr, Sem.run_bind, Sem.run_pure, Result.andThen_ok] at h2
    simp [resOne, h1, asAddr, h2, hr]
theorem results_run {fn : Func} {tmps : Array Value} {vs : List Value} {w : World} (h : (fn.results.toList.mapM (resOne tmps)).run P w = .ok vs w) :
    (results fn tmps).run P w = .ok (oneOrTuple vs) w := by
  have e : results fn tmps = (do let vs ← fn.results.mapM (resOne tmps); pure (if h : vs.size = 1 then vs[0] else .tuple vs)) := by
    rfl
  rw [e]
  have h2 : (fn.results.mapM (resOne tmps)).run P w = .ok vs.toArray w := by
    rw [Array.mapM_eq_mapM_toList]
    simp [h]
  simp only [Sem.run_bind, h2, Result.andThen_ok, Sem.run_pure]
  congr 1
  match vs with
  | [] => simp [oneOrTuple]
  | [v] => simp [oneOrTuple]
  | _ :: _ :: _ => simp [oneOrTuple]
theorem SHUT_leaves {fn : Func} {tmps : Array Value} {k : World → Prop} {R : Ending → World → Prop} (hk : ∀ w, k w → ∃ v, (results fn tmps).run P w = .ok v w ∧ R (.returned v) w) :
    ∀ (ms : List Nat) (w : World), SHUT ms k w → LeavesInM Fence.wide 0 P fn tmps R (marks ms) .returning w
  | [], w, h => hk w h
  | d :: ds, w, h => ⟨by simp, .inl ⟨d, _, rfl, run_takeDeferred h.1, SHUT_leaves hk ds _ h.2⟩⟩
theorem dFun_calls (hmix : P.follows .mixedOrders = true) {f : FuncId} {args : List Value} {k : Value → World → Prop} {w : World} (h : dFun P L C f args k w) :
    Calls P f ⟨args⟩ w fun e w' => ∃ v, e = .returned v ∧ k v w' := by
  unfold dFun at h
  split at h
  · rename_i fn hf
    split at h
    · rename_i c hc
      cases hl : Nat.ble args.length fn.ntmps with
      | false => rw [hl] at h; exact h.elim
      | true =>
        rw [hl] at h
        simp only [cond_true] at h
        have hle : args.length ≤ fn.ntmps := Nat.le_of_ble_eq_true hl
        refine callsIn_wide.1 (callsIn_of_wp_marks (F := Fence.wide) (n := 0) hf hc trivial ?_)
        have hag : Agrees (argFr 0 args) ⟨(⟨args⟩ : Array Value) ++ Array.replicate (fn.ntmps - args.length) undef, []⟩ := by
          refine argFr_agrees _ args 0 fun j v hj => ?_
          have hjl : j < args.length := (List.getElem?_eq_some_iff.1 hj).1
          rw [Nat.zero_add, Array.getElem?_append_left (by simpa using hjl)]
          simpa using hj
        refine wpIn_mono (den_sound (n := fn.ntmps) hmix c none 0 _ (argFr 0 args) [] w _ hag (by simp; omega) rfl h) ?_
        have fin : ∀ (fr' : Fr) (a' : Act), Agrees fr' a' → ∀ w', resD P fr' fn.results.toList (fun vs w'' => k (oneOrTuple vs) w'') w' → ∃ v, (results fn a'.tmps).run P w' = .ok v w' ∧ ∃ u, Ending.returned v = .returned u ∧ k u w' := by
          intro fr' a' hg' w' hk
          obtain ⟨vs, hk, _, hr⟩ := resD_run hg' _ _ _ hk
          exact ⟨_, results_run hr, _, rfl, hk⟩
        rintro e a' w' ⟨hst, fr', ms', hg', hd', hk⟩
        cases e with
        | normal =>
          show LeavesInM _ _ _ _ _ _ _ _ _
          rw [hd']
          exact SHUT_leaves (fin fr' a' hg') ms' w' hk
        | ret =>
          show LeavesInM _ _ _ _ _ _ _ _ _
          rw [hd']
          exact SHUT_leaves (fin fr' a' hg') ms' w' hk
        | _ => exact hk.elim
    · exact h.elim
  · exact h.elim
end
end Go.Dn
