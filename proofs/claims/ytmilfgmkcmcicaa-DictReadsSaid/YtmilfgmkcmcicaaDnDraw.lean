/-
  A region that draws its order: the reading takes what is pure first, then what only reads; what acts comes up in every order.
-/
import Derived.Test.YtmilfgmkcmcicaaDnSound
namespace Go.Dn
section
variable {P : Program} {n : Nat} {ops : Array Oper} {a0 : Act} {Q : Act → World → Prop}

def wpAnyX (P : Program) (ops : Array Oper) (Q : Act → World → Prop) : Nat → List (Nat × (World → Prop)) → Array Bool → Act → World → Prop
  | 0, _, listed, a, w => Region.ready .any ops listed = [] ∧ Q a w
  | fuel + 1, Ss, listed, a, w => (Region.ready .any ops listed = [] → Q a w) ∧
    ∀ j ∈ Region.ready .any ops listed, wpOpA P ops j (fun a' w' => (∀ s ∈ Ss, (predsStar ops j).contains s.1 = false → s.2 w') ∧
      wpAnyX P ops Q fuel (Ss.filter fun s => !(predsStar ops j).contains s.1) (listed.setIfInBounds j true) a' w') a w

theorem yields_wpOpA {S : World → Prop} {i : Nat} {o : Oper} {v : Value} {a : Act} (hi : ops[i]? = some o) (hy : YieldsIf P ops S o v a)
    {K : Act → World → Prop} {w : World} (hS : S w) (h : K (a.put o.dst v) w) : wpOpA P ops i K a w := by
  unfold wpOpA
  simp only [hi]
  rcases hy with ⟨hw, hv⟩ | ⟨hw, rfl⟩
  · simp only [hw, if_true]
    exact Acts.of_value (hv w hS) h
  · simp only [hw, Bool.false_eq_true, if_false]; exact h
theorem wpOpA_putIf {S : World → Prop} {j : Nat} {oi oj : Oper} {v : Value} (hj : ops[j]? = some oj) (hap : oi.apart ops oj = true)
    (hsi : ∀ cs b, oi.op ≠ .select cs b) (hsj : ∀ cs b, oj.op ≠ .select cs b) {K : Act → World → Prop} {a : Act} {w : World}
    (hy : YieldsIf P ops S oi v a) (h : wpOpA P ops j K (a.put oi.dst v) w) :
    wpOpA P ops j (fun a' w' => YieldsIf P ops S oi v a' ∧ K (a'.put oi.dst v) w') a w := by
  obtain ⟨h1, h2, h3⟩ := Oper.apart_spec hap
  have keep : ∀ (a : Act), YieldsIf P ops S oi v a → ∀ u, YieldsIf P ops S oi v (a.put oj.dst u) := fun a hy u =>
    hy.of_same (execOp_put oi hsi a oj.dst u h3) (wanted_put oi a oj.dst u h3)
  unfold wpOpA at *
  simp only [hj] at *
  rw [wanted_put oj a oi.dst v h1] at h
  split
  · rename_i hw
    simp only [hw, if_true] at h
    unfold actA at *
    rw [execOp_put oj hsj a oi.dst v h1] at h
    exact Acts.mono h fun u w' hk => ⟨keep a hy u, by rw [← Act.put_comm a v u h2]; exact hk⟩
  · rename_i hw
    simp only [hw] at h
    exact ⟨keep a hy _, by rw [← Act.put_comm a v undef h2]; exact h⟩

theorem wpAnyX_sub : ∀ (fuel : Nat) (Ss Ts : List (Nat × (World → Prop))) (listed : Array Bool) (a : Act) (w : World), (∀ s ∈ Ts, s ∈ Ss) → wpAnyX P ops Q fuel Ss listed a w → wpAnyX P ops Q fuel Ts listed a w
  | 0, _, _, _, _, _, _, h => h
  | fuel + 1, Ss, Ts, listed, a, w, hs, h => by
    refine ⟨h.1, fun j hj => wpOpA_mono (fun a' w' hh => ⟨fun s hm hc => hh.1 s (hs s hm) hc, ?_⟩) (h.2 j hj)⟩
    exact wpAnyX_sub fuel _ _ _ _ _ (fun s hm => by
      obtain ⟨h1, h2⟩ := List.mem_filter.1 hm
      exact List.mem_filter.2 ⟨hs s h1, h2⟩) hh.2
theorem wpAnyIn_of_X {Q' : Exit → Act → World → Prop} (r : Option Nat) (m : Nat) (hQ : ∀ a w, Q a w → Q' .normal a w) : ∀ (fuel : Nat) (Ss : List (Nat × (World → Prop))) (listed : Array Bool) (a : Act) (w : World), wpAnyX P ops Q fuel Ss listed a w → wpAnyIn (FF r) m P .any ops Q' fuel listed a w
  | 0, _, _, _, _, h => ⟨h.1, hQ _ _ h.2⟩
  | fuel + 1, _, listed, a, w, h => by
    refine ⟨fun h0 => hQ _ _ (h.1 h0), fun j hj => ?_⟩
    have h2 := h.2 j hj
    unfold wpOpA at h2
    unfold wpOpIn
    split at h2
    · rename_i ho
      simp only [ho]
      exact wpAnyIn_of_X r m hQ fuel _ _ a w h2.2
    · rename_i o ho
      simp only [ho]
      split at h2
      · rename_i hw
        rw [if_pos hw]
        exact wpIn_of_acts r m (Acts.mono h2 fun v w' hk => wpAnyIn_of_X r m hQ fuel _ _ _ w' hk.2)
      · rename_i hw
        rw [if_neg hw]
        exact ⟨fun _ _ => trivial, wpAnyIn_of_X r m hQ fuel _ _ _ w h2.2⟩

def Closed (ops : Array Oper) (listed : Array Bool) : Prop :=
  ∀ j oj, ops[j]? = some oj → listed.getD j false = true → ∀ e ∈ oj.after, Region.binds .any e = true → listed.getD e.on false = true
theorem Closed.set {listed : Array Bool} (h : Closed ops listed) {i : Nat} (hi : i ∈ Region.ready .any ops listed) : Closed ops (listed.setIfInBounds i true) := by
  obtain ⟨_, oi, hoi, hall⟩ := mem_ready.1 hi
  intro j oj hj hl e he hb
  by_cases hij : i = j
  · subst hij
    have : oj = oi := Option.some.inj (hj.symm.trans hoi)
    subst this
    exact getD_set_true (hall e he hb)
  · rw [getD_set_ne false hij] at hl
    exact getD_set_true (h j oj hj hl e he hb)
theorem Closed.start : Closed ops (Array.replicate ops.size false) := by
  intro j oj hj hl
  have hlt := (Array.getElem?_eq_some_iff.1 hj).1
  simp [hlt] at hl

theorem predsOf_listed {listed : Array Bool} {j : Nat} (h : ∀ oj, ops[j]? = some oj → ∀ e ∈ oj.after, Region.binds .any e = true → listed.getD e.on false = true) : ∀ m ∈ predsOf ops j, listed.getD m false = true := by
  intro m hm
  unfold predsOf at hm
  split at hm
  · rename_i o ho
    obtain ⟨e, he, rfl⟩ := List.mem_map.1 hm
    obtain ⟨h1, h2⟩ := List.mem_filter.1 he
    exact h o ho e (Array.mem_toList_iff.1 h1) h2
  · cases hm
theorem predsDown_listed {listed : Array Bool} (hc : Closed ops listed) : ∀ (k : Nat) (s : List Nat), (∀ m ∈ s, listed.getD m false = true) → ∀ m ∈ predsDown ops k s, listed.getD m false = true
  | 0, _, h => h
  | k + 1, s, h => by
    unfold predsDown
    cases hk : s.contains k with
    | true =>
      simp only [cond_true]
      refine predsDown_listed hc k _ fun m hm => ?_
      rcases List.mem_append.1 hm with hm | hm
      · exact predsOf_listed (fun oj hoj e he hb => hc k oj hoj (h k (by simpa using hk)) e he hb) m hm
      · exact h m hm
    | false => simp only [cond_false]; exact predsDown_listed hc k s h
theorem not_after {listed : Array Bool} (hc : Closed ops listed) {i j : Nat} (hi : i ∈ Region.ready .any ops listed) (hj : j ∈ Region.ready .any ops listed) : (predsStar ops j).contains i = false := by
  obtain ⟨hun, oi, hoi, _⟩ := mem_ready.1 hi
  obtain ⟨_, oj, hoj, hall⟩ := mem_ready.1 hj
  cases hcon : (predsStar ops j).contains i with
  | false => rfl
  | true =>
    have hm : i ∈ predsStar ops j := by simpa using hcon
    have := predsDown_listed hc j _ (predsOf_listed fun o ho e he hb => by
      have : o = oj := Option.some.inj (ho.symm.trans hoj)
      subst this
      exact hall e he hb) i hm
    rcases Nat.lt_or_ge i listed.size with h' | h'
    · simp [h'] at hun this; rw [hun] at this; cases this
    · simp [Array.getElem?_eq_none h'] at this

theorem wpAnyX_first {i : Nat} {oi : Oper} {v : Value} {S : World → Prop} (hi : ops[i]? = some oi) (hsel : ∀ (j : Nat) (o : Oper) cs b, ops[j]? = some o → o.op ≠ .select cs b) :
    ∀ (fuel : Nat) (Ss Ts : List (Nat × (World → Prop))) (listed : Array Bool) (a : Act) (w : World),
      (∀ j oj, ops[j]? = some oj → j ≠ i → listed.getD j true = false → (∀ e ∈ oj.after, Region.binds .any e = true → e.on ≠ i) → oi.apart ops oj = true) →
      Closed ops listed → i ∈ Region.ready .any ops listed → YieldsIf P ops S oi v a → S w → (∀ s ∈ Ss, s ∈ Ts) → ((∀ w, S w) ∨ (i, S) ∈ Ts) → (∀ s ∈ Ts, s.2 w) →
      wpAnyX P ops Q fuel Ts (listed.setIfInBounds i true) (a.put oi.dst v) w → wpAnyX P ops Q (fuel + 1) Ss listed a w := by
  intro fuel
  induction fuel with
  | zero =>
    intro Ss Ts listed a w _ hcl hr hy hS hsub hE hall H
    refine ⟨fun h => (by rw [h] at hr; cases hr), fun j hj => ?_⟩
    by_cases hji : j = i
    · subst hji; exact yields_wpOpA hi hy hS ⟨fun s hs _ => hall s (hsub s hs), H⟩
    · have := ready_mono hj hji
      rw [H.1] at this
      cases this
  | succ fuel ih =>
    intro Ss Ts listed a w hfree hcl hr hy hS hsub hE hall H
    refine ⟨fun h => (by rw [h] at hr; cases hr), fun j hj => ?_⟩
    by_cases hji : j = i
    · subst hji
      refine yields_wpOpA hi hy hS ⟨fun s hs _ => hall s (hsub s hs), ?_⟩
      exact wpAnyX_sub _ _ _ _ _ _ (fun s hs => hsub s (List.mem_filter.1 hs).1) H
    · have h1 := H.2 j (ready_mono hj hji)
      obtain ⟨hjun, oj, hoj, hal⟩ := mem_ready.1 hj
      have hnot : ∀ e ∈ oj.after, Region.binds .any e = true → e.on ≠ i := fun e he hb heq => by
        have h1 := hal e he hb
        have h0 := (mem_ready.1 hr).1
        rw [heq] at h1
        rcases Nat.lt_or_ge i listed.size with h' | h'
        · simp [h'] at h0 h1; rw [h0] at h1; cases h1
        · simp [Array.getElem?_eq_none h'] at h1
      have hna := not_after hcl hr hj
      have h2 := wpOpA_putIf hoj (hfree j oj hoj hji hjun hnot) (fun cs b => hsel i oi cs b hi) (fun cs b => hsel j oj cs b hoj) hy h1
      have hfree' : ∀ k ok, ops[k]? = some ok → k ≠ i → (listed.setIfInBounds j true).getD k true = false →
          (∀ e ∈ ok.after, Region.binds .any e = true → e.on ≠ i) → oi.apart ops ok = true := fun k ok hk hki hun hno => by
        refine hfree k ok hk hki ?_ hno
        by_cases hjk : j = k
        · subst hjk; exact hjun
        · rw [getD_set_ne true hjk] at hun; exact hun
      refine wpOpA_mono (fun a' w' h3 => ?_) h2
      obtain ⟨hy', hreq, H'⟩ := h3
      have hS' : S w' := by
        rcases hE with hE | hE
        · exact hE w'
        · exact hreq (i, S) hE hna
      refine ⟨fun s hs hc => hreq s (hsub s hs) hc, ih _ (Ts.filter fun s => !(predsStar ops j).contains s.1) (listed.setIfInBounds j true) a' w' hfree' (hcl.set hj) (ready_mono hr (Ne.symm hji)) hy' hS' ?_ ?_ ?_ ?_⟩
      · intro s hs
        obtain ⟨h1, h2⟩ := List.mem_filter.1 hs
        exact List.mem_filter.2 ⟨hsub s h1, h2⟩
      · rcases hE with hE | hE
        · exact .inl hE
        · exact .inr (List.mem_filter.2 ⟨hE, by simp only [hna]; rfl⟩)
      · intro s hs
        obtain ⟨h1, h2⟩ := List.mem_filter.1 hs
        exact hreq s h1 (by simpa using h2)
      · rw [Array.setIfInBounds_comm _ _ hji]
        exact H'

theorem stands_out {ps : List Nat} {w : World} {X : Prop} : ∀ {held : List (Nat × Held)}, stands ps held w X → (∀ s ∈ held, ps.contains s.1 = false → holds s.2 w) ∧ X
  | [], h => ⟨by simp, h⟩
  | s :: r, h => by
    unfold stands at h
    cases hc : ps.contains s.1 with
    | true =>
      simp only [hc, cond_true] at h
      obtain ⟨h1, h2⟩ := stands_out h
      refine ⟨fun t ht htc => ?_, h2⟩
      rcases List.mem_cons.1 ht with rfl | ht
      · rw [hc] at htc; cases htc
      · exact h1 t ht htc
    | false =>
      simp only [hc, cond_false] at h
      obtain ⟨h0, h⟩ := h
      obtain ⟨h1, h2⟩ := stands_out h
      refine ⟨fun t ht htc => ?_, h2⟩
      rcases List.mem_cons.1 ht with rfl | ht
      · exact h0
      · exact h1 t ht htc
theorem allD_out {f : Nat → Prop} : ∀ {l : List Nat}, allD l f → ∀ i ∈ l, f i
  | [], _, _, hi => by cases hi
  | [i], h, j, hj => by simp at hj; subst hj; exact h
  | i :: k :: r, h, j, hj => by
    obtain ⟨h1, h2⟩ := h
    rcases List.mem_cons.1 hj with rfl | hj
    · exact h1
    · exact allD_out h2 j hj
def asS (held : List (Nat × Held)) : List (Nat × (World → Prop)) := held.map fun s => (s.1, holds s.2)
theorem asS_kept (ps : List Nat) (held : List (Nat × Held)) : (asS held).filter (fun s => !ps.contains s.1) = asS (kept ps held) := by
  unfold asS kept
  rw [List.filter_map]
  rfl

theorem isCls_out {c : Cls} {i : Nat} {o : Oper} (ho : ops[i]? = some o) (h : isCls P ops c i = true) : cls P o = c := by
  unfold isCls at h
  simp only [ho] at h
  cases h1 : cls P o <;> cases c <;> simp_all [clsB]
theorem cls_pure {o : Oper} (h : cls P o = .pure) : isPure P o = true := by
  unfold cls at h
  cases hh : isPure P o with
  | true => rfl
  | false => simp only [hh, cond_false] at h; split at h <;> cases h

theorem dDraw_sound (hsel : Region.noSelect ops = true) {K : Fr → World → Prop} : ∀ (fuel : Nat) (listed : Array Bool) (held : List (Nat × Held)) (fr : Fr) (w : World) (a : Act),
    Agrees fr a → St n a0 (fun i => opsWrite i ops.toList) true a → Closed ops listed → (∀ s ∈ held, holds s.2 w) →
    dDraw P n ops fuel listed held fr K w → wpAnyX P ops (LiftO n a0 (fun i => opsWrite i ops.toList) K) fuel (asS held) listed a w := by
  have hs := Region.noSelect_spec hsel
  have hwr : ∀ (j : Nat) (o : Oper), ops[j]? = some o → ∀ i, o.dst = some i → opsWrite i ops.toList = true := fun j o ho i hi =>
    opsWrite_mem (Array.mem_toList_iff.2 (Array.mem_of_getElem? ho)) hi
  intro fuel
  induction fuel with
  | zero =>
    intro listed held fr w a hg hst _ _ h
    unfold dDraw at h
    cases hr : Region.ready .any ops listed with
    | nil => rw [hr] at h; exact ⟨hr, hst, fr, hg, h⟩
    | cons x r => rw [hr] at h; exact h.elim
  | succ fuel ih =>
    intro listed held fr w a hg hst hcl hheld h
    unfold dDraw at h
    split at h
    · rename_i hr
      refine ⟨fun _ => ⟨hst, fr, hg, h⟩, fun j hj => ?_⟩
      rw [hr] at hj
      cases hj
    · rename_i i0 rs hr
      split at h
      · rename_i i hfind
        have hmem : i ∈ Region.ready .any ops listed := by rw [hr]; exact List.mem_of_find?_eq_some hfind
        have hcls := List.find?_some hfind
        split at h
        · rename_i o ho
          cases hfr : Region.free .any ops listed i with
          | false => rw [hfr] at h; exact h.elim
          | true =>
            rw [hfr] at h
            simp only [cond_true] at h
            have hp := cls_pure (isCls_out ho hcls)
            have hfree := Region.free_spec ho hfr
            rcases guardD_out hg h with ⟨hwant, fr', hg', h'⟩ | ⟨hwant, fr', hg', h'⟩
            · obtain ⟨v, hk, hrun⟩ := dPure_run (pure_notSelect hp) hg'.eval h'
              refine wpAnyX_first (S := fun _ => True) ho hs fuel _ (asS held) listed a w hfree hcl hmem (.inl ⟨hwant, fun w _ => hrun w⟩) trivial (fun _ h => h) (.inl fun _ => trivial) ?_ ?_
              · intro s hsm
                obtain ⟨t, ht, rfl⟩ := List.mem_map.1 hsm
                exact hheld t ht
              · exact ih _ _ _ _ _ (hg'.put hst.size o.dst v) (hst.put o.dst v (hwr i o ho)) (hcl.set hmem) hheld hk
            · refine wpAnyX_first (S := fun _ => True) (v := undef) ho hs fuel _ (asS held) listed a w hfree hcl hmem (.inr ⟨hwant, rfl⟩) trivial (fun _ h => h) (.inl fun _ => trivial) ?_ ?_
              · intro s hsm
                obtain ⟨t, ht, rfl⟩ := List.mem_map.1 hsm
                exact hheld t ht
              · exact ih _ _ _ _ _ (hg'.put hst.size o.dst undef) (hst.put o.dst undef (hwr i o ho)) (hcl.set hmem) hheld h'
        · exact h.elim
      · split at h
        · rename_i i hfind
          have hmem : i ∈ Region.ready .any ops listed := by rw [hr]; exact List.mem_of_find?_eq_some hfind
          split at h
          · rename_i o ho
            cases hfr : Region.free .any ops listed i with
            | false => rw [hfr] at h; exact h.elim
            | true =>
              rw [hfr] at h
              simp only [cond_true] at h
              have hfree := Region.free_spec ho hfr
              rcases guardD_out hg h with ⟨hwant, fr', hg', h'⟩ | ⟨hwant, fr', hg', h'⟩
              · split at h'
                · rename_i t x hop
                  obtain ⟨ad, v, hh, hx, hk, hholds, hrun⟩ := loadD_run h'
                  have he := hg'.eval _ _ hx
                  have hv : ∀ w', holds hh w' → (execOp a.eval o).run P w' = .ok (.value v) w' := fun w' hw' => by
                    simp only [execOp, hop, he, Sem.run_bind, hrun w' hw', Result.andThen_ok, Sem.run_pure]
                  refine wpAnyX_first (S := holds hh) ho hs fuel _ (asS ((i, hh) :: held)) listed a w hfree hcl hmem (.inl ⟨hwant, hv⟩) hholds ?_ (.inr ?_) ?_ ?_
                  · intro s hsm; exact List.mem_cons_of_mem _ hsm
                  · exact List.mem_cons_self
                  · intro s hsm
                    obtain ⟨t, ht, rfl⟩ := List.mem_map.1 hsm
                    rcases List.mem_cons.1 ht with rfl | ht
                    · exact hholds
                    · exact hheld t ht
                  · exact ih _ _ _ _ _ (hg'.put hst.size o.dst v) (hst.put o.dst v (hwr i o ho)) (hcl.set hmem) (fun s hsm => by
                      rcases List.mem_cons.1 hsm with rfl | ht
                      · exact hholds
                      · exact hheld s ht) hk
                · exact h'.elim
              · refine wpAnyX_first (S := fun _ => True) (v := undef) ho hs fuel _ (asS held) listed a w hfree hcl hmem (.inr ⟨hwant, rfl⟩) trivial (fun _ h => h) (.inl fun _ => trivial) ?_ ?_
                · intro s hsm
                  obtain ⟨t, ht, rfl⟩ := List.mem_map.1 hsm
                  exact hheld t ht
                · exact ih _ _ _ _ _ (hg'.put hst.size o.dst undef) (hst.put o.dst undef (hwr i o ho)) (hcl.set hmem) hheld h'
          · exact h.elim
        · refine ⟨(fun h0 => by rw [hr] at h0; cases h0), fun j hj => ?_⟩
          have hj' := allD_out h j (by rw [← hr]; exact hj)
          split at hj'
          · rename_i o ho
            unfold wpOpA
            simp only [ho]
            rcases guardD_out hg hj' with ⟨hwant, fr', hg', h'⟩ | ⟨hwant, fr', hg', h'⟩
            · simp only [hwant, if_true]
              refine Acts.mono (dLoud_acts hg'.eval h') fun v w' hk => ?_
              obtain ⟨hst1, hk⟩ := stands_out hk
              refine ⟨fun s hsm hc => ?_, ?_⟩
              · obtain ⟨t, ht, rfl⟩ := List.mem_map.1 hsm
                exact hst1 t ht hc
              · rw [asS_kept]
                exact ih _ _ _ _ _ (hg'.put hst.size o.dst v) (hst.put o.dst v (hwr j o ho)) (hcl.set hj) (fun s hsm => by
                  obtain ⟨h1, h2⟩ := List.mem_filter.1 hsm
                  exact hst1 s h1 (by simpa using h2)) hk
            · simp only [hwant]
              refine ⟨fun s hsm _ => ?_, ?_⟩
              · obtain ⟨t, ht, rfl⟩ := List.mem_map.1 hsm
                exact hheld t ht
              · rw [asS_kept]
                exact ih _ _ _ _ _ (hg'.put hst.size o.dst undef) (hst.put o.dst undef (hwr j o ho)) (hcl.set hj) (fun s hsm => hheld s (List.mem_filter.1 hsm).1) h'
          · exact hj'.elim
end
end Go.Dn
