/-
  The reading of code is sound: what it asks suffices for the model's own run.
-/
import Derived.Test.YtmilfgmkcmcicaaDnOps2
import Derived.OrdersHeld
import Derived.OrdersIn
namespace Go.Dn

/-! ## Frames -/
def Agrees (fr : Fr) (a : Act) : Prop := ∀ i v, look fr i = some v → a.tmps[i]? = some v
theorem look_cons (j : Nat) (v : Value) (fr : Fr) (i : Nat) : look ((j, v) :: fr) i = if j = i then some v else look fr i := by
  show (bif Nat.beq j i then some v else look fr i) = _
  by_cases h : j = i
  · subst h; simp
  · have : Nat.beq j i = false := by
      cases hb : Nat.beq j i with
      | false => rfl
      | true => exact absurd (Nat.eq_of_beq_eq_true hb) h
    rw [this]; simp [h]
theorem Agrees.eval {fr : Fr} {a : Act} (h : Agrees fr a) : ∀ x v, evalO fr x = some v → a.eval x = v
  | .tmp t, v, hx => by have := h t v hx; simp [Act.eval, this]
  | .const u, v, hx => by simpa [evalO, Act.eval] using hx
  | .global g, v, hx => by simpa [evalO, Act.eval] using hx
  | .func f, v, hx => by simpa [evalO, Act.eval] using hx
theorem Agrees.put {fr : Fr} {a : Act} {n : Nat} (h : Agrees fr a) (hn : a.tmps.size = n) (d : Option Nat) (v : Value) : Agrees (put n fr d v) (a.put d v) := by
  cases d with
  | none => exact h
  | some d =>
    intro i u hu
    unfold Dn.put at hu
    simp only [Act.put]
    cases hb : Nat.blt d n with
    | true =>
      have hd : d < n := by rw [Nat.blt, Nat.ble_eq] at hb; exact hb
      simp only [hb, cond_true, look_cons] at hu
      by_cases hi : d = i
      · subst hi
        simp only [if_true] at hu
        cases hu
        simp [hn, hd]
      · simp only [hi, if_false] at hu
        rw [Array.getElem?_setIfInBounds_ne hi]
        exact h i u hu
    | false =>
      simp only [hb, cond_false] at hu
      have hd : ¬ d < n := by intro hd; have : Nat.blt d n = true := by rw [Nat.blt, Nat.ble_eq]; exact hd
                              rw [this] at hb; cases hb
      have h1 := h i u hu
      have hi : i < a.tmps.size := (Array.getElem?_eq_some_iff.1 h1).1
      rw [Array.getElem?_setIfInBounds_ne (by omega)]
      exact h1
theorem Agrees.again {fr : Fr} {a : Act} {i : Nat} {v : Value} (h : Agrees fr a) (hl : look fr i = some v) : Agrees ((i, v) :: fr) a := by
  intro j u hu
  rw [look_cons] at hu
  by_cases hij : i = j
  · subst hij; simp at hu; subst hu; exact h _ _ hl
  · simp only [hij, if_false] at hu; exact h _ _ hu

/-- the frame's size, its deferred calls, and the slots outside 'W' as at the start -/
structure St (n : Nat) (a0 : Act) (W : Nat → Bool) (nr : Bool) (a : Act) : Prop where
  size : a.tmps.size = n
  defers : nr = true → a.defers = a0.defers
  same : ∀ i, W i = false → a.tmps[i]? = a0.tmps[i]?
theorem St.put {n : Nat} {a0 a : Act} {W : Nat → Bool} {nr : Bool} (h : St n a0 W nr a) (d : Option Nat) (v : Value) (hd : ∀ i, d = some i → W i = true) : St n a0 W nr (a.put d v) := by
  cases d with
  | none => exact h
  | some d =>
    refine ⟨by simp [Act.put, h.size], h.defers, fun i hi => ?_⟩
    have hne : d ≠ i := by
      intro he
      subst he
      rw [hd d rfl] at hi
      cases hi
    simp only [Act.put]
    rw [Array.getElem?_setIfInBounds_ne hne]
    exact h.same i hi

/-! ## One operation -/
section
variable {P : Program} {n : Nat} {ops : Array Oper} {a0 : Act}

theorem guardD_out {o : Oper} {fr : Fr} {A B : Fr → Prop} {a : Act} (hg : Agrees fr a) (h : guardD ops o fr A B) :
    (Region.wanted o (yielded ops a.tmps) = true ∧ ∃ fr', Agrees fr' a ∧ A fr') ∨ (Region.wanted o (yielded ops a.tmps) = false ∧ ∃ fr', Agrees fr' a ∧ B fr') := by
  unfold guardD at h
  split at h
  · rename_i ho
    exact .inl ⟨by simp [Region.wanted, ho], fr, hg, h⟩
  · rename_i j want ho
    split at h
    · exact h.elim
    · rename_i d hd
      split at h
      · rename_i b hb
        have hy : yielded ops a.tmps j = some b := by simp [yielded, hd, hg d _ hb]
        cases b with
        | true =>
          have hag := hg.again hb
          cases want with
          | true => exact .inl ⟨by simp [Region.wanted, ho, hy], _, hag, h⟩
          | false => exact .inr ⟨by simp [Region.wanted, ho, hy], _, hag, h⟩
        | false =>
          have hag := hg.again hb
          cases want with
          | true => exact .inr ⟨by simp [Region.wanted, ho, hy], _, hag, h⟩
          | false => exact .inl ⟨by simp [Region.wanted, ho, hy], _, hag, h⟩
      · rename_i vs hb
        have hy : yielded ops a.tmps j = none := by simp [yielded, hd, hg d _ hb]
        exact .inr ⟨by simp [Region.wanted, ho, hy], fr, hg, h⟩
      · exact h.elim

theorem pure_notSelect {o : Oper} (h : isPure P o = true) : ∀ cs b, o.op ≠ .select cs b := by
  intro cs b ho
  simp [isPure, ho] at h

theorem Acts.mono {s : Sem Next} {k k' : Value → World → Prop} {w : World} (h : Acts P s k w) (hk : ∀ v w', k v w' → k' v w') : Acts P s k' w := by
  unfold Acts at *
  split at h
  · exact hk _ _ h
  · exact hk _ _ h
  · exact Calls.mono h fun e w'' ⟨v, he, hh⟩ => ⟨v, he, hk _ _ hh⟩
  · exact RoundIn.mono h fun e w'' ⟨v, he, hh⟩ => ⟨v, he, hk _ _ hh⟩
  · exact h.elim

theorem dOp_acts {fr : Fr} {a : Act} {o : Oper} {k : Value → Held → World → Prop} {w : World} (hg : Agrees fr a) (h : dOp P (evalO fr) o k w) :
    Acts P (execOp a.eval o) (fun v w' => ∃ hh, k v hh w') w := by
  unfold dOp at h
  split at h
  · rename_i hc
    have hp : isPure P o = true := by
      unfold cls at hc
      cases hh : isPure P o with
      | true => rfl
      | false => simp only [hh, cond_false] at hc; split at hc <;> cases hc
    obtain ⟨v, hk, hr⟩ := dPure_run (pure_notSelect hp) hg.eval h
    exact Acts.of_value (hr w) ⟨_, hk⟩
  · split at h
    · rename_i t x ho
      obtain ⟨ad, v, hh, hx, hk, hholds, hr⟩ := loadD_run h
      have hr' := hr w hholds
      have he := hg.eval _ _ hx
      have hv : (execOp a.eval o).run P w = .ok (.value v) w := by
        simp only [execOp, ho, he, Sem.run_bind, hr', Result.andThen_ok, Sem.run_pure]
      exact Acts.of_value hv ⟨_, hk⟩
    · exact h.elim
  · exact (dLoud_acts hg.eval h).mono fun v w' hk => ⟨_, hk⟩

/-- one operation, by what it comes to -/
def actA (P : Program) (o : Oper) (a : Act) (w : World) (K : Act → World → Prop) : Prop := Acts P (execOp a.eval o) (fun v w' => K (a.put o.dst v) w') w
def wpOpA (P : Program) (ops : Array Oper) (i : Nat) (K : Act → World → Prop) (a : Act) (w : World) : Prop :=
  match ops[i]? with
  | none => K a w
  | some o => if Region.wanted o (yielded ops a.tmps) then actA P o a w K else K (a.put o.dst undef) w
def wpOpsA (P : Program) (ops : Array Oper) (Q : Act → World → Prop) : List Nat → Act → World → Prop
  | [], a, w => Q a w
  | i :: rest, a, w => wpOpA P ops i (wpOpsA P ops Q rest) a w
theorem wpOpA_mono {i : Nat} {a : Act} {w : World} {K K' : Act → World → Prop} (h : ∀ a w, K a w → K' a w) (hh : wpOpA P ops i K a w) : wpOpA P ops i K' a w := by
  unfold wpOpA at *
  split
  · exact h _ _ (by simpa [*] using hh)
  · rename_i o ho
    simp only [ho] at hh
    split
    · rename_i hw; simp only [hw, if_true] at hh; exact Acts.mono hh fun v w' => h _ _
    · rename_i hw; simp only [hw] at hh; exact h _ _ hh

/-- the fence that lets everything in, in a round or not -/
def FF (r : Option Nat) : Fence := { fn := fun _ => True, depth := none, alive := false, round := r }
theorem FF_room (r : Option Nat) (m : Nat) : (FF r).room m := fun d hd => by cases hd
theorem defer_acts {c : Call} {dst : Option Tmp} {type : TypeId} {pos : _} {after : _} {guard : _} {ρ : Operand → Value} {k : Value → World → Prop} {w : World} (h : Acts P (execOp ρ ⟨dst, .defer c, type, pos, after, guard⟩) k w) : False := by
  unfold Acts at h
  simp only [execOp, Sem.run_bind] at h
  generalize (resolve ρ c type).run P w = r at h
  cases r with
  | ok d w' => simp [Result.andThen] at h
  | halt x w' => simp [Result.andThen] at h
theorem wpIn_of_acts {o : Oper} {a : Act} {w : World} {K : Act → World → Prop} {Q : Exit → Act → World → Prop} (r : Option Nat) (m : Nat) (h : actA P o a w K) : o.wpIn (FF r) m P a w K Q := by
  refine ⟨fun _ _ => trivial, ?_⟩
  have hs : o.semAt (FF r).round a.eval = execOp a.eval o := by
    unfold Oper.semAt
    split
    · rename_i l c hr ho
      obtain ⟨dst, op, type, pos, after, guard⟩ := o
      simp only at ho
      subst ho
      exact (defer_acts h).elim
    · rfl
  rw [hs]
  unfold actA Acts at h
  split at h
  · rename_i v w' hr; rw [hr]; exact h
  · rename_i w' hr; rw [hr]; exact h
  · rename_i f args w' hr
    rw [hr]
    refine ⟨fun hd => (by cases hd), ?_⟩
    refine CallsIn.mono (F := FF r) (R := fun e w'' => ∃ v, e = .returned v ∧ K (a.put o.dst v) w'') (callsIn_wide.2 h) fun e w'' ⟨v, he, hk⟩ => by subst he; exact hk
  · rename_i l f tmps assign body w' hr
    rw [hr]
    refine ⟨fun hd => (by cases hd), ?_⟩
    have h2 : RoundIn (FF r) (m - 1) P l f tmps assign body w' fun e w'' => ∃ v, e = .returned v ∧ K (a.put o.dst v) w'' := ⟨trivial, fun c cs _ => h.2 c cs (FF_room none _)⟩
    exact RoundIn.mono h2 fun e w'' ⟨v, he, hk⟩ => by subst he; exact hk
  · exact h.elim
theorem wpOpsIn_of_A {Q : Act → World → Prop} {Q' : Exit → Act → World → Prop} (r : Option Nat) (m : Nat) (hQ : ∀ a w, Q a w → Q' .normal a w) : ∀ (l : List Nat) (a : Act) (w : World), wpOpsA P ops Q l a w → wpOpsIn (FF r) m P ops Q' l a w
  | [], a, w, h => hQ a w h
  | i :: rest, a, w, h => by
    unfold wpOpsA wpOpA at h
    rw [wpOpsIn_cons]
    unfold wpOpIn
    split at h
    · rename_i ho
      simp only [ho]
      exact wpOpsIn_of_A r m hQ rest a w h
    · rename_i o ho
      simp only [ho]
      split at h
      · rename_i hw
        rw [if_pos hw]
        exact wpIn_of_acts r m (Acts.mono h fun v w' hk => wpOpsIn_of_A r m hQ rest _ w' hk)
      · rename_i hw
        rw [if_neg hw]
        exact ⟨fun _ _ => trivial, wpOpsIn_of_A r m hQ rest _ w h⟩

/-! ## Operations in the order of the text -/
def marks (ms : List Nat) : List Deferred := ms.map fun d => { target := .collected d, args := #[] }
/-- what the code behind asks, of a frame that is known in part -/
def Lift (n : Nat) (a0 : Act) (W : Nat → Bool) (nr : Bool) (K : Exit → Fr → List Nat → World → Prop) (e : Exit) (a : Act) (w : World) : Prop :=
  St n a0 W nr a ∧ ∃ fr ms, Agrees fr a ∧ a.defers = marks ms ∧ K e fr ms w
def LiftO (n : Nat) (a0 : Act) (W : Nat → Bool) (K : Fr → World → Prop) (a : Act) (w : World) : Prop := St n a0 W true a ∧ ∃ fr, Agrees fr a ∧ K fr w

theorem opsWrite_mem {o : Oper} {i : Nat} : ∀ {l : List Oper}, o ∈ l → o.dst = some i → opsWrite i l = true
  | x :: l, hm, hd => by
    unfold opsWrite
    rcases List.mem_cons.1 hm with rfl | hm
    · simp [hd]
    · simp [opsWrite_mem hm hd]

theorem dOps_sound {K : Fr → World → Prop} : ∀ (l : List Oper) (j : Nat), ops.toList.drop j = l → ∀ (fr : Fr) (w : World) (a : Act), Agrees fr a → St n a0 (fun i => opsWrite i ops.toList) true a →
    dOps P n ops l fr K w → wpOpsA P ops (LiftO n a0 (fun i => opsWrite i ops.toList) K) (List.range' j l.length) a w
  | [], _, _, fr, w, a, hg, hst, h => ⟨hst, fr, hg, h⟩
  | o :: l, j, hl, fr, w, a, hg, hst, h => by
    have hlt : j < ops.toList.length := by
      rcases Nat.lt_or_ge j ops.toList.length with h' | h'
      · exact h'
      · rw [List.drop_eq_nil_of_le h'] at hl; cases hl
    have hcons := List.drop_eq_getElem_cons hlt
    rw [hl] at hcons
    injection hcons with h1 h2
    have hget : ops[j]? = some o := by
      have hj : j < ops.size := by simpa using hlt
      rw [Array.getElem?_eq_getElem hj]
      rw [h1]
      simp
    have hmem : o ∈ ops.toList := by rw [h1]; exact List.getElem_mem _
    have hw : ∀ i, o.dst = some i → opsWrite i ops.toList = true := fun i hi => opsWrite_mem hmem hi
    simp only [List.length_cons, List.range'_succ, wpOpsA, wpOpA, hget]
    rcases guardD_out hg h with ⟨hwant, fr', hg', h'⟩ | ⟨hwant, fr', hg', h'⟩
    · simp only [hwant, if_true]
      refine Acts.mono (dOp_acts hg' h') ?_
      rintro v w' ⟨hh, hk⟩
      exact dOps_sound l (j + 1) h2.symm _ w' _ (hg'.put hst.size o.dst v) (hst.put o.dst v hw) hk
    · simp only [hwant]
      exact dOps_sound l (j + 1) h2.symm _ w _ (hg'.put hst.size o.dst undef) (hst.put o.dst undef hw) h'
end
end Go.Dn
