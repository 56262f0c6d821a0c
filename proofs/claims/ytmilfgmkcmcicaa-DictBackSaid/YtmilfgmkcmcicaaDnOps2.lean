/-
  The pure operations, together; loads; what acts.
-/
import Derived.Test.YtmilfgmkcmcicaaDnOps
import Derived.Laws.Rows
namespace Go.Dn
section
variable {P : Program} {e : Operand → Option Value} {ρ : Operand → Value}

theorem boundV_out {x : Option Operand} {d : Nat} {k : Int → Prop} (he : ∀ x v, e x = some v → ρ x = v) (h : boundV e x d k) :
    ∃ n : Int, k n ∧ (x = none ∧ n = d ∨ ∃ o kd, x = some o ∧ ρ o = .int kd n) := by
  unfold boundV at h
  split at h
  · exact ⟨_, h, .inl ⟨rfl, rfl⟩⟩
  · rename_i o
    split at h
    · rename_i kd n hn
      exact ⟨n, h, .inr ⟨o, kd, rfl, he _ _ hn⟩⟩
    · exact h.elim

theorem run_sliceBound {v : Value} {kd : IntKind} {n : Int} {y : Nat} {code : BoundsCode} (hv : v = .int kd n) (h0 : 0 ≤ n) (h1 : n ≤ y) (w : World) :
    (Instr.sliceBound v y code).run P w = .ok n.toNat w := by
  subst hv
  simp [Instr.sliceBound, asIntOf, h0, h1]

theorem run_bounds2 {isS : Bool} {len cap : Nat} {lo hi : Option Operand} {l h : Int} (h0 : 0 ≤ l) (h1 : l ≤ h) (h2 : h ≤ cap)
    (hl : lo = none ∧ l = (0 : Nat) ∨ ∃ o kd, lo = some o ∧ ρ o = .int kd l) (hh : hi = none ∧ h = len ∨ ∃ o kd, hi = some o ∧ ρ o = .int kd h) (w : World) :
    (Instr.sliceBounds isS len cap (lo.map ρ) (hi.map ρ) none).run P w = .ok (l.toNat, h.toNat, cap) w := by
  rcases hl with ⟨rfl, rfl⟩ | ⟨o, kd, rfl, ho⟩ <;> rcases hh with ⟨rfl, rfl⟩ | ⟨o', kd', rfl, ho'⟩
  · simp [Instr.sliceBounds]
  · simp [Instr.sliceBounds, run_sliceBound ho' (Int.le_trans h0 h1) h2]
  · have h3 : l ≤ (len : Int) := h1
    simp [Instr.sliceBounds, run_sliceBound ho h0 h3]
  · have h3 : l ≤ (h.toNat : Int) := by omega
    simp [Instr.sliceBounds, run_sliceBound ho' (Int.le_trans h0 h1) h2, run_sliceBound ho h0 h3]
theorem run_bounds3 {len cap : Nat} {lo hi : Option Operand} {l h m : Int} {mo : Operand} {km : IntKind} (h0 : 0 ≤ l) (h1 : l ≤ h) (h2 : h ≤ m) (h3 : m ≤ cap)
    (hl : lo = none ∧ l = (0 : Nat) ∨ ∃ o kd, lo = some o ∧ ρ o = .int kd l) (hh : ∃ o kd, hi = some o ∧ ρ o = .int kd h) (hm : ρ mo = .int km m) (w : World) :
    (Instr.sliceBounds true len cap (lo.map ρ) (hi.map ρ) (some (ρ mo))).run P w = .ok (l.toNat, h.toNat, m.toNat) w := by
  obtain ⟨o', kd', rfl, ho'⟩ := hh
  have h4 : h ≤ (m.toNat : Int) := by omega
  rcases hl with ⟨rfl, rfl⟩ | ⟨o, kd, rfl, ho⟩
  · simp [Instr.sliceBounds, run_sliceBound hm (by omega) h3, run_sliceBound ho' (Int.le_trans h0 h1) h4]
  · have h5 : l ≤ (h.toNat : Int) := by omega
    simp [Instr.sliceBounds, run_sliceBound hm (by omega) h3, run_sliceBound ho' (Int.le_trans h0 h1) h4, run_sliceBound ho h0 h5]

theorem cellsOf_run {t : TypeId} (h : P.info? t ≠ none) (w : World) : (sizeOf t).run P w = .ok (P.cellsOf t) w := by
  obtain ⟨i, hi⟩ := Option.ne_none_iff_exists'.1 h
  simp [sizeOf, typeInfo, hi, Program.cellsOf]

theorem elOk_out {el : TypeId} {X : Prop} (h : bif elOk P el then X else False) : P.info? el ≠ none ∧ X := by
  unfold elOk at h
  cases hi : P.info? el with
  | none => simp [hi] at h
  | some i => simp only [hi, Option.isSome_some, cond_true] at h; exact ⟨by simp, h⟩
theorem sliceD_run {t : TypeId} {x : Operand} {lo hi mx : Option Operand} {K : Value → Prop} (he : ∀ x v, e x = some v → ρ x = v) (h : sliceD P e t x lo hi mx K) :
    ∃ v, K v ∧ ∀ w, (Instr.sliceAt t (ρ x) (lo.map ρ) (hi.map ρ) (mx.map ρ)).run P w = .ok v w := by
  unfold sliceD at h
  split at h
  · rename_i s hu hx
    obtain ⟨hv, h, hh⟩ := boundV_out he h
    obtain ⟨lv, h, hl⟩ := boundV_out he h
    obtain ⟨⟨h0, h1, h2⟩, h⟩ := h
    refine ⟨_, h, fun w => ?_⟩
    have := he _ _ hx
    simp [Instr.sliceAt, Instr.slice, underlying, hu, this, run_bounds2 h0 h1 h2 hl hh]
  · rename_i el a len cap hu hx
    obtain ⟨hel, h⟩ := elOk_out h
    obtain ⟨hv, h, hh⟩ := boundV_out he h
    obtain ⟨lv, h, hl⟩ := boundV_out he h
    obtain ⟨⟨h0, h1, h2⟩, h⟩ := h
    refine ⟨_, h, fun w => ?_⟩
    have := he _ _ hx
    have hs := cellsOf_run hel w
    simp [Instr.sliceAt, Instr.slice, underlying, hu, this, run_bounds2 h0 h1 h2 hl hh, hs, SLA]
  · rename_i el a len cap mo hu hx
    obtain ⟨hel, h⟩ := elOk_out h
    split at h
    · exact h.elim
    · rename_i ho
      obtain ⟨mv, h, hm⟩ := boundV_out he h
      obtain ⟨hv, h, hh⟩ := boundV_out he h
      obtain ⟨lv, h, hl⟩ := boundV_out he h
      obtain ⟨⟨h0, h1, h2, h3⟩, h⟩ := h
      refine ⟨_, h, fun w => ?_⟩
      have := he _ _ hx
      have hs := cellsOf_run hel w
      rcases hm with ⟨hm, _⟩ | ⟨o, km, hm, hmo⟩
      · cases hm
      rcases hh with ⟨hh, _⟩ | ⟨o2, kd, hh, hho⟩
      · cases hh
      cases hm
      have hb := run_bounds3 (P := P) (len := len) h0 h1 h2 h3 hl ⟨o2, kd, hh, hho⟩ hmo w
      simp only [Instr.sliceAt, Instr.slice, Sem.run_bind, underlying, hu, run_program, Result.andThen_ok, this, Sem.run_pure, Option.map_some] at hb ⊢
      simp [hb, hs, SLA]
  · exact h.elim

theorem indexAddr_run {t : TypeId} {x i : Operand} {K : Value → Prop} (he : ∀ x v, e x = some v → ρ x = v) (h : indexAddrD P e t x i K) :
    ∃ v, K v ∧ ∀ w, (Instr.indexAt t (ρ x) (ρ i)).run P w = .ok v w := by
  unfold indexAddrD at h
  split at h
  · rename_i el p len cap hu hx
    obtain ⟨hel, h⟩ := elOk_out h
    obtain ⟨kd, n, hi, h⟩ := INTV_out h
    obtain ⟨⟨h0, h1⟩, h⟩ := h
    obtain ⟨a, rfl, h⟩ := PTR_out h
    refine ⟨_, h, fun w => ?_⟩
    have e1 := he _ _ hx
    have e2 := he _ _ hi
    have hs := cellsOf_run hel w
    simp [Instr.indexAt, asIntOf, underlying, hu, e1, e2, h0, h1, hs]
  · rename_i len el p hu hx
    obtain ⟨hel, h⟩ := elOk_out h
    obtain ⟨kd, n, hi, h⟩ := INTV_out h
    have h' : (0 ≤ n ∧ n < len) ∧ PTR p fun a => K (.pointer (some (a.add (n.toNat * P.cellsOf el)))) := by
      cases hc : isConstO i with
      | false => simpa [hc] using h
      | true =>
        by_cases hb : 0 ≤ n ∧ n < len
        · simp only [hc, cond_true, hb, and_self, decide_true] at h; exact ⟨hb, h⟩
        · simp [hc, hb] at h
    obtain ⟨⟨h0, h1⟩, h⟩ := h'
    obtain ⟨a, rfl, h⟩ := PTR_out h
    refine ⟨_, h, fun w => ?_⟩
    have e1 := he _ _ hx
    have e2 := he _ _ hi
    have hs := cellsOf_run hel w
    simp [Instr.indexAt, asIntOf, underlying, hu, e1, e2, h0, h1, hs, Instr.sureAddr]
  · exact h.elim

theorem index_run {t : TypeId} {x i : Operand} {K : Value → Prop} (he : ∀ x v, e x = some v → ρ x = v) (h : indexD P e t x i K) :
    ∃ v, K v ∧ ∀ w, (Instr.index t (ρ x) (ρ i)).run P w = .ok v w := by
  unfold indexD at h
  split at h
  · rename_i s hu hx
    obtain ⟨kd, n, hi, h⟩ := INTV_out h
    obtain ⟨⟨h0, h1⟩, h⟩ := h
    refine ⟨_, h, fun w => ?_⟩
    have e1 := he _ _ hx
    have e2 := he _ _ hi
    have hlt : n.toNat < s.size := by omega
    have hg : s[n.toNat]? = some (sget s n.toNat) := by
      have h2 : n.toNat < s.data.toList.length := by simpa using hlt
      rw [getElem?_pos s n.toNat hlt]
      simp only [sget, List.getD_eq_getElem?_getD, List.getElem?_eq_getElem h2, Option.getD_some]
      rfl
    simp [Instr.index, asIntOf, underlying, hu, e1, e2, h0, hg]
  · exact h.elim

theorem fieldAddr_run {s : TypeId} {x : Operand} {f : Nat} {K : Value → Prop} (he : ∀ x v, e x = some v → ρ x = v) (h : fieldAddrD P e s x f K) :
    ∃ v, K v ∧ ∀ w, (Instr.fieldAt s (ρ x) f).run P w = .ok v w := by
  unfold fieldAddrD at h
  split at h
  · rename_i fs hu
    split at h
    · rename_i fl hf
      cases hz : Nat.beq (P.cellsOf fl.type) 0 with
      | true => simp [hz] at h
      | false =>
        simp only [hz, cond_false] at h
        obtain ⟨a, hx, h⟩ := PTRV_out h
        have hne : P.cellsOf fl.type ≠ 0 := fun h0 => by rw [h0] at hz; simp at hz
        have e1 := he _ _ hx
        refine ⟨_, h, fun w => ?_⟩
        simp [Instr.fieldAt, underlying, hu, hf, e1, Instr.sureAddr, fieldPlace, runs_sizeOf hne, hne]
    · exact h.elim
  · exact h.elim

theorem known_agree {o : Oper} (he : ∀ x v, e x = some v → ρ x = v) (h : known e o = true) : ∀ x ∈ o.op.operands, rho e x = ρ x := by
  intro x hx
  unfold known at h
  have := List.all_eq_true.1 h x (Array.mem_toList_iff.2 hx)
  obtain ⟨v, hv⟩ := Option.isSome_iff_exists.1 this
  simp [rho, hv, he _ _ hv]

theorem default_run {o : Oper} {K : Value → Prop} (hs : ∀ cs b, o.op ≠ .select cs b) (he : ∀ x v, e x = some v → ρ x = v) (h : defaultD P e o K) :
    ∃ v, K v ∧ ∀ w, (execOp ρ o).run P w = .ok (.value v) w := by
  unfold defaultD at h
  cases hk : known e o with
  | false => simp [hk] at h
  | true =>
    simp only [hk, cond_true] at h
    split at h
    · rename_i v hv
      refine ⟨v, h, fun w => ?_⟩
      rw [← execOp_congr o hs (known_agree he hk)]
      exact runPure_run _ hv w
    · exact h.elim

theorem v_run {s : Sem Value} {v : Value} {w w' : World} (h : s.run P w = .ok v w') : (do pure (Next.value (← s)) : Sem Next).run P w = .ok (.value v) w' := by
  simp [h]
/-- THE PURE OPERATIONS: one value, in whatever world. -/
theorem dPure_run {o : Oper} {K : Value → Prop} (hs : ∀ cs b, o.op ≠ .select cs b) (he : ∀ x v, e x = some v → ρ x = v) (h : dPure P e o K) :
    ∃ v, K v ∧ ∀ w, (execOp ρ o).run P w = .ok (.value v) w := by
  unfold dPure at h
  split at h
  · rename_i x ho
    obtain ⟨v, hx, h⟩ := VAL_out h
    exact ⟨v, h, fun w => by simp [execOp, ho, he _ _ hx]⟩
  · rename_i x ho
    obtain ⟨v, hx, h⟩ := VAL_out h
    exact ⟨v, h, fun w => by simp [execOp, ho, he _ _ hx]⟩
  · rename_i c a b ho
    obtain ⟨t, hc, h⟩ := BOOLV_out h
    cases t with
    | true =>
      obtain ⟨v, hx, h⟩ := VAL_out h
      exact ⟨v, h, fun w => by simp [execOp, ho, he _ _ hx, he _ _ hc, asBool]⟩
    | false =>
      obtain ⟨v, hx, h⟩ := VAL_out h
      exact ⟨v, h, fun w => by simp [execOp, ho, he _ _ hx, he _ _ hc, asBool]⟩
  · rename_i x ho
    unfold nilD at h
    split at h
    · rename_i p hx
      obtain ⟨a, rfl, h⟩ := PTR_out h
      exact ⟨_, h, fun w => by simp [execOp, ho, he _ _ hx]⟩
    · rename_i f u c hx
      exact ⟨_, h, fun w => by simp [execOp, ho, he _ _ hx]⟩
    · rename_i f u c hx
      exact ⟨_, h, fun w => by simp [execOp, ho, he _ _ hx]⟩
    · exact h.elim
  · rename_i op t x y yt ho
    unfold binD at h
    have key : ∃ v, K v ∧ ∀ w, (do eqGuard op t x y (ρ x) (ρ y); binOp op t (ρ x) (ρ y) : Sem Value).run P w = .ok v w := by
      split at h
      · rename_i hy
        obtain ⟨u, hx, h⟩ := VAL_out h
        rw [he _ _ hx, he _ _ hy]
        exact eqOp_run x y h
      unfold binD2 at h
      split at h
      · rename_i k a k' b hx hy
        have h' : intOp op k k' a b K := by
          cases hc : isConstO y with
          | false => simpa [hc] using h
          | true => exact intOpC_intOp (by simpa [hc] using h)
        obtain ⟨v, hK, hr⟩ := binInt_run (P := P) t h'
        exact ⟨v, hK, fun w => by rw [he _ _ hx, he _ _ hy]; simp only [Sem.run_bind, guardInt, Result.andThen_ok, hr w]⟩
      · rename_i a b hx hy
        obtain ⟨v, hK, hr⟩ := binStr_run (P := P) t h
        exact ⟨v, hK, fun w => by rw [he _ _ hx, he _ _ hy]; simp only [Sem.run_bind, guardStr, Result.andThen_ok, hr w]⟩
      · rename_i u v _ _ hx hy
        rw [he _ _ hx, he _ _ hy]
        exact eqOp_run x y h
      · exact h.elim
    obtain ⟨v, hK, hr⟩ := key
    exact ⟨v, hK, fun w => by have := v_run (hr w); simpa only [execOp, ho] using this⟩
  · rename_i s x f ho
    obtain ⟨v, hK, hr⟩ := fieldAddr_run he h
    exact ⟨v, hK, fun w => by have := v_run (hr w); simpa only [execOp, ho] using this⟩
  · rename_i t x i ho
    obtain ⟨v, hK, hr⟩ := indexAddr_run he h
    exact ⟨v, hK, fun w => by have := v_run (hr w); simpa only [execOp, ho] using this⟩
  · rename_i t x i ho
    obtain ⟨v, hK, hr⟩ := index_run he h
    exact ⟨v, hK, fun w => by have := v_run (hr w); simpa only [execOp, ho] using this⟩
  · rename_i t x lo hi mx ho
    obtain ⟨v, hK, hr⟩ := sliceD_run he h
    exact ⟨v, hK, fun w => by have := v_run (hr w); simpa only [execOp, ho] using this⟩
  · exact default_run hs he h

/-! ### Loads -/
theorem LOADC_out : ∀ (zs : List Value) (a : Addr) (i : Nat) (k : List Value → Prop) (w : World), LOADC zs a i k w →
    ∃ vs, vs.length = zs.length ∧ k vs ∧ ∀ j v, vs[j]? = some v → w.cell? (a.add (i + j)) = some v
  | [], _, _, _, _, h => ⟨[], rfl, h, by simp⟩
  | z :: zs, a, i, k, w, h => by
    obtain ⟨v, hv, h⟩ := LIKE1_out h
    obtain ⟨vs, hl, hk, hc⟩ := LOADC_out zs a (i + 1) _ w h
    refine ⟨v :: vs, by simp [hl], hk, fun j u hu => ?_⟩
    cases j with
    | zero => simp at hu; subst hu; exact hv
    | succ j => simp at hu; have := hc j u hu; rwa [show i + 1 + j = i + (j + 1) by omega] at this
theorem holds_cons (x : Addr × Value) (h : Held) (w : World) : holds (x :: h) w ↔ w.cell? x.1 = some x.2 ∧ holds h w := by
  cases h <;> simp [holds]
theorem heldAt_holds (a : Addr) (w : World) : ∀ (vs : List Value) (i : Nat), holds (heldAt a vs i) w ↔ ∀ j v, vs[j]? = some v → w.cell? (a.add (i + j)) = some v
  | [], i => by simp [heldAt, holds]
  | v :: vs, i => by
    rw [heldAt, holds_cons, heldAt_holds a w vs (i + 1)]
    constructor
    · rintro ⟨h1, h2⟩ j u hu
      cases j with
      | zero => simp at hu; subst hu; exact h1
      | succ j => simp at hu; have := h2 j u hu; rwa [show i + 1 + j = i + (j + 1) by omega] at this
    · intro h
      refine ⟨h 0 v rfl, fun j u hu => ?_⟩
      have := h (j + 1) u (by simpa using hu)
      rwa [show i + 1 + j = i + (j + 1) by omega]
theorem loadD_run {t : TypeId} {x : Option Value} {k : Value → Held → Prop} {w : World} (h : loadD P t x k w) :
    ∃ a v hh, x = some (.pointer (some a)) ∧ k v hh ∧ holds hh w ∧ ∀ w', holds hh w' → (Instr.loadAt t (.pointer (some a))).run P w' = .ok v w' := by
  unfold loadD at h
  split at h
  · exact h.elim
  · rename_i z hz
    have hi : P.info? t ≠ none := by
      intro hn
      simp [zeroOf, hn] at hz
    cases hg : isAggT P t with
    | true =>
      simp only [hg, cond_true] at h
      cases hb : Nat.beq (P.cellsOf t) z.cells.toList.length with
      | false => rw [hb] at h; exact h.elim
      | true =>
        rw [hb] at h
        simp only [cond_true] at h
        obtain ⟨a, rfl, h⟩ := PTRV_out h
        obtain ⟨vs, hl, hk, hc⟩ := LOADC_out _ _ _ _ _ h
        refine ⟨a, _, _, rfl, hk, (heldAt_holds a w vs 0).2 hc, fun w' hh => ?_⟩
        have hc' := (heldAt_holds a w' vs 0).1 hh
        simp only [Nat.zero_add] at hc'
        have hag : (isAgg t).run P w' = .ok true w' := by
          unfold isAggT at hg
          unfold isAgg
          split at hg
          · rename_i hu; simp [underlying, hu]
          · rename_i hu; simp [underlying, hu]
          · cases hg
        have hsz := cellsOf_run hi w'
        have hn : P.cellsOf t = vs.length := by rw [hl]; exact Nat.eq_of_beq_eq_true hb
        have hl2 := run_loadCells_list (P := P) w' a vs hc'
        simp [Instr.loadAt, Instr.sureAddr, loadVar, hag, hsz, hn, hl2]
    | false =>
      simp only [hg, cond_false] at h
      cases hsome : (P.underlying t).isSome with
      | false => rw [hsome] at h; exact h.elim
      | true =>
      rw [hsome] at h
      simp only [cond_true] at h
      obtain ⟨a, rfl, h⟩ := PTRV_out h
      obtain ⟨vs, hl, hk, hc⟩ := LOADC_out _ _ _ _ _ h
      obtain ⟨v, rfl⟩ : ∃ v, vs = [v] := by
        cases vs with
        | nil => simp at hl
        | cons v r => cases r with
          | nil => exact ⟨v, rfl⟩
          | cons => simp at hl
      refine ⟨a, _, _, rfl, hk, (heldAt_holds a w [v] 0).2 hc, fun w' hh => ?_⟩
      have hc' := (heldAt_holds a w' [v] 0).1 hh 0 v rfl
      simp only [Nat.zero_add] at hc'
      have h0 : a.add 0 = a := by simp [Addr.add]
      rw [h0] at hc'
      have hag : (isAgg t).run P w' = .ok false w' := by
        unfold isAggT at hg
        unfold isAgg
        cases hu : P.underlying t with
        | none =>
          simp [hu] at hsome
        | some d => cases d <;> simp_all [underlying]
      simp [Instr.loadAt, Instr.sureAddr, loadVar, hag, hc']

/-! ### Stores, and what else acts -/
theorem STOREC_run (a : Addr) : ∀ (vs : List Value) (i : Nat) (k : World → Prop) (w : World), STOREC vs a i k w → ∃ w', k w' ∧ (storeCells a vs i).run P w = .ok () w'
  | [], i, k, w, h => ⟨w, h, by simp [storeCells]⟩
  | v :: vs, i, k, w, h => by
    unfold STOREC at h
    cases hv : v.oneCell' with
    | false => simp [hv] at h
    | true =>
      simp only [hv, cond_true] at h
      obtain ⟨h1, h2, h⟩ := h
      obtain ⟨u, hu⟩ := Option.isSome_iff_exists.1 h1
      obtain ⟨w', hk, hr⟩ := STOREC_run a vs (i + 1) k _ h
      refine ⟨w', hk, ?_⟩
      simp [storeCells, run_store P w (a.add i) v .plain hv, hu, h2, hr]

/-- what the run of an operation comes to -/
def Acts (P : Program) (s : Sem Next) (k : Value → World → Prop) (w : World) : Prop :=
  match s.run P w with
  | .ok (.value v) w' => k v w'
  | .ok .skip w' => k undef w'
  | .ok (.enter f args) w' => Calls P f args w' fun e w'' => ∃ v, e = .returned v ∧ k v w''
  | .ok (.round l f tmps assign body) w' => RoundIn Fence.wide 0 P l f tmps assign body w' fun e w'' => ∃ v, e = .returned v ∧ k v w''
  | _ => False

theorem Acts.of_value {s : Sem Next} {k : Value → World → Prop} {w w' : World} {v : Value} (h : s.run P w = .ok (.value v) w') (hk : k v w') : Acts P s k w := by
  simp [Acts, h, hk]
theorem Acts.of_v {s : Sem Value} {k : Value → World → Prop} {w w' : World} {v : Value} (h : s.run P w = .ok v w') (hk : k v w') : Acts P (do pure (.value (← s))) k w :=
  Acts.of_value (v_run h) hk
theorem Acts.of_u {s : Sem Unit} {k : Value → World → Prop} {w w' : World} (h : s.run P w = .ok () w') (hk : k undef w') : Acts P (do s; pure .skip) k w := by
  simp [Acts, h, hk]
theorem OPQ_acts {s : Sem Value} {z : Value} {k : Value → World → Prop} {w : World} (h : OPQ P s z k w) : Acts P (do pure (.value (← s))) k w := by
  unfold OPQ at h
  split at h
  · rename_i v w' hr
    obtain ⟨u, rfl, hk⟩ := LIKER_out h
    exact Acts.of_v hr hk
  · exact h.elim
theorem OPU_acts {s : Sem Unit} {k : Value → World → Prop} {w : World} (h : OPU P s (fun w' => k undef w') w) : Acts P (do s; pure .skip) k w := by
  unfold OPU at h
  split at h
  · rename_i v w' hr
    exact Acts.of_u hr h
  · exact h.elim
theorem evalL_out : ∀ {xs : List Operand} {vs : List Value}, (∀ x v, e x = some v → ρ x = v) → evalL e xs = some vs → xs.map ρ = vs
  | [], vs, _, h => by simp [evalL] at h; subst h; rfl
  | x :: xs, vs, he, h => by
    unfold evalL at h
    split at h
    · rename_i v us hx hxs
      simp at h
      subst h
      simp [he _ _ hx, evalL_out he hxs]
    · cases h
theorem enters_run {f : FuncId} (h : enters P f = true) (args : Array Value) (w : World) : (callFunc f args).run P w = .ok (.enter f args) w := by
  unfold enters at h
  split at h
  · rename_i fn hf
    simp only [Bool.and_eq_true, Bool.not_eq_true'] at h
    have hb : fn.body ≠ none := by intro hh; simp [hh] at h
    have hn : fn.name ≠ "runtime.NumGoroutine" := by simpa using h.2
    simp [callFunc, hf, hn, hb]
  · cases h

theorem FUNV_out {x : Option Value} {k : FuncId → Array Value → Array Value → Prop} (h : FUNV x k) : ∃ g fi ca, x = some (.func (.func g) fi ca) ∧ k g fi ca := by
  unfold FUNV at h
  split at h
  · exact ⟨_, _, _, rfl, h⟩
  · exact h.elim
theorem DYNV_out {x : Option Value} {k : FuncId → Array Value → Array Value → Prop} {y : Nat → Prop} (h : DYNV x k y) : (∃ g fi ca, x = some (.func (.func g) fi ca) ∧ k g fi ca) ∨ (∃ l, x = some (.func (.yield l) #[] #[]) ∧ y l) := by
  unfold DYNV at h
  split at h
  · exact .inl ⟨_, _, _, rfl, h⟩
  · rename_i l fi ca
    cases h1 : fi.toList.isEmpty && ca.toList.isEmpty with
    | false => rw [h1] at h; exact h.elim
    | true =>
      rw [h1] at h
      simp only [Bool.and_eq_true, List.isEmpty_iff] at h1
      have e1 : fi = #[] := by cases fi; simp_all
      have e2 : ca = #[] := by cases ca; simp_all
      subst e1 e2
      exact .inr ⟨l, rfl, h⟩
  · exact h.elim
theorem dLoud_acts {o : Oper} {k : Value → World → Prop} {w : World} (he : ∀ x v, e x = some v → ρ x = v) (h : dLoud P e o k w) : Acts P (execOp ρ o) k w := by
  obtain ⟨dst, op, type, pos, after, guard⟩ := o
  unfold dLoud at h
  split at h
  · rename_i t ho
    cases ho
    split at h
    · rename_i z hz
      have hr : (Instr.alloc t true (.tuple #[])).run P w = .ok (.pointer (some ⟨w.heap.size, 0, none⟩)) (w.alloc (.cells z.cells t)) := by
        unfold zeroOf at hz
        split at hz
        · rename_i i hi
          simp [Instr.alloc, zeroValue, typeInfo, hi, hz, newVar, newRow]
        · cases hz
      exact Acts.of_v hr h
    · exact h.elim
  · rename_i t x ho
    cases ho
    obtain ⟨v, hx, h⟩ := VAL_out h
    have hr : (Instr.box t (ρ x)).run P w = .ok (.pointer (some ⟨w.heap.size, 0, none⟩)) (w.alloc (.cells v.cells t)) := by
      simp [Instr.box, newVar, newRow, he _ _ hx]
    exact Acts.of_v hr h
  · rename_i t len parts ho
    cases ho
    cases hk : known e ⟨dst, .buildSlice t len parts, type, pos, after, guard⟩ with
    | false => rw [hk] at h; exact h.elim
    | true =>
      rw [hk] at h
      simp only [cond_true] at h
      split at h
      · rename_i el c hc
        unfold buildSliceCells at hc
        split at hc
        · rename_i el' hu
          split at hc
          · rename_i i hi
            split at hc
            · rename_i z hz
              cases hl0 : Nat.beq len 0 && parts.toList.isEmpty with
              | true =>
                rw [hl0] at hc
                simp only [cond_true, Option.some.injEq, Prod.mk.injEq] at hc
                obtain ⟨rfl, rfl⟩ := hc
                simp only [Bool.and_eq_true, List.isEmpty_iff] at hl0
                have hz0 : len = 0 := Nat.eq_of_beq_eq_true hl0.1
                subst hz0
                have hp0 : parts = #[] := by simpa using hl0.2
                subst hp0
                have hr : (Instr.buildSlice t 0 ((#[] : Array (Nat × Operand)).map fun (j, x) => (j, ρ x))).run P w = .ok (.slice (some ⟨w.heap.size, 0, none⟩) 0 0) (w.alloc (.cells #[] el')) := by
                  simp only [Instr.buildSlice, Sem.run_bind, runs_underlying hu, Result.andThen_ok, sizeOf, typeInfo, run_program, hi, Sem.run_pure]
                  simp [Instr.fill, newRow]
                  congr 2
                  exact Array.eq_empty_of_size_eq_zero (by simp)
                exact Acts.of_v hr h
              | false =>
              rw [hl0] at hc
              simp only [cond_false] at hc
              cases hb : (Nat.blt (2 ^ 24) (len * i.size)) || (Nat.beq (len * i.size) 0) with
              | true => simp only [hb, cond_true] at hc; cases hc
              | false =>
                simp only [hb, cond_false] at hc
                obtain ⟨c', hc', heq⟩ := Option.map_eq_some_iff.1 hc
                simp only [Prod.mk.injEq] at heq
                obtain ⟨rfl, rfl⟩ := heq
                simp only [Bool.or_eq_false_iff] at hb
                have hb1 : ¬ len * i.size > 2 ^ 24 := by
                  intro hgt
                  have : Nat.blt (2 ^ 24) (len * i.size) = true := by
                    rw [Nat.blt, Nat.ble_eq]; exact hgt
                  rw [this] at hb
                  exact absurd hb.1 (by simp)
                have hb2 : ¬ len * i.size = 0 := by
                  intro h0
                  rw [h0] at hb
                  exact absurd hb.2 (by decide)
                have hag := known_agree he hk
                have hparts : (parts.map fun (j, x) => (j, ρ x)).toList = parts.toList.map fun p => (p.1, rho e p.2) := by
                  rw [Array.toList_map]
                  refine List.map_congr_left fun p hp => ?_
                  obtain ⟨j, x⟩ := p
                  have := hag x (by simp only [Op.operands]; exact List.mem_toArray.2 (List.mem_map.2 ⟨(j, x), hp, rfl⟩))
                  simp [this]
                have hr : (Instr.buildSlice t len (parts.map fun (j, x) => (j, ρ x))).run P w = .ok (.slice (some ⟨w.heap.size, 0, none⟩) len len) (w.alloc (.cells c' el')) := by
                  simp only [Instr.buildSlice, Sem.run_bind, runs_underlying hu, Result.andThen_ok, sizeOf, typeInfo, run_program, hi, Sem.run_pure, hb1, if_false, hb2, zeroValue, hz, hparts, hc', newRow, run_newObj]
                  rfl
                exact Acts.of_v hr h
            · cases hc
          · cases hc
        · cases hc
      · exact h.elim
  · rename_i t a x ho
    cases ho
    obtain ⟨v, hx, h⟩ := VAL_out h
    obtain ⟨p, ha, h⟩ := PTRV_out h
    cases hb : Nat.beq v.cells.size (P.cellsOf t) && elOk P t with
    | false => rw [hb] at h; exact h.elim
    | true =>
      rw [hb] at h
      simp only [cond_true] at h
      obtain ⟨w', hk, hr⟩ := STOREC_run (P := P) p _ _ _ _ h
      simp only [Bool.and_eq_true] at hb
      have hsz : v.cells.size = P.cellsOf t := Nat.eq_of_beq_eq_true hb.1
      have hi : P.info? t ≠ none := by
        intro hn
        have := hb.2
        simp [elOk, hn] at this
      have hst : (Instr.storeAt t (ρ a) (ρ x)).run P w = .ok () w' := by
        simp [Instr.storeAt, Instr.sureAddr, storeVar, he _ _ hx, he _ _ ha, cellsOf_run hi, hsz, hr]
      exact Acts.of_u hst hk
  · rename_i c ho
    cases ho
    split at h
    · rename_i b hcal
      cases hk : known e ⟨dst, .call c, type, pos, after, guard⟩ with
      | false => rw [hk] at h; exact h.elim
      | true =>
        rw [hk] at h
        simp only [cond_true] at h
        split at h
        · rename_i z hz
          have hag := known_agree he hk
          have hargs : c.args.map (rho e) = c.args.map ρ := Array.map_congr_left fun x hx => hag x (by simp [Op.operands, Call.operands, hx])
          rw [hargs] at h
          split at h
          · have := OPQ_acts h
            simpa [Acts, execOp, resolve, hcal, invoke, builtin] using this
          · have := OPQ_acts h
            simpa [Acts, execOp, resolve, hcal, invoke, builtin] using this
          · have := OPQ_acts h
            simpa [Acts, execOp, resolve, hcal, invoke, builtin] using this
          · have := OPQ_acts h
            simpa [Acts, execOp, resolve, hcal, invoke, builtin] using this
          · have := OPQ_acts h
            simpa [Acts, execOp, resolve, hcal, invoke, builtin] using this
          · exact h.elim
        · exact h.elim
    · rename_i f hcal
      split at h
      · rename_i vs z hvs hz
        have hargs : c.args.map ρ = ⟨vs⟩ := by
          rw [← evalL_out he hvs]
          exact Array.ext' (by simp)
        rcases DYNV_out h with ⟨g, first, captured, hf, h⟩ | ⟨l, hf, h⟩
        · cases hen : enters P g with
          | false => rw [hen] at h; exact h.elim
          | true =>
            rw [hen] at h
            simp only [cond_true] at h
            have hr : (execOp ρ ⟨dst, .call c, type, pos, after, guard⟩).run P w = .ok (.enter g ⟨first.toList ++ vs ++ captured.toList⟩) w := by
              have ha : first ++ (⟨vs⟩ : Array Value) ++ captured = ⟨first.toList ++ vs ++ captured.toList⟩ := Array.ext' (by simp)
              simp only [execOp, resolve, hcal, hargs, Sem.run_bind, Deferred.ofValue, he _ _ hf, Sem.run_pure, Result.andThen_ok, invoke, enters_run hen, ha]
            unfold Acts
            rw [hr]
            exact Calls.mono h fun en w' hh => by
              obtain ⟨v, hv, hk⟩ := LIKER_out hh
              exact ⟨v, hv, hk⟩
        · obtain ⟨fn, tmps, as, bo, hy, hround⟩ := h
          have hr : (execOp ρ ⟨dst, .call c, type, pos, after, guard⟩).run P w = .ok (.round l fn tmps as bo) w := by
            simp only [execOp, resolve, hcal, hargs, Sem.run_bind, Deferred.ofValue, he _ _ hf, Sem.run_pure, Result.andThen_ok, invoke]
            simpa using hy
          unfold Acts
          rw [hr]
          exact RoundIn.mono hround fun en w' ⟨t, hv, hk⟩ => ⟨_, hv, hk⟩
      · exact h.elim
    · exact h.elim
  · rename_i s d x ho
    cases ho
    obtain ⟨v, hx, h⟩ := VAL_out h
    split at h
    · have := OPQ_acts h; simpa only [execOp, he _ _ hx] using this
    · exact h.elim
  · rename_i t l c ho
    cases ho
    obtain ⟨u, hl, h⟩ := VAL_out h
    obtain ⟨v, hc, h⟩ := VAL_out h
    split at h
    · have := OPQ_acts h; simpa only [execOp, he _ _ hl, he _ _ hc] using this
    · exact h.elim
  · rename_i t ho
    cases ho
    split at h
    · have := OPQ_acts h; simpa only [execOp, Option.map_none] using this
    · exact h.elim
  · rename_i t x i ok ho
    cases ho
    obtain ⟨u, hl, h⟩ := VAL_out h
    obtain ⟨v, hc, h⟩ := VAL_out h
    split at h
    · have := OPQ_acts h; simpa only [execOp, he _ _ hl, he _ _ hc] using this
    · exact h.elim
  · rename_i t m i x ho
    cases ho
    obtain ⟨u, hl, h⟩ := VAL_out h
    obtain ⟨v, hc, h⟩ := VAL_out h
    obtain ⟨y, hy, h⟩ := VAL_out h
    have := OPU_acts h
    simpa only [execOp, he _ _ hl, he _ _ hc, he _ _ hy] using this
  · rename_i t x ho
    cases ho
    obtain ⟨u, hl, h⟩ := VAL_out h
    split at h
    · have := OPQ_acts h; simpa only [execOp, he _ _ hl] using this
    · exact h.elim
  · rename_i i s ho
    cases ho
    obtain ⟨u, hl, h⟩ := VAL_out h
    split at h
    · have := OPQ_acts h; simpa only [execOp, he _ _ hl] using this
    · exact h.elim
  · rename_i i ho
    cases ho
    obtain ⟨u, hl, h⟩ := VAL_out h
    split at h
    · have := OPQ_acts h; simpa only [execOp, he _ _ hl] using this
    · exact h.elim
  · exact h.elim
end
end Go.Dn
