/-
  What the reading of one operation gives of the model's own run of it.
-/
import Derived.Test.YtmilfgmkcmcicaaDnDef
import Derived.Laws.Cells
import Derived.Laws.StructEq
namespace Go.Dn

theorem LIKE1_out {z : Value} {f : Value → Prop} (h : LIKE1 z f) : ∃ v, f v := by
  unfold LIKE1 at h
  split at h
  all_goals first
    | (obtain ⟨a, b, c, h⟩ := h; exact ⟨_, h⟩)
    | (obtain ⟨a, h⟩ := h; exact ⟨_, h⟩)
theorem LIKEL_out : ∀ {zs : List Value} {f : List Value → Prop}, LIKEL zs f → ∃ vs, vs.length = zs.length ∧ f vs
  | [], _, h => ⟨[], rfl, h⟩
  | _ :: _, _, h => by
    obtain ⟨v, h⟩ := LIKE1_out h
    obtain ⟨vs, hl, h⟩ := LIKEL_out h
    exact ⟨v :: vs, by simp [hl], h⟩
theorem LIKE_out {z : Value} {f : Value → Prop} (h : LIKE z f) : ∃ v, f v := by
  unfold LIKE at h
  split at h
  · obtain ⟨vs, _, h⟩ := LIKEL_out h; exact ⟨_, h⟩
  · exact LIKE1_out h
theorem LIKEM_out : ∀ {zs : List Value} {f : List Value → Prop}, LIKEM zs f → ∃ vs, f vs
  | [], _, h => ⟨[], h⟩
  | _ :: _, _, h => by
    obtain ⟨v, h⟩ := LIKE_out h
    obtain ⟨vs, h⟩ := LIKEM_out h
    exact ⟨v :: vs, h⟩
theorem LIKER_out {z : Value} {f : Value → Prop} (h : LIKER z f) : ∃ v, f v := by
  unfold LIKER at h
  split at h
  · obtain ⟨vs, h⟩ := LIKEM_out h; exact ⟨_, h⟩
  · exact LIKE_out h

theorem intKindB_eq {a b : IntKind} (h : intKindB a b = true) : a = b := by
  cases a <;> cases b <;> first | rfl | (simp [intKindB] at h)

theorem runPure_run {α : Type} {P : Program} (s : Sem α) : ∀ {v : α}, runPure P s = some v → ∀ w, s.run P w = .ok v w := by
  induction s with
  | pure a => intro v h w; simp [runPure] at h; subst h; rfl
  | program k ih => intro v h w; simp only [runPure] at h; simp only [Sem.run]; exact ih P h w
  | mark m k ih => intro v h w; simp only [runPure] at h; simp only [Sem.run]; exact ih h w
  | _ => intro v h; simp [runPure] at h

theorem VAL_out {x : Option Value} {k : Value → Prop} (h : VAL x k) : ∃ v, x = some v ∧ k v := by
  cases x with
  | none => exact h.elim
  | some v => exact ⟨v, rfl, h⟩
theorem PTR_out {p : Option Addr} {k : Addr → Prop} (h : PTR p k) : ∃ a, p = some a ∧ k a := by
  cases p with
  | none => exact h.elim
  | some a => exact ⟨a, rfl, h⟩
theorem PTRV_out {x : Option Value} {k : Addr → Prop} (h : PTRV x k) : ∃ a, x = some (.pointer (some a)) ∧ k a := by
  unfold PTRV at h
  split at h
  · obtain ⟨a, rfl, h⟩ := PTR_out h; exact ⟨a, rfl, h⟩
  · exact h.elim
theorem BOOLV_out {x : Option Value} {k : Bool → Prop} (h : BOOLV x k) : ∃ b, x = some (.bool b) ∧ k b := by
  unfold BOOLV at h
  split at h
  · exact ⟨_, rfl, h⟩
  · exact h.elim
theorem INTV_out {x : Option Value} {k : IntKind → Int → Prop} (h : INTV x k) : ∃ kd n, x = some (.int kd n) ∧ k kd n := by
  unfold INTV at h
  split at h
  · exact ⟨_, _, rfl, h⟩
  · exact h.elim

theorem runs_underlying {P : Program} {t : TypeId} {d : TypeDesc} (h : P.underlying t = some d) (w : World) : (underlying t).run P w = .ok d w := by
  simp [underlying, h]
theorem runs_sizeOf {P : Program} {t : TypeId} (h : P.cellsOf t ≠ 0) (w : World) : (sizeOf t).run P w = .ok (P.cellsOf t) w := by
  unfold Program.cellsOf at h ⊢
  cases hi : P.info? t with
  | none => simp [hi] at h
  | some i => simp [sizeOf, typeInfo, hi]

section
variable {P : Program} {e : Operand → Option Value} {ρ : Operand → Value}

theorem binInt_run {op : BinOp} {k k' : IntKind} {a b : Int} {K : Value → Prop} (t : TypeId) (h : intOp op k k' a b K) :
    ∃ v, K v ∧ ∀ w, (binOp op t (.int k a) (.int k' b)).run P w = .ok v w := by
  unfold intOp at h
  split at h
  · obtain ⟨h0, h⟩ := h
    exact ⟨_, h, fun w => by simp [binOp, Op.shift, Int.not_lt.2 h0]⟩
  · obtain ⟨h0, h⟩ := h
    exact ⟨_, h, fun w => by simp [binOp, Op.shift, Int.not_lt.2 h0]⟩
  · rename_i op hn1 hn2
    cases hk : intKindB k k' with
    | false => simp [hk] at h
    | true =>
      simp only [hk, cond_true] at h
      have := intKindB_eq hk
      subst this
      split at h
      case h_4 => obtain ⟨h0, h⟩ := h; exact ⟨_, h, fun w => by simp [binOp, Op.intDiv, h0]⟩
      case h_5 => obtain ⟨h0, h⟩ := h; exact ⟨_, h, fun w => by simp [binOp, Op.intDiv, h0]⟩
      case h_16 => exact h.elim
      all_goals exact ⟨_, h, fun w => by simp [binOp, Op.intArith, Op.intBits, Op.intCmp]⟩
theorem intOpC_intOp {op : BinOp} {k k' : IntKind} {a b : Int} {K : Value → Prop} (h : intOpC op k k' a b K) : intOp op k k' a b K := by
  unfold intOpC at h
  split at h
  · by_cases hb : 0 ≤ b
    · simp only [hb, decide_true, cond_true] at h; exact ⟨hb, h⟩
    · simp [hb] at h
  · by_cases hb : 0 ≤ b
    · simp only [hb, decide_true, cond_true] at h; exact ⟨hb, h⟩
    · simp [hb] at h
  · by_cases hb : b = 0
    · simp [hb] at h
    · simp only [hb, decide_false, cond_false] at h
      unfold intOp
      cases hk : intKindB k k' <;> simp only [hk, cond_true, cond_false] at h ⊢
      exact ⟨hb, h⟩
  · by_cases hb : b = 0
    · simp [hb] at h
    · simp only [hb, decide_false, cond_false] at h
      unfold intOp
      cases hk : intKindB k k' <;> simp only [hk, cond_true, cond_false] at h ⊢
      exact ⟨hb, h⟩
  · exact h
theorem binStr_run {op : BinOp} {a b : ByteArray} {K : Value → Prop} (t : TypeId) (h : strOp op a b K) :
    ∃ v, K v ∧ ∀ w, (binOp op t (.string a) (.string b)).run P w = .ok v w := by
  unfold strOp at h
  split at h
  case h_1 =>
    obtain ⟨h0, h⟩ := h
    refine ⟨_, h, fun w => ?_⟩
    have h1 : ¬ (((a.size + b.size : Nat) : Int) > IntKind.i64.max) := by
      have : IntKind.i64.max = 9223372036854775807 := by decide
      rw [this]; omega
    simp only [binOp, Op.stringOp, h1, if_false]
    rfl
  case h_8 => exact h.elim
  all_goals exact ⟨_, h, fun w => by simp [binOp, Op.stringOp, bytesEq, bytesLt]⟩
theorem guardInt {op : BinOp} {t : TypeId} {x y : Operand} {k k' : IntKind} {a b : Int} (w : World) : (eqGuard op t x y (.int k a) (.int k' b)).run P w = .ok () w := by
  cases op <;> simp [eqGuard]
theorem guardStr {op : BinOp} {t : TypeId} {x y : Operand} {a b : ByteArray} (w : World) : (eqGuard op t x y (.string a) (.string b)).run P w = .ok () w := by
  cases op <;> simp [eqGuard]

theorem partV_run {t : TypeId} {cs : Array Value} {off : Nat} {v : Value} (h : partV P t cs off = some v) (hc : P.info? t ≠ none) (w : World) : (part t cs off).run P w = .ok v w := by
  obtain ⟨i, hi⟩ := Option.ne_none_iff_exists'.1 hc
  unfold partV at h
  unfold part isAgg
  split at h
  · rename_i hu; simp [Program.cellsOf, hi] at h; simp [underlying, hu, sizeOf, typeInfo, hi, h]
  · rename_i hu; simp [underlying, hu, h]
  · rename_i hu; simp [underlying, hu, h]
  · rename_i hu; simp [underlying, hu, h]
  · cases h
theorem info_of_underlying {t : TypeId} {d : TypeDesc} (h : P.underlying t = some d) : P.info? t ≠ none := by
  intro hn
  simp [Program.underlying, hn] at h

theorem eqFs_run {d : Nat} {xs ys : Array Value} (ih : ∀ t x y b, eqV P d t x y = some b → ∀ m w, d ≤ m → (Op.equalIn m t x y).run P w = .ok b w) :
    ∀ (fs : List Field) (b : Bool), eqFs P (eqV P d) xs ys fs = some b → ∀ m w, d ≤ m → (Op.eqFields m xs ys fs).run P w = .ok b w
  | [], b, h, m, w, _ => by simp [eqFs] at h; subst h; simp [Op.eqFields]
  | f :: fs, b, h, m, w, hm => by
    unfold eqFs at h
    cases hn : f.name == "_" with
    | true => simp [hn] at h
    | false =>
      simp only [hn, cond_false] at h
      split at h
      · rename_i x y hx hy
        split at h
        · rename_i b1 c1 hb hc
          have hne : f.name ≠ "_" := by simpa using hn
          have hu : P.info? f.type ≠ none := by
            intro hnone
            have : P.underlying f.type = none := by simp [Program.underlying, hnone]
            simp [partV, this] at hx
          simp only [Op.eqFields, hne, ne_eq, not_false_eq_true, if_true, Sem.run_bind, partV_run hx hu, partV_run hy hu, Result.andThen_ok, ih _ _ _ _ hb m w hm]
          have h2 := eqFs_run ih fs c1 hc m w hm
          simp at h
          subst h
          cases b1
          · simp
          · simp [h2]
        · cases h
      · cases h
theorem eqV_run : ∀ (d : Nat) (t : TypeId) (x y : Value) (b : Bool), eqV P d t x y = some b → ∀ m w, d ≤ m → (Op.equalIn m t x y).run P w = .ok b w
  | 0, _, _, _, _, h, _, _, _ => by simp [eqV] at h
  | d + 1, t, x, y, b, h, m, w, hm => by
    obtain ⟨m, rfl⟩ : ∃ k, m = k + 1 := ⟨m - 1, by omega⟩
    unfold eqV at h
    split at h
    · rename_i hu
      split at h
      · simp at h; simp [Op.equalIn, underlying, hu, h]
      · cases h
    · rename_i hu
      split at h
      · rename_i k a k' b'
        cases hk : intKindB k k' with
        | false => simp [hk] at h
        | true =>
          have := intKindB_eq hk
          subst this
          simp [hk] at h
          simp [Op.equalIn, underlying, hu, h]
      · cases h
    · rename_i hu
      split at h
      · simp at h; simp [Op.equalIn, underlying, hu, h]
      · cases h
    · rename_i fs hu
      split at h
      · rename_i xs ys
        cases hs : P.stoodInHeld t with
        | true => simp [hs] at h
        | false =>
          simp only [hs, cond_false] at h
          have hf : P.fieldsOf t = fs := by simp [Program.fieldsOf, hu]
          rw [run_equalIn_struct w m t xs ys (by rw [hf]; exact hu) hs, hf]
          exact eqFs_run (fun t x y b h m w hm => eqV_run d t x y b h m w hm) fs.toList b h m w (by omega)
      · cases h
    · cases h

theorem in_bool {t : TypeId} (hu : P.underlying t = some .bool) (a b : Bool) (m : Nat) (w : World) : (Op.equalIn (m + 1) t (.bool a) (.bool b)).run P w = .ok (a == b) w := by
  simp [Op.equalIn, underlying, hu]
theorem in_ptr {t el : TypeId} (hu : P.underlying t = some (.pointer el)) (p : Option Addr) (m : Nat) (w : World) : (Op.equalIn (m + 1) t (.pointer p) (.pointer none)).run P w = .ok p.isNone w := by
  cases p <;> simp [Op.equalIn, underlying, hu]
theorem in_slice {t el : TypeId} (hu : P.underlying t = some (.slice el)) (p : Option Addr) (l c l2 c2 m : Nat) (w : World) : (Op.equalIn (m + 1) t (.slice p l c) (.slice none l2 c2)).run P w = .ok p.isNone w := by
  cases p <;> simp [Op.equalIn, underlying, hu]
theorem in_map {t k el : TypeId} (hu : P.underlying t = some (.map k el)) (p : Option Nat) (m : Nat) (w : World) : (Op.equalIn (m + 1) t (.map p) (.map none)).run P w = .ok p.isNone w := by
  cases p <;> simp [Op.equalIn, underlying, hu]
theorem eqOut_run {op : BinOp} {neg : Bool} (hn : isNeg op = some neg) {t : TypeId} {x y : Value} {b : Bool} (hx : ∀ w, (Op.equal t x y).run P w = .ok b w)
    (hp : ∀ k n, x ≠ .int k n) (hf : ∀ k n, x ≠ .float k n) (hc : ∀ k n m, x ≠ .complex k n m) (hs : ∀ s, x ≠ .string s) (w : World) : (binOp op t x y).run P w = .ok (eqOut neg b) w := by
  cases op <;> simp [isNeg] at hn
  · subst hn
    cases x <;> first | exact absurd rfl (hp _ _) | exact absurd rfl (hf _ _) | exact absurd rfl (hc _ _ _) | exact absurd rfl (hs _) | (simp only [binOp, Sem.run_bind, hx, Result.andThen_ok]; simp [eqOut])
  · subst hn
    cases x <;> first | exact absurd rfl (hp _ _) | exact absurd rfl (hf _ _) | exact absurd rfl (hc _ _ _) | exact absurd rfl (hs _) | (simp only [binOp, Sem.run_bind, hx, Result.andThen_ok]; simp [eqOut])

theorem eqOp2_run {op : BinOp} {t : TypeId} {u v : Value} {K : Value → Prop} (x y : Operand) (h : eqOp2 P op t u v K) :
    ∃ r, K r ∧ ∀ w, (do eqGuard op t x y u v; binOp op t u v : Sem Value).run P w = .ok r w := by
  unfold eqOp2 at h
  split at h
  · exact h.elim
  · rename_i neg hneg
    split at h
    · rename_i a b
      have hu : P.underlying t = some .bool := by
        cases hh : P.underlying t with
        | none => simp [hh] at h
        | some d => cases d <;> simp_all
      simp only [hu, cond_true] at h
      refine ⟨_, h, fun w => ?_⟩
      have hg : (eqGuard op t x y (.bool a) (.bool b)).run P w = .ok () w := by cases op <;> simp [eqGuard]
      simp only [Sem.run_bind, hg, Result.andThen_ok]
      exact eqOut_run hneg (fun w => in_bool hu a b 9999 w) (by simp) (by simp) (by simp) (by simp) w
    · rename_i p
      have hu : ∃ el, P.underlying t = some (.pointer el) := by
        cases hh : P.underlying t with
        | none => simp [hh] at h
        | some d => cases d <;> simp_all
      obtain ⟨el, hu⟩ := hu
      simp only [hu, cond_true] at h
      refine ⟨_, h, fun w => ?_⟩
      have hg : (eqGuard op t x y (.pointer p) (.pointer none)).run P w = .ok () w := by cases op <;> simp [eqGuard]
      simp only [Sem.run_bind, hg, Result.andThen_ok]
      exact eqOut_run hneg (fun w => in_ptr hu p 9999 w) (by simp) (by simp) (by simp) (by simp) w
    · rename_i p l c l2 c2
      have hu : ∃ el, P.underlying t = some (.slice el) := by
        cases hh : P.underlying t with
        | none => simp [hh] at h
        | some d => cases d <;> simp_all
      obtain ⟨el, hu⟩ := hu
      simp only [hu, cond_true] at h
      refine ⟨_, h, fun w => ?_⟩
      have hg : (eqGuard op t x y (.slice p l c) (.slice none l2 c2)).run P w = .ok () w := by cases op <;> simp [eqGuard]
      simp only [Sem.run_bind, hg, Result.andThen_ok]
      exact eqOut_run hneg (fun w => in_slice hu p l c l2 c2 9999 w) (by simp) (by simp) (by simp) (by simp) w
    · rename_i p
      have hu : ∃ a b, P.underlying t = some (.map a b) := by
        cases hh : P.underlying t with
        | none => simp [hh] at h
        | some d => cases d <;> simp_all
      obtain ⟨a, b, hu⟩ := hu
      simp only [hu, cond_true] at h
      refine ⟨_, h, fun w => ?_⟩
      have hg : (eqGuard op t x y (.map p) (.map none)).run P w = .ok () w := by cases op <;> simp [eqGuard]
      simp only [Sem.run_bind, hg, Result.andThen_ok]
      exact eqOut_run hneg (fun w => in_map hu p 9999 w) (by simp) (by simp) (by simp) (by simp) w
    · rename_i xs ys
      cases hgt : P.eqGuardType P.depth t with
      | true => simp [hgt] at h
      | false =>
        simp only [hgt, cond_false] at h
        split at h
        · rename_i b hb
          refine ⟨_, h, fun w => ?_⟩
          have hg : (eqGuard op t x y (.agg xs) (.agg ys)).run P w = .ok () w := by cases op <;> simp [eqGuard, hgt]
          simp only [Sem.run_bind, hg, Result.andThen_ok]
          exact eqOut_run hneg (fun w => eqV_run 5 t _ _ b hb 10000 w (by omega)) (by simp) (by simp) (by simp) (by simp) w
        · exact h.elim
    · exact h.elim
theorem in_iface {t : TypeId} {ms : Array (String × TypeId)} (hu : P.underlying t = some (.interface ms)) {u : Value} {b : Bool} (hub : (u = .nilIface ∧ b = true) ∨ ((∃ a v, u = .iface a v) ∧ b = false)) (m : Nat) (w : World) :
    (Op.equalIn (m + 1) t u .nilIface).run P w = .ok b w := by
  rcases hub with ⟨rfl, rfl⟩ | ⟨⟨a, v, rfl⟩, rfl⟩ <;> simp [Op.equalIn, underlying, hu]
theorem eqOp_run {op : BinOp} {t : TypeId} {u v : Value} {K : Value → Prop} (x y : Operand) (h : eqOp P (isConstO y) op t u v K) :
    ∃ r, K r ∧ ∀ w, (do eqGuard op t x y u v; binOp op t u v : Sem Value).run P w = .ok r w := by
  unfold eqOp at h
  split at h
  · unfold negOp at h
    split at h
    · exact h.elim
    · rename_i neg hneg
      have hu : ∃ ms, P.underlying t = some (.interface ms) := by
        unfold isIfaceT at h
        cases hh : P.underlying t with
        | none => simp [hh] at h
        | some d => cases d <;> simp_all
      obtain ⟨ms, hu⟩ := hu
      obtain ⟨cv, rfl⟩ : ∃ cv, y = .const cv := by
        cases y <;> first | exact ⟨_, rfl⟩ | (simp [isConstO] at h)
      simp only [isIfaceT, hu, isConstO, Bool.true_and, cond_true] at h
      unfold IFACEV at h
      split at h
      · refine ⟨_, h, fun w => ?_⟩
        have hg : (eqGuard op t x (.const cv) .nilIface .nilIface).run P w = .ok () w := by cases op <;> simp [eqGuard]
        simp only [Sem.run_bind, hg, Result.andThen_ok]
        exact eqOut_run hneg (fun w => in_iface hu (.inl ⟨rfl, rfl⟩) 9999 w) (by simp) (by simp) (by simp) (by simp) w
      · rename_i a v
        refine ⟨_, h, fun w => ?_⟩
        have hg : (eqGuard op t x (.const cv) (.iface a v) .nilIface).run P w = .ok () w := by cases op <;> simp [eqGuard]
        simp only [Sem.run_bind, hg, Result.andThen_ok]
        exact eqOut_run hneg (fun w => in_iface hu (.inr ⟨⟨a, v, rfl⟩, rfl⟩) 9999 w) (by simp) (by simp) (by simp) (by simp) w
      · exact h.elim
  · exact eqOp2_run x y h
end
end Go.Dn
