/-
  Texts of this claim, laid one behind the other by a program of mine (install.py): P.Pm5, P.Qb1, P.Qb2, P.Pm3, P.Qb4, P.Qb5.
-/
import Derived.Test.YtbpdfpfgijhokaaGreatDoorM8
import Derived.Test.YtbpdfpfgijhokaaGreatDoorM6
namespace Go.Proofs.YtbpdfpfgijhokaaGreatDoor
set_option maxRecDepth 100000
open Go.Dn Go.Proofs
set_option linter.unusedVariables false
/-! ### names, items -/
theorem name_lx {nm : ByteArray} (h : okName nm = true) {s : List UInt8} {n : Nat} {R : List Tk} (hs : ∀ d u, s = d :: u → wordCh d = false) (hR : Lx s (n + (bl nm).length) R) : Lx (bl nm ++ s) n (((n : Int), 1, nm) :: R) ∧ isKeyB nm = false := by
  obtain ⟨c, r, hb, hl, hw, _⟩ := name_bl h
  simp only [okName, Bool.and_eq_true, Bool.not_eq_true'] at h
  have hnb : nm = sof (c :: r) := by rw [← hb, sof_bl]
  refine ⟨?_, h.2⟩
  rw [hb] at hR ⊢
  have g := Lx.word hl hw hs hR
  rw [← hnb] at g
  exact g
theorem tail_lx {nm : ByteArray} (h : okName nm = true) {s : List UInt8} {n : Nat} {R : List Tk} (hs : Sep s) (hR : Lx s (n + (4 + (bl nm).length)) R) : ∃ T, Lx ([32, 97, 115, 32] ++ (bl nm ++ s)) n T ∧ powT T = 0 ∧ ∀ a x, tailT a x T = some (.ok (nm, a, x) R) := by
  obtain ⟨h1, h2⟩ := name_lx h (n := n + 4) hs.word (by rw [Nat.add_assoc]; exact hR)
  refine ⟨_, Lx.sp (Lx.word (c := 97) (r := [115]) (rest := 32 :: (bl nm ++ s)) (by decide) (by decide) (fun d u h => by cases h; decide) (Lx.sp h1)), rfl, fun a x => ?_⟩
  rw [tailT, needT, if_pos (by rfl), nameT, if_pos ⟨rfl, h2⟩]
theorem bare_eq {z : Ex} (hz : bareX z = true) : z = zeroX := by
  obtain ⟨op, nm, v, ks⟩ := z
  unfold bareX at hz
  simp only [Bool.and_eq_true] at hz
  obtain ⟨⟨⟨e1, e2⟩, e3⟩, e4⟩ := hz
  have e1 : op = 0 := of_decide_eq_true e1
  have e2 : nm = E0 := of_decide_eq_true e2
  have e3 : v = V0 := of_decide_eq_true e3
  have e4 : ks.length = 0 := of_decide_eq_true e4
  rw [e1, e2, e3, List.eq_nil_of_length_eq_zero e4]
theorem right_txg {x : Ex} (h : rightX x = true) (hf : x.fit) : TxG x := by
  simp only [rightX, Ex.formed, Bool.and_eq_true, List.all_eq_true, decide_eq_true_eq] at h
  exact txg_all x 40 ⟨h.1.1, h.2⟩ hf
theorem count_ne (n : Int) : ¬ aggT (n, 1, sof [99, 111, 117, 110, 116]) = 0 := by
  rw [aggT, if_pos rfl]
  show ¬ gatB (sof [99, 111, 117, 110, 116]) = 0
  decide
theorem agg_gat {k : Int} (hk : 2 ≤ k ∧ k ≤ 5) : gatB (sof (aggW k)) = k := by
  have h1 : k = 2 ∨ k = 3 ∨ k = 4 ∨ k = 5 := by omega
  rcases h1 with rfl | rfl | rfl | rfl <;> decide
theorem item_lx {i : Itm} (hi : ItP i) {s : List UInt8} {n : Nat} {R : List Tk} (hs : Sep s) (hR : Lx s (n + (bl (itemT i)).length) R) : ∃ T, Lx (bl (itemT i) ++ s) n T ∧ Ev fun f => itemM f T = some (.ok i R) := by
  obtain ⟨nm, k, x⟩ := i
  obtain ⟨hi, hf⟩ := hi
  simp only [rightI, Bool.and_eq_true, decide_eq_true_eq] at hi
  obtain ⟨⟨hn, hk⟩, hx⟩ := hi
  have hlen := item_bl (nm, k, x) []
  rw [List.append_nil, List.append_nil] at hlen
  rw [hlen] at hR
  rw [item_bl]
  simp only [List.length_append, List.length_cons, List.length_nil] at hR hf hx ⊢
  by_cases k0 : k = 0
  · subst k0
    rw [if_pos rfl] at hR ⊢
    rw [if_neg (by decide)] at hx
    obtain ⟨T1, h1, h2, h3⟩ := tail_lx hn (n := n + (bl x.text).length) hs (by rw [Nat.add_assoc]; exact hR)
    obtain ⟨T, h4, h5, h6⟩ := (right_txg hx hf).one (Sep.sp _) h1 h2
    obtain ⟨u, L, rfl⟩ := h4.ne
    refine ⟨_, h4, h6.mono fun f h => ?_⟩
    rw [itemM, if_pos (h5 u L rfl).1, h]
    exact h3 0 x
  · rw [if_neg k0] at hR ⊢
    by_cases k1 : k = 1
    · subst k1
      rw [if_pos rfl] at hR hx ⊢
      rw [bare_eq hx]
      obtain ⟨T1, h1, h2, h3⟩ := tail_lx hn (n := n + 8) hs (by rw [Nat.add_assoc]; exact hR)
      have g := Lx.word (c := 99) (r := [111, 117, 110, 116]) (rest := 40 :: 42 :: 41 :: ([32, 97, 115, 32] ++ (bl nm ++ s))) (n := n) (by decide) (by decide) (fun d u h => by cases h; decide) (lx_open (Lx.sign (c := 42) (by decide) (fun h => absurd h (by decide)) (lx_close h1)))
      refine ⟨_, g, Ev.of fun f => ?_⟩
      rw [itemM, if_neg (show ¬ aggT ((n : Int), 1, sof [99, 111, 117, 110, 116]) = 0 from count_ne n), needT, if_pos (by rfl), starT, if_pos ⟨by rfl, by rfl⟩, bindR, needT, if_pos (by rfl)]
      exact h3 1 zeroX
    · rw [if_neg k1] at hR hx ⊢
      have hk2 : 2 ≤ k ∧ k ≤ 5 := by omega
      obtain ⟨c, w, e, hl, hw, _⟩ := agg_word hk2
      have eg := agg_gat hk2
      rw [ag_bl]
      rw [e] at hR eg ⊢
      simp only [List.length_append, List.length_cons, List.length_nil] at hR
      obtain ⟨m, hm⟩ : ∃ m, m = n + (c :: w).length := ⟨_, rfl⟩
      obtain ⟨T1, h1, h2, h3⟩ := tail_lx hn (n := m + 1 + (bl x.text).length + 1) hs (by
        have e2 : m + 1 + (bl x.text).length + 1 + (4 + (bl nm).length) = n + (w.length + 1 + ((bl x.text).length + (0 + 1) + 1) + (0 + 1 + 1 + 1 + 1 + (bl nm).length)) := by rw [hm, List.length_cons]; omega
        rw [e2]; exact hR)
      obtain ⟨T, h4, h5, h6⟩ := (right_txg hx hf).one (Sep.cl _) (lx_close h1) rfl
      obtain ⟨u, L, rfl⟩ := h4.ne
      have g := Lx.word (n := n) hl hw (fun d u h => by cases h; decide) (lx_open (by rw [← hm]; exact h4))
      refine ⟨_, g, h6.mono fun f h => ?_⟩
      have ea : aggT ((n : Int), 1, sof (c :: w)) = k := by rw [aggT, if_pos rfl]; exact eg
      rw [itemM, ea, if_neg k0, needT, if_pos (by rfl), starT, if_neg (by rw [(h5 u L rfl).2]; simp), h]
      simp only [bindR]
      rw [needT, if_pos (by rfl)]
      exact h3 k x
/-! ### lists -/
section
variable {α : Type} {read : Nat → List Tk → Option (RS α)} {tx : α → ByteArray} {G : List UInt8 → List Tk → Prop}
end
/-! ### a query -/
def HdW (ws : List ByteArray) (R : List Tk) : Prop := ∃ t L, R = t :: L ∧ (t.2.1 = 0 ∨ (t.2.1 = 1 ∧ t.2.2 ∈ ws))
theorem HdW.no {ws : List ByteArray} {R : List Tk} (h : HdW ws R) {s : ByteArray} (hs : ∀ w ∈ ws, w ≠ s) : isHd s R = false := by
  obtain ⟨t, L, rfl, h | ⟨h, h2⟩⟩ := h
  · rw [isHd]; exact isB_kind (by omega) (by omega)
  · rw [isHd]; exact isB_no (hs _ h2)
structure Nxt (s : List UInt8) (n : Nat) (R : List Tk) (ws : List ByteArray) : Prop where
  lx : Lx s n R
  hd : HdW ws R
  sep : Sep s
section
variable {s : List UInt8} {n : Nat} {R : List Tk} {ws : List ByteArray}
theorem Nxt.word {c : UInt8} {r : List UInt8} {T : List Tk} (hl : isLet c = true) (hw : ∀ d ∈ c :: r, wordCh d = true) (h : Lx s (n + ((c :: r).length + 2)) T) (hm : sof (c :: r) ∈ ws) : Nxt (32 :: ((c :: r) ++ 32 :: s)) n ((((n + 1 : Nat) : Int), 1, sof (c :: r)) :: T) ws where
  lx := Lx.sp (Lx.word hl hw (fun d u h => by cases h; decide) (Lx.sp (by rw [show n + 1 + (c :: r).length + 1 = n + ((c :: r).length + 2) by omega]; exact h)))
  hd := ⟨_, _, rfl, .inr ⟨rfl, hm⟩⟩
  sep := Sep.sp _
end
abbrev w1 : List ByteArray := [qLimit]
abbrev w2 : List ByteArray := [qLimit, qOrder]
abbrev w3 : List ByteArray := [qLimit, qOrder, qGroup]
abbrev w4 : List ByteArray := [qLimit, qOrder, qGroup, qWhere]
theorem w1_no {s : ByteArray} (h : qLimit ≠ s) : ∀ w ∈ w1, w ≠ s := by
  intro w hw
  simp only [w1, List.mem_cons, List.not_mem_nil, or_false] at hw
  subst hw
  exact h
theorem w4_no {s : ByteArray} (h : qLimit ≠ s) (h2 : qOrder ≠ s) (h3 : qGroup ≠ s) (h4 : qWhere ≠ s) : ∀ w ∈ w4, w ≠ s := by
  intro w hw
  simp only [w4, List.mem_cons, List.not_mem_nil, or_false] at hw
  rcases hw with rfl | rfl | rfl | rfl <;> assumption
theorem w12 : ∀ w ∈ w1, w ∈ w2 := fun w h => by simp only [w1, w2, List.mem_cons, List.not_mem_nil, or_false] at h ⊢; exact .inl h
theorem w23 : ∀ w ∈ w2, w ∈ w3 := fun w h => by simp only [w2, w3, List.mem_cons, List.not_mem_nil, or_false] at h ⊢; exact h.imp_right .inl
theorem w34 : ∀ w ∈ w3, w ∈ w4 := fun w h => by simp only [w3, w4, List.mem_cons, List.not_mem_nil, or_false] at h ⊢; exact h.imp_right fun h => h.imp_right .inl
theorem part_len (head : ByteArray) (l : List ByteArray) (h : l.length ≠ 0) (s : List UInt8) : bl (partT head l) ++ s = bl head ++ (bl (commas l) ++ s) := by rw [part_bl, if_neg h]
end Go.Proofs.YtbpdfpfgijhokaaGreatDoor
namespace Go.Proofs.YtbpdfpfgijhokaaGreatDoor
set_option maxRecDepth 100000
open Go.Dn Go.Proofs
open Go.RowKit (Below)
set_option linter.unusedVariables false
theorem Lx.det {l : List UInt8} {n : Nat} {T : List Tk} (h : Lx l n T) : ∀ {U : List Tk}, Lx l n U → T = U := by
  induction h with
  | fin n => intro U h2; cases h2; rfl
  | blank hb _ ih =>
    intro U h2
    cases h2 with
    | blank _ h2 => exact ih h2
    | tok hb2 _ _ => rw [hb] at hb2; cases hb2
    | bad hb2 _ => rw [hb] at hb2; cases hb2
  | tok hb hz _ ih =>
    intro U h2
    cases h2 with
    | blank hb2 _ => rw [hb] at hb2; cases hb2
    | tok _ _ h2 => rw [ih h2]
    | bad _ hz2 => exact absurd hz2 hz
  | bad hb hz =>
    intro U h2
    cases h2 with
    | blank hb2 _ => rw [hb] at hb2; cases hb2
    | tok _ hz2 _ => exact absurd hz hz2
    | bad _ _ => rfl
theorem Ev.det {α : Type} {g : Nat → Option α} {a b : α} (h : Ev fun f => g f = some a) (h' : Ev fun f => g f = some b) : a = b := by
  obtain ⟨f, h1, h2⟩ := (h.and h').one
  rw [h1] at h2
  exact Option.some.inj h2
theorem Lx.whole {l : List UInt8} {n : Nat} {T : List Tk} (h : Lx l n T) : ∀ {e : Tk}, e ∈ T → e.1 = ((n + l.length : Nat) : Int) → ∀ t ∈ T, ¬ (t.2.2 = E0 ∧ t.1 < ((n + l.length : Nat) : Int)) := by
  induction h with
  | fin n =>
    intro e _ _ t ht h
    rw [List.mem_singleton.1 ht] at h
    have := h.2
    simp at this
  | @blank c r n T hb h ih =>
    intro e he h1
    rw [List.length_cons, show n + (r.length + 1) = n + 1 + r.length by omega] at h1 ⊢
    exact ih he h1
  | @tok c r n T hb hz h ih =>
    intro e he h1 t ht
    have hl := lenT_le (c :: r)
    have e2 : n + (lenT (c :: r)).1 + ((c :: r).drop (lenT (c :: r)).1).length = n + (c :: r).length := by rw [List.length_drop]; omega
    rw [e2] at ih
    rcases List.mem_cons.1 ht with rfl | ht
    · intro h; exact take_ne hz h.1
    · rcases List.mem_cons.1 he with rfl | he
      · exfalso
        simp only [List.length_cons] at h1
        omega
      · exact ih he h1 t ht
  | @bad c r n hb hz =>
    intro e he h1
    exfalso
    rw [List.mem_singleton.1 he] at h1
    simp only [List.length_cons] at h1
    omega
theorem end_suf {q : Qu} {L : List Tk} {R : RS Qu} (h : endM q L = some R) : SufR 0 L R := by
  cases L with
  | nil => cases h
  | cons t L =>
    rw [endM] at h
    split at h
    · exact suf_ok h
    · cases h; exact .bad _
theorem query_suf {f : Nat} {L : List Tk} {R : RS Qu} (h : queryM f L = some R) : SufR 0 L R :=
  (suf_need (n := 0) (fun L1 R h => (suf_bind (n := 1) (m := 0) (fun R h => list_suf (fun L R h => item_suf h) h) (fun it L2 R h =>
    suf_bind (n := 0) (m := 0) (fun R h => suf_opt (fun L' R h => (suf_bind (n := 1) (m := 0) (pt_suf _ (.E 1) _) (fun x L'' R h => suf_ok h) h).le (by omega)) h) (fun wh L3 R h =>
    suf_bind (n := 0) (m := 0) (fun R h => suf_opt (fun L' R h => (suf_need (n := 1) (fun L'' R h => list_suf (fun L R h => pt_suf _ (.E 1) _ _ h) h) h).le (by omega)) h) (fun gr L4 R h =>
    suf_bind (n := 0) (m := 0) (fun R h => suf_opt (fun L' R h => (suf_need (n := 1) (fun L'' R h => list_suf (fun L R h => key_suf h) h) h).le (by omega)) h) (fun od L5 R h =>
    suf_bind (n := 0) (m := 0) (fun R h => suf_opt (fun L' R h => lim_suf h) h) (fun lim L6 R h => end_suf h) h) h) h) h) h).le (by omega)) h).le (by omega)
theorem pt_last {f : Nat} {q : Qu} {T L : List Tk} (h : queryM f T = some (.ok q L)) : ∃ p, T = p ++ L := by
  obtain ⟨p, h, _⟩ := query_suf h _ _ rfl
  exact ⟨p, h⟩
theorem ParseIs.one {s : ByteArray} {T : List Tk} {q : Qu} {e : Tk} (hs : s.size ≤ 4096) (hT : Lx (bl s) 0 T) (hq : Ev fun f => queryM f T = some (.ok q [e])) (he : e.1 = ((bl s).length : Int)) (hr : rightQ q = true) {o : Option Qu} {a n : Int} (h : ParseIs s o a n) : o = some q ∧ a = 0 ∧ n = 0 := by
  cases h with
  | long h => omega
  | @tok T' t _ h ht h1 h2 =>
    exfalso
    rw [hT.det h] at hq
    obtain ⟨f, hf⟩ := hq.one
    obtain ⟨p, hp⟩ := pt_last hf
    refine h.whole (e := e) (by rw [hp]; simp) (by rw [he, Nat.zero_add]) t ht ⟨h1, ?_⟩
    rw [Nat.zero_add, bl_length]; exact h2
  | @bad T' a _ h hF h2 =>
    exfalso
    rw [hT.det h] at hq
    cases hq.det h2
  | @form T' q' L _ h hF h2 h3 =>
    exfalso
    rw [hT.det h] at hq
    cases hq.det h2
    rw [hr] at h3; cases h3
  | @ok T' q' L _ h hF h2 h3 =>
    rw [hT.det h] at hq
    cases hq.det h2
    exact ⟨rfl, rfl, rfl⟩
theorem rightQ_len {q : Qu} (h : rightQ q = true) : (quT q).size ≤ 4096 := by
  simp only [rightQ, Bool.and_eq_true, decide_eq_true_eq] at h
  exact h.2
/-! ### whether two are alike, the program -/
theorem showQ_eq (q : Qu) : showQ q = .tuple #[.string (if rightQ q = true then quT q else ⟨#[]⟩), .int .i64 (if rightQ q = true then 0 else 110)] := by unfold showQ; split <;> rfl
theorem query_Same_ok {w : World} {q u : Qu} {ai aw ag ao bi bw bg bo : Option Addr} {ci cw cg co di dw dg d_o : Nat} (E : Env w) (Q : QAt w q ai aw ag ao) (Q' : QAt w u bi bw bg bo) :
    Calls Tryz.prog f.query_Same #[.agg ⟨quL q ai aw ag ao ci cw cg co⟩, .agg ⟨quL u bi bw bg bo di dw dg d_o⟩] w (Ret fun r w' => r = .bool (rightQ q && rightQ u && decide (quT q = quT u)) ∧ Below w.heap.size w w') := by
  obtain ⟨B, hB⟩ : ∃ B, B = (rightQ q && rightQ u && decide (quT q = quT u)) := ⟨_, rfl⟩
  rw [← hB]
  apply R.query_Same_calls
  unfold R.query_Same
  refine (ST.start w).newB fun c11 v1 _ _ T1 => T1.newB fun c12 v2 _ _ T2 => ?_
  have T2 : ST w v2 [quI c12 u bi bw bg bo di dw dg d_o, quI c11 q ai aw ag ao ci cw cg co] := T2
  refine stQ T2 1 rfl (T2.call (query_Show_ok (E.grown T2.bel) (Q.grown T2.bel)) fun v3 _ T3 => ?_)
  rw [showQ_eq]
  refine ⟨_, _, rfl, stQ T3 0 rfl (T3.call (query_Show_ok (E.grown T3.bel) (Q'.grown T3.bel)) fun v4 _ T4 => ?_)⟩
  rw [showQ_eq]
  refine ⟨_, _, rfl, ?_⟩
  by_cases r1 : rightQ q = true
  · rw [if_pos r1]
    by_cases r2 : rightQ u = true
    · rw [if_pos r2, if_pos r1, if_pos r2]
      exact IFB_true (IFB_true ⟨by rw [hB, r1, r2, bytesEq_iff]; rfl, T4.bel⟩)
    · rw [if_neg r2]
      exact IFB_true (IFB_false ⟨by rw [hB, r1, show rightQ u = false by simpa using r2]; rfl, T4.bel⟩)
  · rw [if_neg r1]
    exact IFB_false ⟨by rw [hB, show rightQ q = false by simpa using r1]; rfl, T4.bel⟩
section
variable {w : World} {q : Qu} {ai aw ag ao : Option Addr} {ci cw cg co : Nat}
theorem pparse_ST {w0 w : World} {H : List It} (E : Env2 w) {s : ByteArray} (hs : s.size ≤ 9223372036854775800) (S : ST w0 w H) {Q : Ending → World → Prop}
    (hk : ∀ o a e ai aw ag ao ci cw cg co w', ParseIs s o a e → QAt w' (o.getD zeroQ) ai aw ag ao → ST w0 w' H → Below w.heap.size w w' → Q (.returned (.tuple #[.agg ⟨quL (o.getD zeroQ) ai aw ag ao ci cw cg co⟩, .int .i64 a, .int .i64 e])) w') : Calls Tryz.prog f.query_Parse #[.string s] w Q :=
  (pparse_G E hs).mono (by
    rintro _ w' ⟨_, rfl, o, a, e, ai, aw, ag, ao, ci, cw, cg, co, hP, rfl, hQ, B⟩
    exact hk o a e ai aw ag ao ci cw cg co w' hP hQ (S.grown B) B)
end
end Go.Proofs.YtbpdfpfgijhokaaGreatDoor
namespace Go.Proofs.YtbpdfpfgijhokaaGreatDoor
set_option maxRecDepth 100000
open Go.Dn Go.Proofs
set_option linter.unusedVariables false
abbrev endK (n : Int) : Tk := (n, 0, E0)
section
variable {α β : Type} {n : Int} {t : Tk} {S p : List Tk}
theorem isB_end (s : ByteArray) : isB (endK n) s = false := by simp [isB]
end
section
variable {t : Tk} {S : List Tk}
variable {α : Type} {read : List Tk → Option (RS α)}
end
theorem Lx.eq {s : List UInt8} {n m : Nat} {T : List Tk} (h : Lx s n T) (e : n = m) : Lx s m T := e ▸ h
section
variable {x : Ex} {rest : List UInt8} {n : Nat} {R : List Tk}
theorem par_E {k : Tk} {T : List Tk} (h4 : k.2.1 = 4) (hk : k.2.2 = qOpen) (h : Ev fun f => pt f .M (k :: T) = some (.ok x R)) (hR : ∃ t L, R = t :: L) (hp : powT R = 0) : Ev fun f => pt f (.E 1) (k :: T) = some (.ok x R) :=
  (h.and (Ev.all (q := fun f => pt f (.L 1 x 9) R = some (.ok x R)) fun f => ptL_stop hR (.inr hp))).step fun f ⟨a, b⟩ => by rw [ptE_M (by rw [isB, hk]; simp), a]; exact b
theorem TxG.par1 (X : TxG x) (hR : Lx rest (n + ((bl x.text).length + 2)) R) (hp : powT R = 0) : ∃ T, Lx (40 :: (bl x.text ++ 41 :: rest)) n (((n : Int), 4, qOpen) :: T) ∧ Ev fun f => pt f (.E 1) (((n : Int), 4, qOpen) :: T) = some (.ok x R) := by
  obtain ⟨T, h1, h2⟩ := X.par hR
  exact ⟨T, h1, par_E rfl rfl h2 hR.ne hp⟩
theorem TxG.par2 (X : TxG x) (hR : Lx rest (n + ((bl x.text).length + 4)) R) (hp : powT R = 0) : ∃ T, Lx (40 :: 40 :: (bl x.text ++ 41 :: 41 :: rest)) n (((n : Int), 4, qOpen) :: T) ∧ Ev fun f => pt f (.E 1) (((n : Int), 4, qOpen) :: T) = some (.ok x R) := by
  have hc : Lx (41 :: rest) (n + 1 + ((bl x.text).length + 2)) (((n + 1 + ((bl x.text).length + 2) : Nat), 4, qClose) :: R) := lx_close (hR.eq (by omega))
  obtain ⟨T, h1, h2⟩ := X.par1 hc rfl
  exact ⟨_, lx_open h1, par_E rfl rfl (par_M rfl rfl h2) hR.ne hp⟩
end
def brkI (i : Itm) : List UInt8 := if i.2.1 = 0 then 40 :: 40 :: (bl i.2.2.text ++ 41 :: 41 :: ([32, 97, 115, 32] ++ bl i.1)) else bl (itemT i)
theorem brkI_lx {i : Itm} (hi : ItP i) {s : List UInt8} {n : Nat} {R : List Tk} (hs : Sep s) (hR : Lx s (n + (brkI i).length) R) : ∃ T, Lx (brkI i ++ s) n T ∧ Ev fun f => itemM f T = some (.ok i R) := by
  unfold brkI at hR ⊢
  by_cases k0 : i.2.1 = 0
  · rw [if_pos k0] at hR ⊢
    obtain ⟨nm, k, x⟩ := i
    simp only at k0
    subst k0
    obtain ⟨hi, hf⟩ := hi
    simp only [rightI, Bool.and_eq_true, decide_eq_true_eq] at hi
    obtain ⟨⟨hn, hk⟩, hx⟩ := hi
    rw [if_neg (by decide)] at hx
    obtain ⟨T1, h1, h2, h3⟩ := tail_lx hn (n := n + ((bl x.text).length + 4)) hs (hR.eq (by simp only [List.length_cons, List.length_append, List.length_nil]; omega))
    obtain ⟨T, h4, h6⟩ := (right_txg hx hf).par2 h1 h2
    refine ⟨((n : Int), 4, qOpen) :: T, ?_, h6.mono fun f h => ?_⟩
    · have e : 40 :: 40 :: (bl x.text ++ 41 :: 41 :: ([32, 97, 115, 32] ++ bl nm)) ++ s = 40 :: 40 :: (bl x.text ++ 41 :: 41 :: ([32, 97, 115, 32] ++ (bl nm ++ s))) := by simp
      exact e ▸ h4
    · rw [itemM, if_pos (by rfl), h]
      exact h3 0 x
  · rw [if_neg k0] at hR ⊢
    exact item_lx hi hs hR
def brkM (m : List Itm) : List UInt8 := m.flatMap fun i => 32 :: 44 :: 32 :: brkI i
def brkL : List Itm → List UInt8
  | [] => []
  | x :: m => brkI x ++ brkM m
theorem brkM_lx : ∀ (m : List Itm), (∀ i ∈ m, ItP i) → ∀ (D : List Itm) (s : List UInt8) (n : Nat) (R : List Tk), Sep s → isHd qComma R = false → Lx s (n + (brkM m).length) R →
    ∃ T, Lx (brkM m ++ s) n T ∧ Sep (brkM m ++ s) ∧ ∃ n0, ∀ f k, n0 ≤ f → n0 ≤ k → moreM (itemM f) k D T = some (.ok (D ++ m) R) := by
  intro m
  induction m with
  | nil =>
    intro _ D s n R hg hc hR
    obtain ⟨t, L, rfl⟩ := hR.ne
    refine ⟨_, hR, hg, 1, fun f k _ hk => ?_⟩
    obtain ⟨k, rfl⟩ : ∃ j, k = j + 1 := ⟨k - 1, by omega⟩
    rw [moreM, if_neg (by rw [isHd] at hc; rw [hc]; decide), List.append_nil]
  | cons y m ih =>
    intro one D s n R hg hc hR
    have e : brkM (y :: m) = 32 :: 44 :: 32 :: (brkI y ++ brkM m) := rfl
    rw [e] at hR ⊢
    obtain ⟨T1, h1, h2, n0, h0⟩ := ih (fun x hx => one x (by simp [hx])) (D ++ [y]) s (n + 3 + (brkI y).length) R hg hc (hR.eq (by simp only [List.length_append, List.length_cons]; omega))
    obtain ⟨T2, h3, n1, h4⟩ := brkI_lx (one y (by simp)) h2 h1
    refine ⟨(((n + 1 : Nat) : Int), 4, qComma) :: T2, ?_, Sep.sp _, max n0 n1 + 1, fun f k hf hk => ?_⟩
    · have e2 : 32 :: 44 :: 32 :: (brkI y ++ brkM m) ++ s = 32 :: 44 :: 32 :: (brkI y ++ (brkM m ++ s)) := by simp
      rw [e2]
      exact Lx.sp (Lx.sign (c := 44) (by decide) (fun h => absurd h (by decide)) (Lx.sp h3))
    · obtain ⟨k, rfl⟩ : ∃ j, k = j + 1 := ⟨k - 1, by omega⟩
      rw [moreM, if_pos (by rfl), h4 f (by omega), bindR, h0 f k (by omega) (by omega)]
      simp
theorem brkL_lx {l : List Itm} (hl : l ≠ []) (hi : ∀ i ∈ l, ItP i) {s : List UInt8} {n : Nat} {R : List Tk} (hs : Sep s) (hc : isHd qComma R = false) (hR : Lx s (n + (brkL l).length) R) : ∃ T, Lx (brkL l ++ s) n T ∧ Ev fun f => listM (itemM f) f T = some (.ok l R) := by
  cases l with
  | nil => exact absurd rfl hl
  | cons x m =>
    have e : brkL (x :: m) = brkI x ++ brkM m := rfl
    rw [e] at hR ⊢
    obtain ⟨T1, h1, h2, n0, h0⟩ := brkM_lx m (fun y hy => hi y (by simp [hy])) [x] s (n + (brkI x).length) R hs hc (hR.eq (by rw [List.length_append]; omega))
    obtain ⟨T2, h3, n1, h4⟩ := brkI_lx (hi x (by simp)) h2 h1
    rw [List.append_assoc]
    refine ⟨T2, h3, max n0 n1, fun f hf => ?_⟩
    show bindR (itemM f T2) (fun x L1 => moreM (itemM f) f [x] L1) = _
    rw [h4 f (by omega), bindR, h0 f f (by omega) (by omega)]
    rfl
def whK : List Ex → List UInt8
  | [] => []
  | x :: _ => 32 :: (([119, 104, 101, 114, 101] : List UInt8) ++ 32 :: (40 :: (bl x.text ++ [41])))
theorem whK_lx {l : List Ex} (hl : l.length ≤ 1) (hx : ∀ x ∈ l, XP x) (n : Nat) : ∃ T, Nxt (whK l) n T w4 ∧ Ev fun f => optT qWhere (whereM f) [] T = some (.ok l [endK ((n + (whK l).length : Nat) : Int)]) := by
  match l, hl with
  | [], _ =>
    refine ⟨[endK (n : Nat)], ⟨.fin n, ⟨_, _, rfl, .inl rfl⟩, .inl rfl⟩, Ev.of fun f => ?_⟩
    rw [optT, isB_end]
    rfl
  | [x], _ =>
    obtain ⟨T, h1, h2⟩ := (right_txg (hx x (by simp)).1 (hx x (by simp)).2).par1 (rest := []) (n := n + 7) (.fin _) (by rfl)
    have N := Nxt.word (n := n) (ws := w4) (c := 119) (r := [104, 101, 114, 101]) (by decide) (by decide) h1 (show qWhere ∈ w4 by simp)
    refine ⟨_, N, h2.mono fun f h => ?_⟩
    have e : ((n + (whK [x]).length : Nat) : Int) = ((n + 7 + ((bl x.text).length + 2) : Nat) : Int) := by
      simp only [whK, List.length_cons, List.length_append, List.length_nil]; omega
    rw [e, optT, if_pos (by rfl), whereM, h]
    rfl
def lessQ (q : Qu) : Qu := ⟨q.it, q.wh, [], [], -1⟩
abbrev selB : List UInt8 := [115, 101, 108, 101, 99, 116, 32]
def brkQ (q : Qu) : List UInt8 := selB ++ (brkL q.it ++ whK q.wh)
theorem opt_end' {α : Type} (s : ByteArray) (k : List Tk → Option (RS α)) (d : α) (m : Int) : optT s k d [endK m] = some (.ok d [endK m]) := by
  rw [optT, isB_end]; rfl
theorem brkQ_lx {q : Qu} (hq : QuP q) : ∃ T e, Lx (brkQ q) 0 T ∧ (Ev fun f => queryM f T = some (.ok (lessQ q) [e])) ∧ e.1 = ((brkQ q).length : Int) := by
  obtain ⟨⟨q1, q2, q3, q4, q5, q6, q7⟩, qi, qw, qg, qk⟩ := smallQ_iff.1 hq.s
  obtain ⟨T1, N, hw⟩ := whK_lx q3 (fun x hx => ⟨qw x hx, hq.wh x hx⟩) (7 + (brkL q.it).length)
  obtain ⟨T, h3, h4⟩ := brkL_lx (fun h => by rw [h] at q1; simp at q1) (fun i hi => ⟨qi i hi, hq.it i hi⟩) N.sep (N.hd.no (w4_no (by decide) (by decide) (by decide) (by decide))) N.lx
  have el : ((7 + (brkL q.it).length + (whK q.wh).length : Nat) : Int) = ((brkQ q).length : Int) := by
    rw [brkQ, List.length_append, List.length_append]
    simp only [List.length_cons, List.length_nil]; omega
  refine ⟨((0 : Nat), 1, qSelect) :: T, endK ((7 + (brkL q.it).length + (whK q.wh).length : Nat) : Int), Lx.word (c := 115) (r := [101, 108, 101, 99, 116]) (rest := 32 :: _) (by decide) (by decide) (fun d u h => by cases h; decide) (Lx.sp h3), (h4.and hw).mono fun f ⟨a, b⟩ => ?_, el⟩
  rw [queryM, needT, if_pos (by rfl), a]
  simp only [bindR]
  rw [b]
  simp only [bindR, opt_end']
  rfl
/-! ### parts of a query -/
theorem commas_ge (l : List ByteArray) : ∀ x ∈ l, (bl x).length ≤ (bl (commas l)).length := by
  induction l with
  | nil => intro x hx; cases hx
  | cons y m ih =>
    intro x hx
    cases m with
    | nil => rw [List.mem_singleton.1 hx]; exact Nat.le_refl _
    | cons z m =>
      rw [commas_bl _ _ (by simp)]
      simp only [List.length_append, List.length_cons]
      rcases List.mem_cons.1 hx with rfl | hx
      · omega
      · have := ih x hx; omega
theorem less_wh (q : Qu) : whrB (lessQ q) = bl (partT ⟨#[32, 119, 104, 101, 114, 101, 32]⟩ (q.wh.map Ex.text)) := by
  have e : grpB (lessQ q) = [] := rfl
  rw [whrB, e, List.append_nil]; rfl
theorem lessQ_right {q : Qu} (h : rightQ q = true) : rightQ (lessQ q) = true := by
  obtain ⟨hs, hl⟩ := rightQ_small h
  obtain ⟨⟨q1, q2, q3, q4, q5, q6, q7⟩, qi, qw, qg, qk⟩ := smallQ_iff.1 hs
  have h1 : smallQ (lessQ q) = true := smallQ_iff.2 ⟨⟨q1, q2, q3, by simp [lessQ], by simp [lessQ], by simp [lessQ], by simp [lessQ]⟩, qi, qw, by simp [lessQ], by simp [lessQ]⟩
  have h2 : (quT (lessQ q)).size ≤ 4096 := by
    rw [← bl_length, quT_bl] at hl ⊢
    rw [less_wh]
    have e : (bl (partT ⟨#[32, 119, 104, 101, 114, 101, 32]⟩ (q.wh.map Ex.text))).length ≤ (whrB q).length := by rw [whrB, List.length_append]; omega
    rw [List.length_append] at hl ⊢
    have e2 : (lessQ q).it = q.it := rfl
    rw [e2]
    omega
  rw [rightQ, h1, decide_eq_true h2]; rfl
def oneQ (i : Itm) : Qu := ⟨[i], [], [], [], -1⟩
theorem oneQ_bl (i : Itm) : bl (quT (oneQ i)) = selB ++ bl (itemT i) := by
  rw [quT_bl]
  have e : whrB (oneQ i) = [] := rfl
  rw [e, List.append_nil, oneQ]
  show bl (partT _ [itemT i]) = _
  rw [partT, if_neg (by simp), bl_append]
  rfl
theorem oneQ_right {q : Qu} (h : rightQ q = true) {i : Itm} (hi : i ∈ q.it) : rightQ (oneQ i) = true := by
  obtain ⟨hs, hl⟩ := rightQ_small h
  obtain ⟨⟨q1, q2, q3, q4, q5, q6, q7⟩, qi, qw, qg, qk⟩ := smallQ_iff.1 hs
  have h1 : smallQ (oneQ i) = true := smallQ_iff.2 ⟨⟨by simp [oneQ], by simp [oneQ], by simp [oneQ], by simp [oneQ], by simp [oneQ], by simp [oneQ], by simp [oneQ]⟩, by simp [oneQ, qi i hi], by simp [oneQ], by simp [oneQ], by simp [oneQ]⟩
  have h2 : (quT (oneQ i)).size ≤ 4096 := by
    rw [← bl_length] at hl ⊢
    rw [oneQ_bl]
    rw [quT_bl, part_len _ _ (by rw [List.length_map]; omega), List.length_append, List.length_append] at hl
    have := commas_ge _ _ (List.mem_map_of_mem (f := itemT) hi)
    have e7 : (bl ⟨#[115, 101, 108, 101, 99, 116, 32]⟩).length = 7 := rfl
    rw [List.length_append]
    simp only [List.length_cons, List.length_nil]
    omega
  rw [rightQ, h1, decide_eq_true h2]; rfl
theorem item_as (i : Itm) : bl (itemT i) = bl (if i.2.1 = 0 then i.2.2.text else if i.2.1 = 1 then ⟨#[99, 111, 117, 110, 116, 40, 42, 41]⟩ else aggName i.2.1 ++ ⟨#[40]⟩ ++ i.2.2.text ++ ⟨#[41]⟩) ++ ([32, 97, 115, 32] ++ bl i.1) := by
  rw [itemT, bl_append, bl_append, List.append_assoc]; rfl
theorem brkL_snoc (l : List Itm) (i : Itm) : brkL (l ++ [i]) = brkL l ++ ((if l.length = 0 then [] else [32, 44, 32]) ++ brkI i) := by
  cases l with
  | nil => simp [brkL, brkM]
  | cons x m => simp [brkL, brkM]
end Go.Proofs.YtbpdfpfgijhokaaGreatDoor
namespace Go.Proofs.YtbpdfpfgijhokaaGreatDoor
set_option maxRecDepth 100000
open Go.Dn Go.Proofs
open Go.RowKit (Below)
set_option linter.unusedVariables false
theorem sz_app (a b : ByteArray) : (a ++ b).size = a.size + b.size := by rw [← bl_length, bl_append, List.length_append, bl_length, bl_length]
theorem cut_app {t a b : ByteArray} (h : bl t = bl a ++ bl b) : t.extract 0 a.size = a ∧ t.extract a.size t.size = b ∧ t.size = a.size + b.size := by
  have hs : t.size = a.size + b.size := by rw [← bl_length, h, List.length_append, bl_length, bl_length]
  have ha := bl_length a
  refine ⟨bl_inj ?_, bl_inj ?_, hs⟩
  · rw [bl_extract, h, List.drop_zero, Nat.sub_zero, List.take_left' ha]
  · rw [bl_extract, h, List.drop_left' ha, List.take_of_length_le (by rw [bl_length]; omega)]
section
variable {w : World} {q : Qu} {ai aw ag ao : Option Addr} {ci cw cg co : Nat}
theorem ParseIs.one' {s : ByteArray} {T : List Tk} {q : Qu} {e : Tk} {o : Option Qu} {a n : Int} (h : ParseIs s o a n) (hs : s.size ≤ 4096) (hT : Lx (bl s) 0 T) (hq : Ev fun f => queryM f T = some (.ok q [e])) (he : e.1 = ((bl s).length : Int)) (hr : rightQ q = true) : o = some q ∧ a = 0 ∧ n = 0 := ParseIs.one hs hT hq he hr h
theorem QAt.one {i : Itm} {a : Option Addr} {c : List Value} (h : Rd w a c) (hC : ItC (fun _ => False) w i c) : QAt w (oneQ i) a none none none :=
  ⟨⟨_, h, RowsC.one hC⟩, ⟨[], Rd.nil _ _, rfl⟩, ⟨[], Rd.nil _ _, rfl⟩, ⟨[], Rd.nil _ _, rfl⟩, by show 1 ≤ _; decide, by show 0 ≤ _; decide, by show 0 ≤ _; decide, by show 0 ≤ _; decide, ⟨by show _ ≤ (-1 : Int); decide, by show (-1 : Int) ≤ _; decide⟩⟩
theorem QAt.less (Q : QAt w q ai aw ag ao) : QAt w (lessQ q) ai aw none none :=
  ⟨Q.it, Q.wh, ⟨[], Rd.nil _ _, rfl⟩, ⟨[], Rd.nil _ _, rfl⟩, Q.nit, Q.nwh, by show 0 ≤ _; decide, by show 0 ≤ _; decide, ⟨by show _ ≤ (-1 : Int); decide, by show (-1 : Int) ≤ _; decide⟩⟩
theorem QueryBrackets_core (E : Env2 w) (Q : QAt w q ai aw ag ao) (hci : q.it.length ≤ ci) : Calls Tryz.prog f.law11_QueryBrackets #[.agg ⟨quL q ai aw ag ao ci cw cg co⟩] w (Ret fun v w' => v = .bool true ∧ Below w.heap.size w w') := by
  apply R.law11_QueryBrackets_calls
  unfold R.law11_QueryBrackets
  refine (ST.start w).newB fun b6 w1 _ _ S1 => S1.call (law11_shown_ok (E.env.grown S1.bel)) fun w2 _ S2 => ⟨_, rfl, ?_⟩
  have S2 : ST w w2 [quI b6 q ai aw ag ao ci cw cg co] := S2
  refine stQ S2 0 rfl (S2.call (query_Show_ok (E.env.grown S2.bel) (Q.grown S2.bel)) fun w3 _ S3 => ?_)
  rw [showQ_eq]
  refine ⟨_, _, rfl, ?_⟩
  by_cases hr : rightQ q = true
  rotate_left
  · rw [if_neg hr]
    exact IFB_ne (fun _ => ⟨rfl, S3.bel⟩) (fun h => absurd h (by decide))
  rw [if_pos hr]
  obtain ⟨⟨q1, q2, q3, q4, q5, q6, q7⟩, qi, qw, qg, qk⟩ := smallQ_iff.1 (rightQ_small hr).1
  obtain ⟨ri, hri, hCi⟩ := Q.it
  obtain ⟨rw_, hrw, hCw⟩ := Q.wh
  refine IFB_ne (fun h => absurd rfl h) (fun _ => ?_)
  refine ⟨fun st w' => ∃ (s : ByteArray) (j : Nat), st = [.string s, .int .i64 (j : Int)] ∧ j ≤ q.it.length ∧ bl s = selB ++ brkL (q.it.take j) ∧ s.size ≤ 7 + j * 5000 ∧ ST w w' [quI b6 q ai aw ag ao ci cw cg co], fun st _ => match st with | [_, .int _ t] => q.it.length - t.toNat | _ => 0, ⟨_, 0, rfl, by omega, rfl, by decide, S3⟩, ?_⟩
  rintro s t w4 ⟨_, j, hst, hj, hb, hz, S4⟩
  cases hst
  refine ⟨_, _, _, S4.cell 0 rfl rfl, IFB_dec (fun hlt => ?_) (fun hge => ?_)⟩
  · have hil : j < q.it.length := by change (j : Int) < (q.it.length : Int) at hlt; omega
    have ew : IntKind.i64.wrap ((j : Int) + 1) = ((j + 1 : Nat) : Int) := wrap_succ (by omega)
    rw [ew, Int.toNat_natCast, Int.toNat_natCast, Nat.add_sub_cancel_left]
    refine stQ S4 0 rfl (S4.newB fun b26 w5 _ _ S5 => S5.sto5 0 rfl fun w10 S10 => ⟨_, _, _, S10.cell 1 rfl rfl, ⟨by omega, by omega, by show ((j + 1 : Nat) : Int) ≤ (ci : Int); omega⟩, S10.sto5 0 rfl fun w15 S15 => ?_⟩)
    have S15 : ST w w15 [quI b26 (oneQ q.it[j]) (SLA ai j ci 8) none none none (ci - j) 0 0 0, quI b6 q ai aw ag ao ci cw cg co] := S15
    have h1 := (hri.grown S15.bel).sla j (j + 1) ci 8 (by omega)
    rw [Nat.add_sub_cancel_left, Nat.one_mul] at h1
    have h2 := (RowsC.get (n := 8) (fun x c h => ItC.len h) hCi j hil).grown S15.bel
    have ho := oneQ_right hr (List.getElem_mem hil)
    obtain ⟨i, hi⟩ : ∃ i, i = q.it[j] := ⟨_, rfl⟩
    rw [← hi] at h2 ho S15
    have hls := rightQ_len ho
    have hob := oneQ_bl i
    obtain ⟨T1, hT1⟩ : ∃ T1, T1 = quT (oneQ i) := ⟨_, rfl⟩
    rw [← hT1] at hls hob
    obtain ⟨c1, c2, c3⟩ := cut_app (t := T1) (a := sof selB) (b := itemT i) (by rw [hob, bl_sof])
    have c4 : (sof selB).size = 7 := rfl
    rw [c4] at c1 c2 c3
    refine stQ S15 0 rfl (S15.call (query_Show_ok (E.env.grown S15.bel) (QAt.one h1 h2)) fun w16 _ S16 => ?_)
    rw [showQ_eq, if_pos ho, if_pos ho, ← hT1]
    refine ⟨_, _, rfl, IFB_ne (fun h => absurd rfl h) (fun _ => IFB_dec (fun h => by omega) (fun _ => ⟨⟨by decide, by omega, by omega⟩, ?_⟩))⟩
    rw [c2]
    have S16 : ST w w16 [quI b6 q ai aw ag ao ci cw cg co] := S16.drop 1
    refine ⟨fun st w' => ∃ s' : ByteArray, st = [.string s'] ∧ bl s' = selB ++ (brkL (q.it.take j) ++ if (q.it.take j).length = 0 then [] else [32, 44, 32]) ∧ s'.size ≤ 10 + j * 5000 ∧ ST w w' [quI b6 q ai aw ag ao ci cw cg co], ?_, ?_⟩
    · have hm : (q.it.take j).length = j := by rw [List.length_take]; omega
      have z3 : (⟨#[32, 44, 32]⟩ : ByteArray).size = 3 := rfl
      refine IFB_dec (fun h0 => ⟨by rw [z3]; omega, _, rfl, ?_, ?_, S16⟩) (fun h0 => ⟨_, rfl, ?_, by omega, S16⟩)
      · rw [bl_append, hb, if_neg (by omega), List.append_assoc]; rfl
      · rw [sz_app, z3]; omega
      · rw [hb, if_pos (by omega), List.append_nil]
    · rintro s' w17 ⟨_, hst, hb', hz', S17⟩
      cases hst
      obtain ⟨p, a3, cap3, hpa, hxk, hsz, cellA⟩ := item_at (hri.grown S17.bel) hCi hil
      have snoc : brkL (q.it.take (j + 1)) = brkL (q.it.take j) ++ ((if (q.it.take j).length = 0 then [] else [32, 44, 32]) ++ brkI i) := by
        rw [List.take_succ_eq_append_getElem hil, brkL_snoc, hi]
      have fin : ∀ (X : ByteArray) (w' : World), bl X = brkI i → X.size ≤ 4200 → ST w w' [quI b6 q ai aw ag ao ci cw cg co] →
          (∃ (s : ByteArray) (j' : Nat), [Value.string (s' ++ X), .int .i64 ((j + 1 : Nat) : Int)] = [.string s, .int .i64 (j' : Int)] ∧ j' ≤ q.it.length ∧ bl s = selB ++ brkL (q.it.take j') ∧ s.size ≤ 7 + j' * 5000 ∧ ST w w' [quI b6 q ai aw ag ao ci cw cg co]) ∧
            q.it.length - ((j + 1 : Nat) : Int).toNat < q.it.length - ((j : Nat) : Int).toNat := fun X w' hX hXs S => by
        refine ⟨⟨_, j + 1, rfl, by omega, ?_, by rw [sz_app]; omega, S⟩, by simp only [Int.toNat_natCast]; omega⟩
        rw [bl_append, hb', hX, snoc]
        simp only [List.append_assoc]
      subst hpa
      rw [← hi] at cellA
      refine ⟨_, _, _, S17.cell 0 rfl rfl, ⟨by omega, hlt⟩, _, cellA 1 _ rfl, ?_⟩
      refine IFB_eq (fun k0 => ⟨_, _, _, S17.cell 0 rfl rfl, ⟨by omega, hlt⟩, _, cellA 0 _ rfl, S17.draw fun w18 _ S18 => ?_⟩) (fun k0 => ?_)
      · have ha := item_as i
        rw [if_pos k0, show ([32, 97, 115, 32] : List UInt8) ++ bl i.1 = bl (⟨#[32, 97, 115, 32]⟩ ++ i.1) from by rw [bl_append]; rfl] at ha
        obtain ⟨d1, d2, d3⟩ := cut_app ha
        rw [sz_app, show (⟨#[32, 97, 115, 32]⟩ : ByteArray).size = 4 from rfl] at d3
        have en : IntKind.i64.wrap (IntKind.i64.wrap (((itemT i).size : Int) - (i.1.size : Int)) - 4) = (i.2.2.text.size : Int) := by
          rw [wrap_i64 (n := ((itemT i).size : Int) - (i.1.size : Int)) (by omega) (by omega), wrap_i64 (by omega) (by omega)]
          omega
        rw [en, Int.toNat_natCast, d1, d2]
        have z2 : (⟨#[40, 40]⟩ : ByteArray).size = 2 := rfl
        have z2' : (⟨#[41, 41]⟩ : ByteArray).size = 2 := rfl
        have z4 : (⟨#[32, 97, 115, 32]⟩ : ByteArray).size = 4 := rfl
        simp only [sz_app, z2, z2', z4]
        refine ⟨⟨by omega, by omega, by omega⟩, by omega, by omega, ⟨by omega, by omega, by omega⟩, by omega, by omega, fin _ _ ?_ (by simp only [sz_app, z2, z2', z4]; omega) S18⟩
        rw [brkI, if_pos k0]
        simp only [bl_append, List.append_assoc]
        rfl
      · refine ⟨by omega, fin _ _ (by rw [brkI, if_neg k0]) (by omega) S17⟩
  have hjl : j = q.it.length := by have h' : ¬ (j : Int) < (q.it.length : Int) := hge; omega
  subst hjl
  rw [List.take_length] at hb
  refine ⟨fun st w' => ∃ s' : ByteArray, st = [.string s'] ∧ bl s' = brkQ q ∧ s'.size ≤ 200000 ∧ ST w w' [quI b6 q ai aw ag ao ci cw cg co], ?_, ?_⟩
  · refine ⟨_, _, _, S4.cell 0 rfl rfl, IFB_dec (fun h0 => ?_) (fun h0 => ⟨_, rfl, ?_, by omega, S4⟩)⟩
    rotate_left
    · have : q.wh = [] := List.eq_nil_of_length_eq_zero (by omega)
      rw [hb, brkQ, this, whK, List.append_nil]
    have hil : 0 < q.wh.length := by omega
    obtain ⟨p, a3, cap3, hpa, hxk, cellA⟩ := exs_at (hrw.grown S4.bel) hCw hil
    subst hpa
    refine ⟨_, _, _, S4.cell 0 rfl rfl, ⟨by omega, by omega⟩, ?_⟩
    obtain ⟨x, hx⟩ : ∃ x, x = q.wh[0] := ⟨_, rfl⟩
    rw [← hx] at hxk cellA
    have hwx : q.wh = [x] := by
      match hm : q.wh, hil, q3 with
      | [y], _, _ => simp only [hm] at hx; simp at hx; rw [hx]
      | _ :: _ :: _, _, h => simp at h
    refine ⟨_, cellA 0 _ rfl, _, cellA 1 _ rfl, _, cellA 2 _ rfl, _, cellA 3 _ rfl, _, cellA 4 _ rfl, _, _, _, cellA 5 _ rfl, S4.newB fun b53 w19 _ _ S19 => S19.newB fun b54 w20 _ _ S20 => S20.sto5 0 rfl fun w25 S25 => ?_⟩
    obtain ⟨i, hi⟩ : ∃ i : Itm, i = (⟨#[120]⟩, 0, x) := ⟨_, rfl⟩
    have S25 : ST w w25 [quI b54 (oneQ i) (some ⟨b53, 0, none⟩) none none none 1 0 0 0, It.cells b53 ⟨itHead i a3 cap3⟩ ty.api_Item, quI b6 q ai (some p) ag ao ci cw cg co] := by rw [hi]; exact S25
    have hI : ItC (fun _ => False) w25 i (itHead i a3 cap3) := ⟨_, rfl, by rw [hi]; exact ExC.grown S25.bel hxk, by rw [hi]; show 1 ≤ maxLen; decide, by rw [hi]; exact ⟨by show _ ≤ (0 : Int); decide, by show (0 : Int) ≤ _; decide⟩⟩
    refine stQ S25 0 rfl (S25.call (query_Show_ok (E.env.grown S25.bel) (QAt.one (S25.rdc 1 rfl) hI)) fun w26 _ S26 => ?_)
    rw [showQ_eq]
    refine ⟨_, _, rfl, ?_⟩
    by_cases ho : rightQ (oneQ i) = true
    rotate_left
    · rw [if_neg ho, if_neg ho]
      exact IFB_ne (fun _ => IFB_true ⟨rfl, S26.bel⟩) (fun h => absurd h (by decide))
    rw [if_pos ho, if_pos ho]
    have hls := rightQ_len ho
    have hob := oneQ_bl i
    obtain ⟨T1, hT1⟩ : ∃ T1, T1 = quT (oneQ i) := ⟨_, rfl⟩
    rw [← hT1] at hls hob ⊢
    have ha : bl (itemT i) = bl x.text ++ [32, 97, 115, 32, 120] := by
      rw [item_as, hi]; rfl
    rw [ha] at hob
    have hz1 : T1.size = 7 + (x.text.size + 5) := by
      rw [← bl_length, hob, ← bl_length]
      simp only [List.length_append, List.length_cons, List.length_nil]
    have en : IntKind.i64.wrap ((T1.size : Int) - 5) = ((7 + x.text.size : Nat) : Int) := by
      rw [wrap_i64 (by omega) (by omega)]; omega
    have ex : T1.extract 7 (7 + x.text.size) = x.text := by
      refine bl_inj ?_
      rw [bl_extract, hob, Nat.add_sub_cancel_left]
      show ((selB ++ (bl x.text ++ [32, 97, 115, 32, 120])).drop 7).take x.text.size = _
      rw [List.drop_left' (by rfl), List.take_left' (bl_length _)]
    have z8 : (⟨#[32, 119, 104, 101, 114, 101, 32, 40]⟩ : ByteArray).size = 8 := rfl
    have z1 : (⟨#[41]⟩ : ByteArray).size = 1 := rfl
    rw [en, Int.toNat_natCast, ex]
    simp only [sz_app, z8, z1]
    refine IFB_ne (fun h => absurd rfl h) (fun _ => IFB_dec (fun h => by omega) (fun _ => ⟨by omega, ⟨by decide, by omega, by omega⟩, by omega, by omega, _, rfl, ?_, by simp only [sz_app, z8, z1]; omega, S26.drop 2⟩))
    simp only [bl_append, hb, brkQ, hwx, whK, List.append_assoc]
    rfl
  · rintro s w27 ⟨_, hst, hb, hz, S27⟩
    cases hst
    refine stQ S27 0 rfl (S27.newB fun b70 w28 _ _ S28 => S28.sto5 0 rfl fun w33 S33 => S33.sto 0 rfl (i := 2) (cs' := #[.slice ai q.it.length ci, .slice aw q.wh.length cw, .slice none 0 0, .slice ao q.od.length co, .int .i64 q.lim]) (by simp) rfl fun w34 S34 => S34.sto 0 rfl (i := 3) (cs' := #[.slice ai q.it.length ci, .slice aw q.wh.length cw, .slice none 0 0, .slice none 0 0, .int .i64 q.lim]) (by simp) rfl fun w35 S35 => S35.sto 0 rfl (i := 4) (cs' := #[.slice ai q.it.length ci, .slice aw q.wh.length cw, .slice none 0 0, .slice none 0 0, .int .i64 (-1)]) (by simp) rfl fun w36 S36 => ?_)
    have S36 : ST w w36 [quI b70 (lessQ q) ai aw none none ci cw 0 0, quI b6 q ai aw ag ao ci cw cg co] := S36
    refine pparse_ST (E.grown S36.bel) (by omega) S36 fun o a e bi bw bg bo di dw dg d_o w37 hP Q37 S37 _ => ?_
    refine ⟨_, _, _, _, _, _, _, _, _, _, _, _, _, _, _, rfl, (ST.start w37).newB fun b79 w38 _ _ T38 => T38.sto5 0 rfl fun w43 T43 => ?_⟩
    refine IFB_dec (fun h => IFB_true ⟨?_, (S37.join T43).bel⟩) (fun h => IFB_true ?_)
    · cases hP with
      | long => rfl
      | tok => omega
      | bad => omega
      | form => omega
      | ok => omega
    · obtain ⟨T, e', h1, h2, h3⟩ := brkQ_lx (quP_of hr Q)
      rw [← hb] at h1 h3
      obtain ⟨rfl, rfl, rfl⟩ := hP.one' (by omega) h1 h2 h3 (lessQ_right hr)
      have Q37 : QAt w37 (lessQ q) bi bw bg bo := Q37
      have S43 : ST w w43 [quI b79 (lessQ q) bi bw bg bo di dw dg d_o, quI b70 (lessQ q) ai aw none none ci cw 0 0, quI b6 q ai aw ag ao ci cw cg co] := S37.join T43
      refine IFB_true (stQ S43 0 rfl (stQ S43 1 rfl (S43.call (query_Same_ok (E.env.grown S43.bel) (Q37.grown T43.bel) (QAt.less (Q.grown S43.bel))) fun w44 _ S44 => ?_)))
      exact ⟨_, rfl, by rw [lessQ_right hr, Bool.true_and, Bool.true_and, decide_eq_true rfl], S44.bel⟩
end
theorem QueryBrackets_ok {w : World} (E : Env2 w) (x : List Value) (hx : ∃ q, QuC (fun _ => False) w q x) : Calls Tryz.prog f.law11_QueryBrackets #[.agg ⟨x⟩] w (Ret fun r w' => r = .bool true ∧ Below w.heap.size w w') := by
  obtain ⟨q, hq⟩ := hx
  obtain ⟨ai, aw, ag, ao, ci, cw, cg, co, rfl, Q, hci, _⟩ := hq.at
  exact QueryBrackets_core E Q hci
end Go.Proofs.YtbpdfpfgijhokaaGreatDoor
