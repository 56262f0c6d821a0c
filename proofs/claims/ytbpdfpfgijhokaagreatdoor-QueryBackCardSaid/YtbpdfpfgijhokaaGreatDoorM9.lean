/-
  Texts of this claim, laid one behind the other by a program of mine (install.py): P.Pm5, P.Qb1, P.Qb2.
-/
import Derived.Test.YtbpdfpfgijhokaaGreatDoorM8
namespace Go.Proofs.YtbpdfpfgijhokaaGreatDoor
set_option maxRecDepth 100000
open Go.Dn Go.Proofs
set_option linter.unusedVariables false
/-! ### names, items -/
theorem name_lx {nm : ByteArray} (h : okName nm = true) {s : List UInt8} {n : Nat} {R : List Tk} (hs : ∀ d u, s = d :: u → wordCh d = false) (hR : Lx s (n + (bl nm).length) R) : Lx (bl nm ++ s) n (((n : Int), 1, nm) :: R) ∧ isKeyB nm = false := by
  obtain ⟨c, r, hb, hl, hw, _⟩ := name_bl h
  simp only [okName, Bool.and_eq_true, Bool.not_eq_true'] at h
  have hnb : nm = sof (c :: r) := by rw [← hb, sof_bl]
  refine ⟨?_, h.2⟩
  rw [hb] at hR ⊢
  have g := Lx.word hl hw hs hR
  rw [← hnb] at g
  exact g
theorem tail_lx {nm : ByteArray} (h : okName nm = true) {s : List UInt8} {n : Nat} {R : List Tk} (hs : Sep s) (hR : Lx s (n + (4 + (bl nm).length)) R) : ∃ T, Lx ([32, 97, 115, 32] ++ (bl nm ++ s)) n T ∧ powT T = 0 ∧ ∀ a x, tailT a x T = some (.ok (nm, a, x) R) := by
  obtain ⟨h1, h2⟩ := name_lx h (n := n + 4) hs.word (by rw [Nat.add_assoc]; exact hR)
  refine ⟨_, Lx.sp (Lx.word (c := 97) (r := [115]) (rest := 32 :: (bl nm ++ s)) (by decide) (by decide) (fun d u h => by cases h; decide) (Lx.sp h1)), rfl, fun a x => ?_⟩
  rw [tailT, needT, if_pos (by rfl), nameT, if_pos ⟨rfl, h2⟩]
theorem bare_eq {z : Ex} (hz : bareX z = true) : z = zeroX := by
  obtain ⟨op, nm, v, ks⟩ := z
  unfold bareX at hz
  simp only [Bool.and_eq_true] at hz
  obtain ⟨⟨⟨e1, e2⟩, e3⟩, e4⟩ := hz
  have e1 : op = 0 := of_decide_eq_true e1
  have e2 : nm = E0 := of_decide_eq_true e2
  have e3 : v = V0 := of_decide_eq_true e3
  have e4 : ks.length = 0 := of_decide_eq_true e4
  rw [e1, e2, e3, List.eq_nil_of_length_eq_zero e4]
theorem right_txg {x : Ex} (h : rightX x = true) (hf : x.fit) : TxG x := by
  simp only [rightX, Ex.formed, Bool.and_eq_true, List.all_eq_true, decide_eq_true_eq] at h
  exact txg_all x 40 ⟨h.1.1, h.2⟩ hf
theorem count_ne (n : Int) : ¬ aggT (n, 1, sof [99, 111, 117, 110, 116]) = 0 := by
  rw [aggT, if_pos rfl]
  show ¬ gatB (sof [99, 111, 117, 110, 116]) = 0
  decide
theorem agg_gat {k : Int} (hk : 2 ≤ k ∧ k ≤ 5) : gatB (sof (aggW k)) = k := by
  have h1 : k = 2 ∨ k = 3 ∨ k = 4 ∨ k = 5 := by omega
  rcases h1 with rfl | rfl | rfl | rfl <;> decide
theorem item_lx {i : Itm} (hi : ItP i) {s : List UInt8} {n : Nat} {R : List Tk} (hs : Sep s) (hR : Lx s (n + (bl (itemT i)).length) R) : ∃ T, Lx (bl (itemT i) ++ s) n T ∧ Ev fun f => itemM f T = some (.ok i R) := by
  obtain ⟨nm, k, x⟩ := i
  obtain ⟨hi, hf⟩ := hi
  simp only [rightI, Bool.and_eq_true, decide_eq_true_eq] at hi
  obtain ⟨⟨hn, hk⟩, hx⟩ := hi
  have hlen := item_bl (nm, k, x) []
  rw [List.append_nil, List.append_nil] at hlen
  rw [hlen] at hR
  rw [item_bl]
  simp only [List.length_append, List.length_cons, List.length_nil] at hR hf hx ⊢
  by_cases k0 : k = 0
  · subst k0
    rw [if_pos rfl] at hR ⊢
    rw [if_neg (by decide)] at hx
    obtain ⟨T1, h1, h2, h3⟩ := tail_lx hn (n := n + (bl x.text).length) hs (by rw [Nat.add_assoc]; exact hR)
    obtain ⟨T, h4, h5, h6⟩ := (right_txg hx hf).one (Sep.sp _) h1 h2
    obtain ⟨u, L, rfl⟩ := h4.ne
    refine ⟨_, h4, h6.mono fun f h => ?_⟩
    rw [itemM, if_pos (h5 u L rfl).1, h]
    exact h3 0 x
  · rw [if_neg k0] at hR ⊢
    by_cases k1 : k = 1
    · subst k1
      rw [if_pos rfl] at hR hx ⊢
      rw [bare_eq hx]
      obtain ⟨T1, h1, h2, h3⟩ := tail_lx hn (n := n + 8) hs (by rw [Nat.add_assoc]; exact hR)
      have g := Lx.word (c := 99) (r := [111, 117, 110, 116]) (rest := 40 :: 42 :: 41 :: ([32, 97, 115, 32] ++ (bl nm ++ s))) (n := n) (by decide) (by decide) (fun d u h => by cases h; decide) (lx_open (Lx.sign (c := 42) (by decide) (fun h => absurd h (by decide)) (lx_close h1)))
      refine ⟨_, g, Ev.of fun f => ?_⟩
      rw [itemM, if_neg (show ¬ aggT ((n : Int), 1, sof [99, 111, 117, 110, 116]) = 0 from count_ne n), needT, if_pos (by rfl), starT, if_pos ⟨by rfl, by rfl⟩, bindR, needT, if_pos (by rfl)]
      exact h3 1 zeroX
    · rw [if_neg k1] at hR hx ⊢
      have hk2 : 2 ≤ k ∧ k ≤ 5 := by omega
      obtain ⟨c, w, e, hl, hw, _⟩ := agg_word hk2
      have eg := agg_gat hk2
      rw [ag_bl]
      rw [e] at hR eg ⊢
      simp only [List.length_append, List.length_cons, List.length_nil] at hR
      obtain ⟨m, hm⟩ : ∃ m, m = n + (c :: w).length := ⟨_, rfl⟩
      obtain ⟨T1, h1, h2, h3⟩ := tail_lx hn (n := m + 1 + (bl x.text).length + 1) hs (by
        have e2 : m + 1 + (bl x.text).length + 1 + (4 + (bl nm).length) = n + (w.length + 1 + ((bl x.text).length + (0 + 1) + 1) + (0 + 1 + 1 + 1 + 1 + (bl nm).length)) := by rw [hm, List.length_cons]; omega
        rw [e2]; exact hR)
      obtain ⟨T, h4, h5, h6⟩ := (right_txg hx hf).one (Sep.cl _) (lx_close h1) rfl
      obtain ⟨u, L, rfl⟩ := h4.ne
      have g := Lx.word (n := n) hl hw (fun d u h => by cases h; decide) (lx_open (by rw [← hm]; exact h4))
      refine ⟨_, g, h6.mono fun f h => ?_⟩
      have ea : aggT ((n : Int), 1, sof (c :: w)) = k := by rw [aggT, if_pos rfl]; exact eg
      rw [itemM, ea, if_neg k0, needT, if_pos (by rfl), starT, if_neg (by rw [(h5 u L rfl).2]; simp), h]
      simp only [bindR]
      rw [needT, if_pos (by rfl)]
      exact h3 k x
/-! ### lists -/
section
variable {α : Type} {read : Nat → List Tk → Option (RS α)} {tx : α → ByteArray} {G : List UInt8 → List Tk → Prop}
theorem commas_tx (x : α) (m : List α) : bl (commas ((x :: m).map tx)) = bl (tx x) ++ m.flatMap fun y => 44 :: 32 :: bl (tx y) := by
  induction m generalizing x with
  | nil => simp [commas]
  | cons y m ih =>
    show bl (tx x ++ ⟨#[44, 32]⟩ ++ commas ((y :: m).map tx)) = _
    rw [bl_append, bl_append, ih y]
    simp [bl]
theorem more_lx (hG : ∀ s n T, G (44 :: 32 :: s) (((n : Int), 4, qComma) :: T)) : ∀ (m : List α), (∀ x ∈ m, ∀ s n R, G s R → Lx s (n + (bl (tx x)).length) R → ∃ T, Lx (bl (tx x) ++ s) n T ∧ Ev fun f => read f T = some (.ok x R)) →
    ∀ (D : List α) (s : List UInt8) (n : Nat) (R : List Tk), G s R → isHd qComma R = false → Lx s (n + (m.flatMap fun y => 44 :: 32 :: bl (tx y)).length) R → ∃ T, Lx ((m.flatMap fun y => 44 :: 32 :: bl (tx y)) ++ s) n T ∧ G ((m.flatMap fun y => 44 :: 32 :: bl (tx y)) ++ s) T ∧ ∃ n0, ∀ f k, n0 ≤ f → n0 ≤ k → moreM (read f) k D T = some (.ok (D ++ m) R) := by
  intro m
  induction m with
  | nil =>
    intro _ D s n R hg hc hR
    obtain ⟨t, L, rfl⟩ := hR.ne
    refine ⟨_, hR, hg, 1, fun f k _ hk => ?_⟩
    obtain ⟨k, rfl⟩ : ∃ j, k = j + 1 := ⟨k - 1, by omega⟩
    rw [moreM, if_neg (by rw [isHd] at hc; rw [hc]; decide), List.append_nil]
  | cons y m ih =>
    intro one D s n R hg hc hR
    rw [List.flatMap_cons] at hR ⊢
    simp only [List.length_append, List.length_cons] at hR
    obtain ⟨T1, h1, h2, n0, h0⟩ := ih (fun x hx => one x (by simp [hx])) (D ++ [y]) s (n + 2 + (bl (tx y)).length) R hg hc (by
      have e : ∀ z : Nat, n + 2 + (bl (tx y)).length + z = n + ((bl (tx y)).length + 1 + 1 + z) := fun z => by omega
      rw [e]; exact hR)
    obtain ⟨T2, h3, n1, h4⟩ := one y (by simp) _ (n + 2) T1 h2 h1
    refine ⟨((n : Int), 4, qComma) :: T2, ?_, ?_, max n0 n1 + 1, fun f k hf hk => ?_⟩
    · rw [List.append_assoc, List.cons_append, List.cons_append]
      exact Lx.sign (c := 44) (by decide) (fun h => absurd h (by decide)) (Lx.sp h3)
    · rw [List.append_assoc, List.cons_append, List.cons_append]
      exact hG _ _ _
    · obtain ⟨k, rfl⟩ : ∃ j, k = j + 1 := ⟨k - 1, by omega⟩
      rw [moreM, if_pos (by rfl), h4 f (by omega), bindR, h0 f k (by omega) (by omega)]
      simp
theorem list_lx (hG : ∀ s n T, G (44 :: 32 :: s) (((n : Int), 4, qComma) :: T)) {l : List α} (hl : l ≠ []) (one : ∀ x ∈ l, ∀ s n R, G s R → Lx s (n + (bl (tx x)).length) R → ∃ T, Lx (bl (tx x) ++ s) n T ∧ Ev fun f => read f T = some (.ok x R))
    {s : List UInt8} {n : Nat} {R : List Tk} (hg : G s R) (hc : isHd qComma R = false) (hR : Lx s (n + (bl (commas (l.map tx))).length) R) : ∃ T, Lx (bl (commas (l.map tx)) ++ s) n T ∧ Ev fun f => listM (read f) f T = some (.ok l R) := by
  cases l with
  | nil => exact absurd rfl hl
  | cons x m =>
    rw [commas_tx] at hR ⊢
    rw [List.length_append, ← Nat.add_assoc] at hR
    obtain ⟨T1, h1, h2, n0, h0⟩ := more_lx hG m (fun y hy => one y (by simp [hy])) [x] s _ R hg hc hR
    obtain ⟨T2, h3, n1, h4⟩ := one x (by simp) _ n T1 h2 h1
    rw [List.append_assoc]
    refine ⟨T2, h3, max n0 n1, fun f hf => ?_⟩
    show bindR (read f T2) (fun x L1 => moreM (read f) f [x] L1) = _
    rw [h4 f (by omega), bindR, h0 f f (by omega) (by omega)]
    rfl
end
/-! ### a query -/
def HdW (ws : List ByteArray) (R : List Tk) : Prop := ∃ t L, R = t :: L ∧ (t.2.1 = 0 ∨ (t.2.1 = 1 ∧ t.2.2 ∈ ws))
theorem HdW.no {ws : List ByteArray} {R : List Tk} (h : HdW ws R) {s : ByteArray} (hs : ∀ w ∈ ws, w ≠ s) : isHd s R = false := by
  obtain ⟨t, L, rfl, h | ⟨h, h2⟩⟩ := h
  · rw [isHd]; exact isB_kind (by omega) (by omega)
  · rw [isHd]; exact isB_no (hs _ h2)
theorem HdW.pow {ws : List ByteArray} {R : List Tk} (h : HdW ws R) (he : ∀ t L, R = t :: L → t.2.1 = 0 → t.2.2 = E0) (hs : ∀ w ∈ ws, w = qLimit ∨ w = qOrder ∨ w = qGroup ∨ w = qWhere) : powT R = 0 := by
  obtain ⟨t, L, rfl, h⟩ := h
  obtain ⟨t1, t2, t3⟩ := t
  simp only at h
  rcases h with h | ⟨h, h2⟩
  · have := he _ L rfl h
    simp only at this
    subst h this
    rw [powT, if_neg (by rw [isB_kind (by simp) (by simp)]; decide)]
    rfl
  · subst h
    rcases hs _ h2 with rfl | rfl | rfl | rfl <;> rfl
theorem HdW.mono {ws ws' : List ByteArray} {R : List Tk} (h : HdW ws R) (hs : ∀ w ∈ ws, w ∈ ws') : HdW ws' R := by
  obtain ⟨t, L, rfl, h | ⟨h, h2⟩⟩ := h
  · exact ⟨t, L, rfl, .inl h⟩
  · exact ⟨t, L, rfl, .inr ⟨h, hs _ h2⟩⟩
theorem Lx.end0 {l : List UInt8} {n : Nat} {T : List Tk} (h : Lx l n T) : ∀ t ∈ T, t.2.1 = 0 → t.2.2 = E0 := by
  induction h with
  | fin n => intro t ht _; simp at ht; rw [ht]
  | blank _ _ ih => exact ih
  | tok _ hz _ ih =>
    intro t ht h0
    rcases List.mem_cons.1 ht with rfl | ht
    · exact absurd h0 (lenT_sort hz)
    · exact ih t ht h0
  | bad _ _ => intro t ht _; simp at ht; rw [ht]
structure Nxt (s : List UInt8) (n : Nat) (R : List Tk) (ws : List ByteArray) : Prop where
  lx : Lx s n R
  hd : HdW ws R
  sep : Sep s
section
variable {s : List UInt8} {n : Nat} {R : List Tk} {ws : List ByteArray}
theorem Nxt.pow (N : Nxt s n R ws) (hs : ∀ w ∈ ws, w = qLimit ∨ w = qOrder ∨ w = qGroup ∨ w = qWhere) : powT R = 0 := N.hd.pow (fun t L h => N.lx.end0 t (by rw [h]; simp)) hs
theorem Nxt.opt {α : Type} (N : Nxt s n R ws) {w : ByteArray} (hw : ∀ v ∈ ws, v ≠ w) (k : List Tk → Option (RS α)) (d : α) : optT w k d R = some (.ok d R) := by
  have h := N.hd.no hw
  obtain ⟨t, L, rfl⟩ := N.lx.ne
  rw [isHd] at h
  rw [optT, if_neg (by rw [h]; decide)]
theorem Nxt.word {c : UInt8} {r : List UInt8} {T : List Tk} (hl : isLet c = true) (hw : ∀ d ∈ c :: r, wordCh d = true) (h : Lx s (n + ((c :: r).length + 2)) T) (hm : sof (c :: r) ∈ ws) : Nxt (32 :: ((c :: r) ++ 32 :: s)) n ((((n + 1 : Nat) : Int), 1, sof (c :: r)) :: T) ws where
  lx := Lx.sp (Lx.word hl hw (fun d u h => by cases h; decide) (Lx.sp (by rw [show n + 1 + (c :: r).length + 1 = n + ((c :: r).length + 2) by omega]; exact h)))
  hd := ⟨_, _, rfl, .inr ⟨rfl, hm⟩⟩
  sep := Sep.sp _
end
abbrev w1 : List ByteArray := [qLimit]
abbrev w2 : List ByteArray := [qLimit, qOrder]
abbrev w3 : List ByteArray := [qLimit, qOrder, qGroup]
abbrev w4 : List ByteArray := [qLimit, qOrder, qGroup, qWhere]
theorem dec_uint : ∀ u : Nat, u ≤ 1000000000000 → ∀ r, Lib.parseUint10 0 (Lib.decDigits u ++ r) = Lib.parseUint10 u r := by
  intro u
  induction u using Nat.strongRecOn with
  | _ u ih =>
    intro hu r
    by_cases h : u < 10
    · rw [Lib.decDigits_one h]
      have e : (UInt8.ofNat (48 + u)).toNat = 48 + u := by simp; omega
      conv => lhs; rw [List.singleton_append, Lib.parseUint10]
      rw [e, if_pos (by omega), if_neg (by omega), if_neg (by omega)]
      congr 1
      omega
    · have e : (UInt8.ofNat (48 + u % 10)).toNat = 48 + u % 10 := by simp; omega
      rw [Lib.decDigits, dif_neg h, List.append_assoc, ih (u / 10) (by omega) (by omega)]
      conv => lhs; rw [List.singleton_append, Lib.parseUint10]
      rw [e, if_pos (by omega), if_neg (by omega), if_neg (by omega)]
      congr 1
      omega
theorem atoi_dec (u : Nat) (hu : u ≤ 4096) : Lib.atoiAll (Lib.decDigits u) = .ok (u : Int) := by
  obtain ⟨c, r, e, h1, h2⟩ := vdec_head u
  have hk := dec_uint u (by omega) []
  rw [List.append_nil] at hk
  rw [e] at hk ⊢
  unfold Lib.atoiAll
  simp only
  rw [if_neg (by omega), Lib.parseMag, if_neg (by simp), hk]
  simp only [Lib.parseUint10]
  rw [if_neg (by omega), if_neg (by omega), if_neg (by omega)]
theorem w1_no {s : ByteArray} (h : qLimit ≠ s) : ∀ w ∈ w1, w ≠ s := by
  intro w hw
  simp only [w1, List.mem_cons, List.not_mem_nil, or_false] at hw
  subst hw
  exact h
theorem w2_no {s : ByteArray} (h : qLimit ≠ s) (h2 : qOrder ≠ s) : ∀ w ∈ w2, w ≠ s := by
  intro w hw
  simp only [w2, List.mem_cons, List.not_mem_nil, or_false] at hw
  rcases hw with rfl | rfl <;> assumption
theorem w3_no {s : ByteArray} (h : qLimit ≠ s) (h2 : qOrder ≠ s) (h3 : qGroup ≠ s) : ∀ w ∈ w3, w ≠ s := by
  intro w hw
  simp only [w3, List.mem_cons, List.not_mem_nil, or_false] at hw
  rcases hw with rfl | rfl | rfl <;> assumption
theorem w4_no {s : ByteArray} (h : qLimit ≠ s) (h2 : qOrder ≠ s) (h3 : qGroup ≠ s) (h4 : qWhere ≠ s) : ∀ w ∈ w4, w ≠ s := by
  intro w hw
  simp only [w4, List.mem_cons, List.not_mem_nil, or_false] at hw
  rcases hw with rfl | rfl | rfl | rfl <;> assumption
theorem w12 : ∀ w ∈ w1, w ∈ w2 := fun w h => by simp only [w1, w2, List.mem_cons, List.not_mem_nil, or_false] at h ⊢; exact .inl h
theorem w23 : ∀ w ∈ w2, w ∈ w3 := fun w h => by simp only [w2, w3, List.mem_cons, List.not_mem_nil, or_false] at h ⊢; exact h.imp_right .inl
theorem w34 : ∀ w ∈ w3, w ∈ w4 := fun w h => by simp only [w3, w4, List.mem_cons, List.not_mem_nil, or_false] at h ⊢; exact h.imp_right fun h => h.imp_right .inl
theorem lim_lx {q : Qu} (h1 : -1 ≤ q.lim) (h2 : q.lim ≤ 4096) (n : Nat) : ∃ T e, Nxt (limB q) n T w1 ∧ optT qLimit limM (-1) T = some (.ok q.lim [e]) ∧ e.2.1 = 0 ∧ e.1 = ((n + (limB q).length : Nat) : Int) := by
  unfold limB limT
  by_cases h : 0 ≤ q.lim
  · rw [if_pos h, bl_append, bl_sof]
    have hn : ¬ q.lim < 0 := by omega
    have hi : Lib.itoa q.lim = Lib.decDigits q.lim.toNat := by unfold Lib.itoa; rw [if_neg hn]
    obtain ⟨c, r, ec, _⟩ := vdec_head q.lim.toNat
    have hd := dec_dig q.lim.toNat
    have hp := plainB_dec q.lim.toNat
    have hv := atoi_dec q.lim.toNat (by omega)
    rw [hi]
    rw [ec] at hd hp hv ⊢
    have g := Lx.num (n := n + 7) (rest := []) hd (by simp) (.fin _)
    rw [List.append_nil] at g
    have N := Nxt.word (n := n) (ws := w1) (c := 108) (r := [105, 109, 105, 116]) (s := c :: r) (by decide) (by decide) g (show qLimit ∈ w1 by simp)
    refine ⟨_, ((n + 7 + (c :: r).length : Nat), 0, E0), N, ?_, rfl, by rw [List.length_append, ← Nat.add_assoc]; rfl⟩
    rw [optT, if_pos (by rfl), limM, if_pos rfl]
    simp only
    rw [limV, hp, bl_sof, hv]
    simp only
    rw [Int.toNat_of_nonneg h]
  · rw [if_neg h]
    have : q.lim = -1 := by omega
    rw [this]
    exact ⟨_, ((n : Nat), 0, E0), ⟨.fin n, ⟨_, _, rfl, .inl rfl⟩, .inl rfl⟩, rfl, rfl, rfl⟩
theorem part_len (head : ByteArray) (l : List ByteArray) (h : l.length ≠ 0) (s : List UInt8) : bl (partT head l) ++ s = bl head ++ (bl (commas l) ++ s) := by rw [part_bl, if_neg h]
theorem ord_lx {q : Qu} (hp : ∀ i ∈ q.it, okName i.1 = true) (hk : ∀ k ∈ q.od, rightK q.it k.1 = true) {R : List Tk} {n : Nat} (N : ∀ n, ∃ R e, Nxt (limB q) n R w1 ∧ optT qLimit limM (-1) R = some (.ok q.lim [e]) ∧ e.2.1 = 0 ∧ e.1 = ((n + (limB q).length : Nat) : Int)) :
    ∃ T, Nxt (ordB q) n T w2 ∧ ∃ R e, (Ev fun f => optT qOrder (needT qBy (listM (keyM q.it) f)) [] T = some (.ok q.od R)) ∧ optT qLimit limM (-1) R = some (.ok q.lim [e]) ∧ e.2.1 = 0 ∧ e.1 = ((n + (ordB q).length : Nat) : Int) := by
  unfold ordB
  by_cases hz : q.od.length = 0
  · rw [part_bl, if_pos (by rw [List.length_map]; exact hz)]
    obtain ⟨R, e, N, h1, h2, h9⟩ := N n
    refine ⟨R, ⟨N.lx, N.hd.mono w12, N.sep⟩, R, e, Ev.of fun f => ?_, h1, h2, h9⟩
    rw [N.opt (w1_no (by decide)), List.eq_nil_of_length_eq_zero hz]
  · rw [part_len _ _ (by rw [List.length_map]; exact hz)]
    obtain ⟨R, e, N, h1, h2, h9⟩ := N (n + 10 + (bl (commas (q.od.map (keyT q.it)))).length)
    have one : ∀ k ∈ q.od, ∀ s n R, (Sep s ∧ isHd qDesc R = false) → Lx s (n + (bl (keyT q.it k)).length) R → ∃ T, Lx (bl (keyT q.it k) ++ s) n T ∧ Ev fun f => (fun _ => keyM q.it) f T = some (.ok k R) := by
      intro k hkm s n R hg hR
      obtain ⟨j, d⟩ := k
      have hr := hk _ hkm
      simp only [rightK, Bool.and_eq_true, decide_eq_true_eq] at hr
      have hlt : j.toNat < q.it.length := by omega
      have hnm : okName (q.it.getD j.toNat (E0, 0, .mk 0 E0 V0 [])).1 = true := by
        rw [List.getD_eq_getElem?_getD, List.getElem?_eq_getElem hlt, Option.getD_some]
        exact hp _ (List.getElem_mem _)
      have hpl : placeI q.it (q.it.getD j.toNat (E0, 0, .mk 0 E0 V0 [])).1 = j := by
        rw [placeI, hr.2, idxV]
        omega
      obtain ⟨nm, enm⟩ : ∃ nm, nm = (q.it.getD j.toNat (E0, 0, .mk 0 E0 V0 [])).1 := ⟨_, rfl⟩
      have ek : keyT q.it (j, d) = nm ++ if d = true then (⟨#[32, 100, 101, 115, 99]⟩ : ByteArray) else E0 := by rw [enm]; rfl
      rw [← enm] at hnm hpl
      rw [ek, bl_append, List.length_append, ← Nat.add_assoc] at hR
      rw [ek, bl_append, List.append_assoc]
      cases d with
      | true =>
        have e1 : bl (if true = true then (⟨#[32, 100, 101, 115, 99]⟩ : ByteArray) else E0) = [32, 100, 101, 115, 99] := rfl
        rw [e1] at hR ⊢
        obtain ⟨h5, h6⟩ := name_lx hnm (n := n) (s := [32, 100, 101, 115, 99] ++ s) (fun d u h => by cases h; decide) (Lx.sp (Lx.word (c := 100) (r := [101, 115, 99]) (rest := s) (by decide) (by decide) hg.1.word hR))
        refine ⟨_, h5, Ev.of fun f => ?_⟩
        show keyM q.it _ = _
        rw [keyM, nameT, if_pos ⟨rfl, h6⟩, optT, if_pos (by rfl)]
        simp only [hpl]
      | false =>
        have e1 : bl (if false = true then (⟨#[32, 100, 101, 115, 99]⟩ : ByteArray) else E0) = [] := rfl
        rw [e1] at hR ⊢
        obtain ⟨h5, h6⟩ := name_lx hnm (n := n) (s := s) hg.1.word hR
        refine ⟨_, h5, Ev.of fun f => ?_⟩
        obtain ⟨t, L, rfl⟩ := hR.ne
        have h7 := hg.2
        rw [isHd] at h7
        show keyM q.it _ = _
        rw [keyM, nameT, if_pos ⟨rfl, h6⟩, optT, if_neg (by rw [h7]; decide)]
        simp only [hpl]
    obtain ⟨T, h3, h4⟩ := list_lx (read := fun _ => keyM q.it) (tx := keyT q.it) (G := fun s R => Sep s ∧ isHd qDesc R = false) (fun s n T => ⟨.inr ⟨_, _, rfl, .inr (.inr rfl)⟩, rfl⟩) (l := q.od) (by intro h; rw [h] at hz; exact hz rfl) one (n := n + 10) ⟨N.sep, N.hd.no (w1_no (by decide))⟩ (N.hd.no (w1_no (by decide))) N.lx
    refine ⟨_, Nxt.word (n := n) (c := 111) (r := [114, 100, 101, 114]) (s := 98 :: 121 :: 32 :: _) (by decide) (by decide) (Lx.word (c := 98) (r := [121]) (rest := 32 :: _) (by decide) (by decide) (fun d u h => by cases h; decide) (Lx.sp h3)) (show qOrder ∈ w2 by simp), R, e, h4.mono fun f h => ?_, h1, h2, by rw [h9, List.length_append, List.length_append, show (bl ⟨#[32, 111, 114, 100, 101, 114, 32, 98, 121, 32]⟩).length = 10 from rfl]; congr 1; omega⟩
    rw [optT, if_pos (by rfl), needT, if_pos (by rfl)]
    exact h
theorem exs_lx {l : List Ex} (hl : l ≠ []) (hx : ∀ x ∈ l, XP x) {s : List UInt8} {n : Nat} {R : List Tk} {ws : List ByteArray} (N : Nxt s (n + (bl (commas (l.map Ex.text))).length) R ws) (hw : ∀ w ∈ ws, w = qLimit ∨ w = qOrder ∨ w = qGroup ∨ w = qWhere) :
    ∃ T, Lx (bl (commas (l.map Ex.text)) ++ s) n T ∧ Ev fun f => listM (pt f (.E 1)) f T = some (.ok l R) :=
  list_lx (read := fun f => pt f (.E 1)) (tx := Ex.text) (G := fun s R => Sep s ∧ powT R = 0) (fun s n T => ⟨.inr ⟨_, _, rfl, .inr (.inr rfl)⟩, rfl⟩) hl
    (fun x hxm s n R hg hR => by
      obtain ⟨T, h1, _, h2⟩ := (right_txg (hx x hxm).1 (hx x hxm).2).one hg.1 hR hg.2
      exact ⟨T, h1, h2⟩) ⟨N.sep, N.pow hw⟩ (N.hd.no (fun w hwm => by rcases hw w hwm with rfl | rfl | rfl | rfl <;> decide)) N.lx
theorem query_lx {q : Qu} (hq : QuP q) : ∃ T e, Lx (bl (quT q)) 0 T ∧ (Ev fun f => queryM f T = some (.ok q [e])) ∧ e.1 = ((bl (quT q)).length : Int) := by
  obtain ⟨⟨q1, q2, q3, q4, q5, q6, q7⟩, qi, qw, qg, qk⟩ := smallQ_iff.1 hq.s
  have ne : ∀ {α : Type} {l : List α}, 1 ≤ l.length → l ≠ [] := fun h e => by rw [e] at h; simp at h
  have okn : ∀ i ∈ q.it, okName i.1 = true := fun i hi => by
    have := qi i hi
    simp only [rightI, Bool.and_eq_true] at this
    exact this.1.1
  have O := fun n => ord_lx (n := n) (R := []) okn qk (fun n => lim_lx q6 q7 n)
  have hw : ∀ ws : List ByteArray, (∀ w ∈ ws, w ∈ w4) → ∀ w ∈ ws, w = qLimit ∨ w = qOrder ∨ w = qGroup ∨ w = qWhere := fun ws h w hm => by
    have := h w hm
    simpa using this
  have Gr : ∀ n, ∃ T, Nxt (grpB q) n T w3 ∧ ∃ R, (Ev fun f => optT qGroup (needT qBy (listM (pt f (.E 1)) f)) [] T = some (.ok q.gr R)) ∧ ∃ R2 e, (Ev fun f => optT qOrder (needT qBy (listM (keyM q.it) f)) [] R = some (.ok q.od R2)) ∧ optT qLimit limM (-1) R2 = some (.ok q.lim [e]) ∧ e.2.1 = 0 ∧ e.1 = ((n + (grpB q).length : Nat) : Int) := by
    intro n
    unfold grpB
    by_cases hz : q.gr.length = 0
    · rw [part_bl, if_pos (by rw [List.length_map]; exact hz)]
      obtain ⟨R, N, h⟩ := O n
      refine ⟨R, ⟨N.lx, N.hd.mono w23, N.sep⟩, R, Ev.of fun f => ?_, h⟩
      rw [N.opt (w2_no (by decide) (by decide)), List.eq_nil_of_length_eq_zero hz]
    · rw [part_len _ _ (by rw [List.length_map]; exact hz)]
      obtain ⟨R, N, R2, e, g1, g2, g3, g4⟩ := O (n + 10 + (bl (commas (q.gr.map Ex.text))).length)
      obtain ⟨T, h3, h4⟩ := exs_lx (n := n + 10) (ne (l := q.gr) (by omega)) (fun x hx => ⟨qg x hx, hq.gr x hx⟩) N (hw _ fun w h => w34 w (w23 w h))
      refine ⟨_, Nxt.word (n := n) (c := 103) (r := [114, 111, 117, 112]) (s := 98 :: 121 :: 32 :: _) (by decide) (by decide) (Lx.word (c := 98) (r := [121]) (rest := 32 :: _) (by decide) (by decide) (fun d u h => by cases h; decide) (Lx.sp h3)) (show qGroup ∈ w3 by simp), R, h4.mono fun f h => ?_, R2, e, g1, g2, g3, by rw [g4, List.length_append, List.length_append, show (bl ⟨#[32, 103, 114, 111, 117, 112, 32, 98, 121, 32]⟩).length = 10 from rfl]; congr 1; omega⟩
      rw [optT, if_pos (by rfl), needT, if_pos (by rfl)]
      exact h
  have Wh : ∀ n, ∃ T, Nxt (whrB q) n T w4 ∧ ∃ R0, (Ev fun f => optT qWhere (whereM f) [] T = some (.ok q.wh R0)) ∧ ∃ R, (Ev fun f => optT qGroup (needT qBy (listM (pt f (.E 1)) f)) [] R0 = some (.ok q.gr R)) ∧ ∃ R2 e, (Ev fun f => optT qOrder (needT qBy (listM (keyM q.it) f)) [] R = some (.ok q.od R2)) ∧ optT qLimit limM (-1) R2 = some (.ok q.lim [e]) ∧ e.2.1 = 0 ∧ e.1 = ((n + (whrB q).length : Nat) : Int) := by
    intro n
    unfold whrB
    by_cases hz : q.wh.length = 0
    · rw [part_bl, if_pos (by rw [List.length_map]; exact hz)]
      obtain ⟨R, N, h⟩ := Gr n
      refine ⟨R, ⟨N.lx, N.hd.mono w34, N.sep⟩, R, Ev.of fun f => ?_, h⟩
      rw [N.opt (w3_no (by decide) (by decide) (by decide)), List.eq_nil_of_length_eq_zero hz]
    · rw [part_len _ _ (by rw [List.length_map]; exact hz)]
      obtain ⟨x, hx⟩ : ∃ x, q.wh = [x] := by
        match hm : q.wh, hz, q3 with
        | [], hz, _ => exact absurd rfl hz
        | [x], _, _ => exact ⟨x, rfl⟩
        | _ :: _ :: _, _, h => simp at h
      rw [hx]
      have e7 : ((n + 7 + (bl x.text).length + (grpB q).length : Nat) : Int) = ((n + (bl ⟨#[32, 119, 104, 101, 114, 101, 32]⟩ ++ (bl x.text ++ grpB q)).length : Nat) : Int) := by
        rw [List.length_append, List.length_append, show (bl ⟨#[32, 119, 104, 101, 114, 101, 32]⟩).length = 7 from rfl]; congr 1; omega
      show ∃ T, Nxt (bl _ ++ (bl x.text ++ grpB q)) n T w4 ∧ ∃ R0, _ ∧ ∃ R, _ ∧ ∃ (R2 : List Tk) (e : Tk), _ ∧ _ ∧ _ ∧ e.1 = ((n + (bl ⟨#[32, 119, 104, 101, 114, 101, 32]⟩ ++ (bl x.text ++ grpB q)).length : Nat) : Int)
      obtain ⟨R, N, R', g0, R2, e, g1, g2, g3, g4⟩ := Gr (n + 7 + (bl x.text).length)
      obtain ⟨T, h3, _, h4⟩ := (right_txg (qw x (by rw [hx]; simp)) (hq.wh x (by rw [hx]; simp))).one N.sep N.lx (N.pow (hw _ w34))
      refine ⟨_, Nxt.word (n := n) (c := 119) (r := [104, 101, 114, 101]) (by decide) (by decide) h3 (show qWhere ∈ w4 by simp), R, h4.mono fun f h => ?_, R', g0, R2, e, g1, g2, g3, g4.trans e7⟩
      rw [optT, if_pos (by rfl), whereM, h]
      rfl
  rw [quT_bl, part_len _ _ (by rw [List.length_map]; omega)]
  obtain ⟨T1, N, R0, hw0, R, hg0, R2, e, ho0, hl0, he0, he1⟩ := Wh (7 + (bl (commas (q.it.map itemT))).length)
  obtain ⟨T, h3, h4⟩ := list_lx (read := fun f => itemM f) (tx := itemT) (G := fun s R => Sep s) (fun s n T => .inr ⟨_, _, rfl, .inr (.inr rfl)⟩) (ne q1) (fun i hi s n R hg hR => item_lx ⟨qi i hi, hq.it i hi⟩ hg hR) (n := 7) N.sep (N.hd.no (w4_no (by decide) (by decide) (by decide) (by decide))) N.lx
  refine ⟨((0 : Nat), 1, qSelect) :: T, e, Lx.word (c := 115) (r := [101, 108, 101, 99, 116]) (rest := 32 :: _) (by decide) (by decide) (fun d u h => by cases h; decide) (Lx.sp h3), (((h4.and hw0).and hg0).and ho0).mono fun f ⟨⟨⟨a, b⟩, c⟩, d⟩ => ?_, by rw [he1, List.length_append, List.length_append, show (bl ⟨#[115, 101, 108, 101, 99, 116, 32]⟩).length = 7 from rfl]; congr 1; omega⟩
  rw [queryM, needT, if_pos (by rfl), a]
  simp only [bindR]
  rw [b]
  simp only [bindR]
  rw [c]
  simp only [bindR]
  rw [d]
  simp only [bindR]
  rw [hl0]
  simp only [bindR]
  rw [endM, if_pos he0]
end Go.Proofs.YtbpdfpfgijhokaaGreatDoor
namespace Go.Proofs.YtbpdfpfgijhokaaGreatDoor
set_option maxRecDepth 100000
open Go.Dn Go.Proofs
open Go.RowKit (Below)
set_option linter.unusedVariables false
theorem Lx.det {l : List UInt8} {n : Nat} {T : List Tk} (h : Lx l n T) : ∀ {U : List Tk}, Lx l n U → T = U := by
  induction h with
  | fin n => intro U h2; cases h2; rfl
  | blank hb _ ih =>
    intro U h2
    cases h2 with
    | blank _ h2 => exact ih h2
    | tok hb2 _ _ => rw [hb] at hb2; cases hb2
    | bad hb2 _ => rw [hb] at hb2; cases hb2
  | tok hb hz _ ih =>
    intro U h2
    cases h2 with
    | blank hb2 _ => rw [hb] at hb2; cases hb2
    | tok _ _ h2 => rw [ih h2]
    | bad _ hz2 => exact absurd hz2 hz
  | bad hb hz =>
    intro U h2
    cases h2 with
    | blank hb2 _ => rw [hb] at hb2; cases hb2
    | tok _ hz2 _ => exact absurd hz hz2
    | bad _ _ => rfl
theorem Ev.det {α : Type} {g : Nat → Option α} {a b : α} (h : Ev fun f => g f = some a) (h' : Ev fun f => g f = some b) : a = b := by
  obtain ⟨f, h1, h2⟩ := (h.and h').one
  rw [h1] at h2
  exact Option.some.inj h2
theorem Lx.whole {l : List UInt8} {n : Nat} {T : List Tk} (h : Lx l n T) : ∀ {e : Tk}, e ∈ T → e.1 = ((n + l.length : Nat) : Int) → ∀ t ∈ T, ¬ (t.2.2 = E0 ∧ t.1 < ((n + l.length : Nat) : Int)) := by
  induction h with
  | fin n =>
    intro e _ _ t ht h
    rw [List.mem_singleton.1 ht] at h
    have := h.2
    simp at this
  | @blank c r n T hb h ih =>
    intro e he h1
    rw [List.length_cons, show n + (r.length + 1) = n + 1 + r.length by omega] at h1 ⊢
    exact ih he h1
  | @tok c r n T hb hz h ih =>
    intro e he h1 t ht
    have hl := lenT_le (c :: r)
    have e2 : n + (lenT (c :: r)).1 + ((c :: r).drop (lenT (c :: r)).1).length = n + (c :: r).length := by rw [List.length_drop]; omega
    rw [e2] at ih
    rcases List.mem_cons.1 ht with rfl | ht
    · intro h; exact take_ne hz h.1
    · rcases List.mem_cons.1 he with rfl | he
      · exfalso
        simp only [List.length_cons] at h1
        omega
      · exact ih he h1 t ht
  | @bad c r n hb hz =>
    intro e he h1
    exfalso
    rw [List.mem_singleton.1 he] at h1
    simp only [List.length_cons] at h1
    omega
theorem end_suf {q : Qu} {L : List Tk} {R : RS Qu} (h : endM q L = some R) : SufR 0 L R := by
  cases L with
  | nil => cases h
  | cons t L =>
    rw [endM] at h
    split at h
    · exact suf_ok h
    · cases h; exact .bad _
theorem query_suf {f : Nat} {L : List Tk} {R : RS Qu} (h : queryM f L = some R) : SufR 0 L R :=
  (suf_need (n := 0) (fun L1 R h => (suf_bind (n := 1) (m := 0) (fun R h => list_suf (fun L R h => item_suf h) h) (fun it L2 R h =>
    suf_bind (n := 0) (m := 0) (fun R h => suf_opt (fun L' R h => (suf_bind (n := 1) (m := 0) (pt_suf _ (.E 1) _) (fun x L'' R h => suf_ok h) h).le (by omega)) h) (fun wh L3 R h =>
    suf_bind (n := 0) (m := 0) (fun R h => suf_opt (fun L' R h => (suf_need (n := 1) (fun L'' R h => list_suf (fun L R h => pt_suf _ (.E 1) _ _ h) h) h).le (by omega)) h) (fun gr L4 R h =>
    suf_bind (n := 0) (m := 0) (fun R h => suf_opt (fun L' R h => (suf_need (n := 1) (fun L'' R h => list_suf (fun L R h => key_suf h) h) h).le (by omega)) h) (fun od L5 R h =>
    suf_bind (n := 0) (m := 0) (fun R h => suf_opt (fun L' R h => lim_suf h) h) (fun lim L6 R h => end_suf h) h) h) h) h) h).le (by omega)) h).le (by omega)
theorem pt_last {f : Nat} {q : Qu} {T L : List Tk} (h : queryM f T = some (.ok q L)) : ∃ p, T = p ++ L := by
  obtain ⟨p, h, _⟩ := query_suf h _ _ rfl
  exact ⟨p, h⟩
theorem ParseIs.one {s : ByteArray} {T : List Tk} {q : Qu} {e : Tk} (hs : s.size ≤ 4096) (hT : Lx (bl s) 0 T) (hq : Ev fun f => queryM f T = some (.ok q [e])) (he : e.1 = ((bl s).length : Int)) (hr : rightQ q = true) {o : Option Qu} {a n : Int} (h : ParseIs s o a n) : o = some q ∧ a = 0 ∧ n = 0 := by
  cases h with
  | long h => omega
  | @tok T' t _ h ht h1 h2 =>
    exfalso
    rw [hT.det h] at hq
    obtain ⟨f, hf⟩ := hq.one
    obtain ⟨p, hp⟩ := pt_last hf
    refine h.whole (e := e) (by rw [hp]; simp) (by rw [he, Nat.zero_add]) t ht ⟨h1, ?_⟩
    rw [Nat.zero_add, bl_length]; exact h2
  | @bad T' a _ h hF h2 =>
    exfalso
    rw [hT.det h] at hq
    cases hq.det h2
  | @form T' q' L _ h hF h2 h3 =>
    exfalso
    rw [hT.det h] at hq
    cases hq.det h2
    rw [hr] at h3; cases h3
  | @ok T' q' L _ h hF h2 h3 =>
    rw [hT.det h] at hq
    cases hq.det h2
    exact ⟨rfl, rfl, rfl⟩
theorem rightQ_len {q : Qu} (h : rightQ q = true) : (quT q).size ≤ 4096 := by
  simp only [rightQ, Bool.and_eq_true, decide_eq_true_eq] at h
  exact h.2
theorem ParseIs.back {q : Qu} (hq : QuP q) (hr : rightQ q = true) {o : Option Qu} {a n : Int} (h : ParseIs (quT q) o a n) : o = some q ∧ a = 0 ∧ n = 0 := by
  obtain ⟨T, e, h1, h2, h3⟩ := query_lx hq
  exact ParseIs.one (rightQ_len hr) h1 h2 h3 hr h
theorem ParseIs.cases {s : ByteArray} {o : Option Qu} {a n : Int} (h : ParseIs s o a n) : (n ≠ 0 ∧ o = none) ∨ ∃ q, rightQ q = true ∧ o = some q ∧ a = 0 ∧ n = 0 := by
  cases h with
  | long h => exact .inl ⟨by decide, rfl⟩
  | tok => exact .inl ⟨by decide, rfl⟩
  | bad => exact .inl ⟨by decide, rfl⟩
  | form => exact .inl ⟨by decide, rfl⟩
  | ok _ _ _ _ h => exact .inr ⟨_, h, rfl, rfl, rfl⟩
/-! ### whether two are alike, the program -/
theorem showQ_eq (q : Qu) : showQ q = .tuple #[.string (if rightQ q = true then quT q else ⟨#[]⟩), .int .i64 (if rightQ q = true then 0 else 110)] := by unfold showQ; split <;> rfl
theorem query_Same_ok {w : World} {q u : Qu} {ai aw ag ao bi bw bg bo : Option Addr} {ci cw cg co di dw dg d_o : Nat} (E : Env w) (Q : QAt w q ai aw ag ao) (Q' : QAt w u bi bw bg bo) :
    Calls Tryz.prog f.query_Same #[.agg ⟨quL q ai aw ag ao ci cw cg co⟩, .agg ⟨quL u bi bw bg bo di dw dg d_o⟩] w (Ret fun r w' => r = .bool (rightQ q && rightQ u && decide (quT q = quT u)) ∧ Below w.heap.size w w') := by
  obtain ⟨B, hB⟩ : ∃ B, B = (rightQ q && rightQ u && decide (quT q = quT u)) := ⟨_, rfl⟩
  rw [← hB]
  apply R.query_Same_calls
  unfold R.query_Same
  refine (ST.start w).newB fun c11 v1 _ _ T1 => T1.newB fun c12 v2 _ _ T2 => ?_
  have T2 : ST w v2 [quI c12 u bi bw bg bo di dw dg d_o, quI c11 q ai aw ag ao ci cw cg co] := T2
  refine stQ T2 1 rfl (T2.call (query_Show_ok (E.grown T2.bel) (Q.grown T2.bel)) fun v3 _ T3 => ?_)
  rw [showQ_eq]
  refine ⟨_, _, rfl, stQ T3 0 rfl (T3.call (query_Show_ok (E.grown T3.bel) (Q'.grown T3.bel)) fun v4 _ T4 => ?_)⟩
  rw [showQ_eq]
  refine ⟨_, _, rfl, ?_⟩
  by_cases r1 : rightQ q = true
  · rw [if_pos r1]
    by_cases r2 : rightQ u = true
    · rw [if_pos r2, if_pos r1, if_pos r2]
      exact IFB_true (IFB_true ⟨by rw [hB, r1, r2, bytesEq_iff]; rfl, T4.bel⟩)
    · rw [if_neg r2]
      exact IFB_true (IFB_false ⟨by rw [hB, r1, show rightQ u = false by simpa using r2]; rfl, T4.bel⟩)
  · rw [if_neg r1]
    exact IFB_false ⟨by rw [hB, show rightQ q = false by simpa using r1]; rfl, T4.bel⟩
section
variable {w : World} {q : Qu} {ai aw ag ao : Option Addr} {ci cw cg co : Nat}
theorem pparse_ST {w0 w : World} {H : List It} (E : Env2 w) {s : ByteArray} (hs : s.size ≤ 9223372036854775800) (S : ST w0 w H) {Q : Ending → World → Prop}
    (hk : ∀ o a e ai aw ag ao ci cw cg co w', ParseIs s o a e → QAt w' (o.getD zeroQ) ai aw ag ao → ST w0 w' H → Below w.heap.size w w' → Q (.returned (.tuple #[.agg ⟨quL (o.getD zeroQ) ai aw ag ao ci cw cg co⟩, .int .i64 a, .int .i64 e])) w') : Calls Tryz.prog f.query_Parse #[.string s] w Q :=
  (pparse_G E hs).mono (by
    rintro _ w' ⟨_, rfl, o, a, e, ai, aw, ag, ao, ci, cw, cg, co, hP, rfl, hQ, B⟩
    exact hk o a e ai aw ag ao ci cw cg co w' hP hQ (S.grown B) B)
theorem QueryBack_core (E : Env2 w) (Q : QAt w q ai aw ag ao) (s : ByteArray) (hs : s.size ≤ 9223372036854775800) : Calls Tryz.prog f.law11_QueryBack #[.agg ⟨quL q ai aw ag ao ci cw cg co⟩, .string s] w (Ret fun v w' => v = .bool true ∧ Below w.heap.size w w') := by
  apply R.law11_QueryBack_calls
  unfold R.law11_QueryBack
  refine (ST.start w).newB fun b7 w1 _ _ S1 => S1.call (law11_shown_ok (E.env.grown S1.bel)) fun w2 _ S2 => ⟨_, rfl, ?_⟩
  have S2 : ST w w2 [quI b7 q ai aw ag ao ci cw cg co] := S2
  refine stQ S2 0 rfl (S2.call (query_Show_ok (E.env.grown S2.bel) (Q.grown S2.bel)) fun w3 _ S3 => ?_)
  rw [showQ_eq]
  refine ⟨_, _, rfl, fun st w' => st = [] ∧ ST w w' [quI b7 q ai aw ag ao ci cw cg co], ?_, ?_⟩
  · by_cases hr : rightQ q = true
    · rw [if_pos hr, if_pos hr]
      have hl := rightQ_len hr
      refine IFB_true (pparse_ST (E.grown S3.bel) (by omega) S3 fun o a e bi bw bg bo di dw dg d_o w4 hP Q4 S4 _ => ?_)
      obtain ⟨rfl, rfl, rfl⟩ := hP.back (quP_of hr Q) hr
      have Q4 : QAt w4 q bi bw bg bo := Q4
      refine ⟨_, _, _, _, _, _, _, _, _, _, _, _, _, _, _, rfl, (ST.start w4).newB fun b26 w5 _ _ T5 => T5.sto5 0 rfl fun w10 T10 => IFB_ne (fun h => absurd rfl h) (fun _ => IFB_ne (fun h => absurd rfl h) (fun _ => ?_))⟩
      have S10 : ST w w10 [quI b26 q bi bw bg bo di dw dg d_o, quI b7 q ai aw ag ao ci cw cg co] := S4.join T10
      refine stQ S10 1 rfl (stQ S10 0 rfl (S10.call (query_Same_ok (E.env.grown S10.bel) (Q.grown S10.bel) (Q4.grown T10.bel)) fun w11 _ S11 => ?_))
      refine ⟨_, rfl, ?_⟩
      rw [hr, Bool.true_and, Bool.true_and, decide_eq_true rfl]
      exact IFB_not (IFB_true ⟨rfl, S11.drop 1⟩)
    · rw [if_neg hr, if_neg hr]
      exact IFB_false ⟨rfl, S3⟩
  · rintro w12 ⟨_, S12⟩
    refine pparse_ST (E.grown S12.bel) hs S12 fun o a e bi bw bg bo di dw dg d_o w13 hP Q13 S13 _ => ?_
    refine ⟨_, _, _, _, _, _, _, _, _, _, _, _, _, _, _, rfl, (ST.start w13).newB fun b48 w14 _ _ T14 => T14.sto5 0 rfl fun w19 T19 => ?_⟩
    rcases hP.cases with ⟨hn, rfl⟩ | ⟨r, hr, rfl, rfl, rfl⟩
    · refine IFB_ne (fun _ => IFB_true ⟨_, _, _, T19.cell 0 rfl rfl, rfl, (S13.join T19).bel⟩) (fun h => absurd h hn)
    · have Q13 : QAt w13 r bi bw bg bo := Q13
      have T19 : ST w13 w19 [quI b48 r bi bw bg bo di dw dg d_o] := T19
      have hl := rightQ_len hr
      refine IFB_ne (fun h => absurd rfl h) (fun _ => stQ T19 0 rfl (T19.call (query_Show_ok (E.env.grown (S13.join T19).bel) (Q13.grown T19.bel)) fun w20 _ T20 => ?_))
      rw [showQ_eq, if_pos hr, if_pos hr]
      refine ⟨_, _, rfl, pparse_ST (E.grown (S13.join T20).bel) (by omega) T20 fun o a e ei ew eg eo fi fw fg fo w21 hP2 Q21 T21 _ => ?_⟩
      obtain ⟨rfl, rfl, rfl⟩ := hP2.back (quP_of hr Q13) hr
      have Q21 : QAt w21 r ei ew eg eo := Q21
      refine ⟨_, _, _, _, _, _, _, _, _, _, _, _, _, _, _, rfl, (ST.start w21).newB fun b66 w22 _ _ U22 => U22.sto5 0 rfl fun w27 U27 => ?_⟩
      have U27 : ST w21 w27 [quI b66 r ei ew eg eo fi fw fg fo] := U27
      have T27 : ST w13 w27 [quI b66 r ei ew eg eo fi fw fg fo, quI b48 r bi bw bg bo di dw dg d_o] := T21.join U27
      refine stQ T27 0 rfl (T27.call (query_Show_ok (E.env.grown (S13.join T27).bel) (Q21.grown U27.bel)) fun w28 B28 T28 => ?_)
      rw [showQ_eq, if_pos hr, if_pos hr]
      refine ⟨_, _, rfl, IFB_true (IFB_true (IFB_true (IFB_true (stQ T28 1 rfl (stQ T28 0 rfl (T28.call (query_Same_ok (E.env.grown (S13.join T28).bel) (Q13.grown T28.bel) (Q21.grown (below_j U27.bel B28))) fun w29 _ T29 => ?_))))))⟩
      refine ⟨_, rfl, ?_⟩
      rw [hr, Bool.true_and, Bool.true_and, decide_eq_true rfl]
      exact IFB_true ⟨by rw [bytesEq_iff, decide_eq_true rfl], (S13.join T29).bel⟩
end
theorem QueryBack_ok {w : World} (E : Env2 w) (x : List Value) (hx : ∃ q, QuC (fun _ => False) w q x) (s : ByteArray) (hs : s.data.toList.length ≤ reachBytes) : Calls Tryz.prog f.law11_QueryBack #[.agg ⟨x⟩, .string s] w (Ret fun r w' => r = .bool true ∧ Below w.heap.size w w') := by
  obtain ⟨q, hq⟩ := hx
  obtain ⟨ai, aw, ag, ao, ci, cw, cg, co, rfl, Q, _⟩ := hq.at
  have hs' : s.size ≤ 140737488351232 := by rw [← bl_length]; exact hs
  exact QueryBack_core E Q s (by omega)
end Go.Proofs.YtbpdfpfgijhokaaGreatDoor
