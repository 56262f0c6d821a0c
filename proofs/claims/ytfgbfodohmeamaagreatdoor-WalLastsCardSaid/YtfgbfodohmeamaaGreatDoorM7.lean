/-
  Texts of this claim, laid one behind the other by a program of mine (install.py): Dn.Open, K.DkArg, K.La4, K.La5, K.La6, K.La7, K.La8.
-/
import Derived.Test.YtfgbfodohmeamaaGreatDoorM3
import Derived.ChangeArms
import Derived.Deep.Slices
import Derived.OpenShut
import Derived.Test.YtfgbfodohmeamaaGreatDoorM6
namespace Go.Dn
set_option maxRecDepth 100000
def Good (P : Program) (w : World) : Nat → TypeId → List Value → Prop
  | 0, _, _ => False
  | n + 1, t, cs =>
    match P.underlying t with
    | some .bool => ∃ b, cs = [.bool b]
    | some (.int k) => ∃ x, cs = [.int k x] ∧ (Lit.int k x).wf = true
    | some .string => ∃ s : ByteArray, cs = [.string s] ∧ s.size ≤ maxLen
    | some (.slice e) => ∃ a len cap, cs = [.slice a len cap] ∧ len ≤ cap ∧ cap ≤ maxLen ∧ (a = none → cap = 0) ∧
        ∃ rows : List (List Value), rows.length = len ∧ Rd w a rows.flatten ∧ ∀ r ∈ rows, r.length = P.cellsOf e ∧ Good P w n e r
    | some (.struct fs) => cs.length = P.cellsOf t ∧ ∀ f ∈ fs.toList, Good P w n f.type ((cs.drop f.offset).take (P.cellsOf f.type))
    | _ => True
section
variable {P : Program} {w : World}
theorem Good.int {n : Nat} {t : TypeId} {cs : List Value} {k : IntKind} (h : Good P w n t cs) (ht : P.underlying t = some (.int k)) : ∃ x, cs = [.int k x] ∧ (Lit.int k x).wf = true := by
  cases n with
  | zero => exact h.elim
  | succ n => unfold Good at h; rw [ht] at h; exact h
theorem Good.str {n : Nat} {t : TypeId} {cs : List Value} (h : Good P w n t cs) (ht : P.underlying t = some .string) : ∃ s : ByteArray, cs = [.string s] ∧ s.size ≤ maxLen := by
  cases n with
  | zero => exact h.elim
  | succ n => unfold Good at h; rw [ht] at h; exact h
theorem Good.slice {n : Nat} {t e : TypeId} {cs : List Value} (h : Good P w n t cs) (ht : P.underlying t = some (.slice e)) : ∃ a len cap, cs = [.slice a len cap] ∧ len ≤ cap ∧ cap ≤ maxLen ∧ (a = none → cap = 0) ∧
        ∃ (m : Nat) (rows : List (List Value)), rows.length = len ∧ Rd w a rows.flatten ∧ ∀ r ∈ rows, r.length = P.cellsOf e ∧ Good P w m e r := by
  cases n with
  | zero => exact h.elim
  | succ n =>
    unfold Good at h
    rw [ht] at h
    obtain ⟨a, len, cap, h1, h2, h3, h4, rows, h5⟩ := h
    exact ⟨a, len, cap, h1, h2, h3, h4, n, rows, h5⟩
theorem Good.struct {n : Nat} {t : TypeId} {cs : List Value} {fs : Array Field} (h : Good P w n t cs) (ht : P.underlying t = some (.struct fs)) :
    cs.length = P.cellsOf t ∧ ∃ m, ∀ f ∈ fs.toList, Good P w m f.type ((cs.drop f.offset).take (P.cellsOf f.type)) := by
  cases n with
  | zero => exact h.elim
  | succ n =>
    unfold Good at h
    rw [ht] at h
    exact ⟨h.1, n, h.2⟩
def fieldsT (P : Program) (t : TypeId) : Option (List (TypeId × Nat)) :=
  match P.underlying t with
  | some (.struct fs) => some (fs.toList.map fun f => (f.type, f.offset))
  | _ => none
theorem Good.fields {n : Nat} {t : TypeId} {cs : List Value} {l : List (TypeId × Nat)} (h : Good P w n t cs) (ht : fieldsT P t = some l) :
    cs.length = P.cellsOf t ∧ ∃ m, ∀ x ∈ l, Good P w m x.1 ((cs.drop x.2).take (P.cellsOf x.1)) := by
  unfold fieldsT at ht
  split at ht
  · rename_i fs hu
    obtain ⟨h1, m, h2⟩ := h.struct hu
    cases ht
    refine ⟨h1, m, fun x hx => ?_⟩
    obtain ⟨f, hf, rfl⟩ := List.mem_map.1 hx
    exact h2 f hf
  · cases ht
theorem okWide_agg {t : TypeId} {v : Value} {r : Reach} {base : Nat} {l : List (TypeId × Nat)} (ht : fieldsT P t = some l) (h : Value.okWide P w r base t v) : ∃ cs, v = .agg cs := by
  unfold fieldsT at ht
  split at ht
  · rename_i fs hu
    unfold Value.okWide at h
    rw [hu] at h
    obtain ⟨cs, rfl, _⟩ := h
    exact ⟨cs, rfl⟩
  · cases ht
theorem flatten_get (sz : Nat) : ∀ (rows : List (List Value)), (∀ r ∈ rows, r.length = sz) → ∀ j v, rows.flatten[j]? = some v → 0 < sz ∧ j / sz < rows.length ∧ ∃ r, rows[j / sz]? = some r ∧ r[j % sz]? = some v
  | [], _, j, v, h => by simp at h
  | r :: rows, hl, j, v, h => by
    have hr : r.length = sz := hl r (by simp)
    rw [List.flatten_cons] at h
    by_cases hj : j < sz
    · rw [List.getElem?_append_left (by omega)] at h
      refine ⟨by omega, by rw [Nat.div_eq_of_lt hj]; simp, r, by rw [Nat.div_eq_of_lt hj]; rfl, by rw [Nat.mod_eq_of_lt hj]; exact h⟩
    · rw [List.getElem?_append_right (by omega), hr] at h
      obtain ⟨h0, h1, r', h2, h3⟩ := flatten_get sz rows (fun r hr => hl r (by simp [hr])) (j - sz) v h
      have e : j / sz = (j - sz) / sz + 1 := by
        have := Nat.add_div_right (j - sz) h0
        rw [show j - sz + sz = j by omega] at this
        exact this
      have e2 : j % sz = (j - sz) % sz := Nat.mod_eq_sub_mod (by omega)
      refine ⟨h0, by rw [e]; simp; exact h1, r', by rw [e]; simpa using h2, by rw [e2]; exact h3⟩
theorem good_of_trod {H : Type} {enc : TypeId × Value → H} {spare : Nat → Bool} {held : Bool} {base : Nat} : ∀ (n : Nat) (t : TypeId) (cs : List Value) (x : DataW H × List MemPlace), DataW.trod enc P w base spare held n t cs = some x → Good P w n t cs
  | 0, _, _, _, h => by simp [DataW.trod] at h
  | n + 1, t, cs, x, h => by
    unfold Good
    split
    · rename_i ht; obtain ⟨b, rfl, _⟩ := DataW.trod_bool ht h; exact ⟨b, rfl⟩
    · rename_i k ht; obtain ⟨z, rfl, _, hw⟩ := DataW.trod_int ht h; exact ⟨z, rfl, hw⟩
    · rename_i ht; obtain ⟨s, rfl, _, hw⟩ := DataW.trod_string ht h; exact ⟨s, rfl, hw⟩
    · rename_i e ht
      rcases DataW.trod_slice ht h with ⟨rfl, _⟩ | ⟨a, len, cap, elems, rest, m, hn, rfl, _, hb, hl, hm, hlen, hel, _, _⟩
      · exact ⟨none, 0, 0, rfl, Nat.le_refl _, Nat.zero_le _, fun _ => rfl, [], rfl, Rd.nil _ _, by simp⟩
      · have hnm : n = m := by omega
        subst hnm
        have hx : ∀ i, i < len → ∃ cs' : List Value, w.cells? base (a.add (i * P.cellsOf e)) (P.cellsOf e) = some cs' ∧ Good P w n e cs' := by
          intro i hi
          have := hel i hi
          rw [List.getElem?_eq_getElem (by omega)] at this
          obtain ⟨cs', h1, h2⟩ := Option.bind_eq_some_iff.1 this
          exact ⟨cs', h1, good_of_trod n e cs' _ h2⟩
        obtain ⟨V, hV⟩ := Deep.choose_lt (α := List Value) hx
        have hrows : ∀ r ∈ (List.range len).map V, r.length = P.cellsOf e ∧ Good P w n e r := by
          intro r hr
          obtain ⟨i, hi, rfl⟩ := List.mem_map.1 hr
          have := hV i (by simpa using hi)
          exact ⟨(World.cells?_some this.1).2.1, this.2⟩
        refine ⟨some a, len, cap, rfl, hl, hm, (fun h => nomatch h), (List.range len).map V, by simp, ?_, hrows⟩
        intro j v hv
        obtain ⟨h0, h1, r, h2, h3⟩ := flatten_get (P.cellsOf e) _ (fun r hr => (hrows r hr).1) j v hv
        refine ⟨a, rfl, ?_⟩
        simp only [List.length_map, List.length_range] at h1
        simp only [List.getElem?_map, List.getElem?_range h1, Option.map_some, Option.some.injEq] at h2
        subst h2
        obtain ⟨hc, hg⟩ := hV _ h1
        have hlt : j % P.cellsOf e < P.cellsOf e := Nat.mod_lt _ h0
        have := (World.cells?_some hc).2.2 _ hlt
        rw [addr_add_add, h3] at this
        rw [← this]
        congr 2
        rw [Nat.mul_comm]
        exact (Nat.div_add_mod j _).symm
    · rename_i fs ht
      unfold DataW.trod at h
      rw [ht] at h
      simp only at h
      split at h
      · rename_i hlen
        refine ⟨hlen, fun f hf => ?_⟩
        obtain ⟨xs, hxs, _⟩ := Option.map_eq_some_iff.1 h
        obtain ⟨i, hi⟩ := List.getElem?_of_mem hf
        have hl := mapM_some_length hxs
        have hlt := (List.getElem?_eq_some_iff.1 hi).1
        have hg := mapM_some_get hxs i f hi
        rw [List.getElem?_eq_getElem (by omega)] at hg
        exact good_of_trod n _ _ _ hg
      · cases h
    · trivial
theorem rows_of {α : Type} {rows : List (List Value)} {g : α → List Value} {q : α → Prop} (h : ∀ r ∈ rows, ∃ x, r = g x ∧ q x) : ∃ xs : List α, rows = xs.map g ∧ ∀ x ∈ xs, q x := by
  induction rows with
  | nil => exact ⟨[], rfl, by simp⟩
  | cons r rows ih =>
    obtain ⟨x, rfl, hx⟩ := h r (by simp)
    obtain ⟨xs, rfl, hxs⟩ := ih fun r hr => h r (by simp [hr])
    exact ⟨x :: xs, rfl, by simpa using ⟨hx, hxs⟩⟩
theorem Good.list {α : Type} {n : Nat} {t e : TypeId} {cs : List Value} (h : Good P w n t cs) (ht : P.underlying t = some (.slice e)) (g : α → List Value) (q : α → Prop) (hg : ∀ m r, r.length = P.cellsOf e → Good P w m e r → ∃ x, r = g x ∧ q x) :
    ∃ a cap, ∃ xs : List α, cs = [.slice a xs.length cap] ∧ xs.length ≤ cap ∧ cap ≤ maxLen ∧ (a = none → cap = 0) ∧ Rd w a (xs.flatMap g) ∧ ∀ x ∈ xs, q x := by
  obtain ⟨a, len, cap, rfl, h1, h2, h3, m, rows, rfl, hr, hrs⟩ := h.slice ht
  obtain ⟨xs, rfl, hq⟩ := rows_of (fun r hr => hg m r (hrs r hr).1 (hrs r hr).2)
  simp only [List.length_map] at h1 ⊢
  exact ⟨a, cap, xs, rfl, h1, h2, h3, by rw [List.flatMap_def]; exact hr, hq⟩
def GL {α : Type} (w : World) (g : α → List Value) (q : α → Prop) (a : Option Addr) (xs : List α) (c : Nat) : Prop :=
  xs.length ≤ c ∧ c ≤ maxLen ∧ (a = none → c = 0) ∧ Rd w a (xs.flatMap g) ∧ ∀ x ∈ xs, q x
theorem Good.gl {α : Type} {n : Nat} {t e : TypeId} {a0 : Option Addr} {l0 c0 : Nat} (h : Good P w n t (Value.slice a0 l0 c0).cells.toList) (ht : P.underlying t = some (.slice e)) (g : α → List Value) (q : α → Prop) (hg : ∀ m r, r.length = P.cellsOf e → Good P w m e r → ∃ x, r = g x ∧ q x) :
    ∃ xs : List α, l0 = xs.length ∧ GL w g q a0 xs c0 := by
  obtain ⟨a, c, xs, he, h1⟩ := h.list ht g q hg
  have he' : [Value.slice a0 l0 c0] = [.slice a xs.length c] := he
  simp only [List.cons.injEq, Value.slice.injEq, and_true] at he'
  obtain ⟨rfl, rfl, rfl⟩ := he'
  exact ⟨xs, rfl, h1⟩
def intC (k : IntKind) (x : Int) : List Value := [.int k x]
def intQ (k : IntKind) (x : Int) : Prop := (Lit.int k x).wf = true
theorem good_int {e : TypeId} {k : IntKind} (he : P.underlying e = some (.int k)) : ∀ m r, r.length = P.cellsOf e → Good P w m e r → ∃ x, r = intC k x ∧ intQ k x := fun _ _ _ h => h.int he
theorem flat1 {α β : Type} (f : α → β) : ∀ l : List α, (l.flatMap fun x => [f x]) = l.map f
  | [] => rfl
  | x :: l => by rw [List.flatMap_cons, flat1 f l]; rfl
end
end Go.Dn
namespace Go.Proofs.YtfgbfodohmeamaaGreatDoor
set_option maxRecDepth 100000
open Go.Dn Go.Proofs
open Go.RowKit (Below)
set_option linter.unusedVariables false
theorem cells_int : Tryz.prog.cellsOf ty.int = 1 := by kernel_rfl
theorem cells_str : Tryz.prog.cellsOf ty.string = 1 := by kernel_rfl
theorem cells_ints : Tryz.prog.cellsOf ty.L_int = 1 := by kernel_rfl
theorem und_int : Tryz.prog.underlying ty.int = some (.int .i64) := by kernel_rfl
theorem und_ints : Tryz.prog.underlying ty.L_int = some (.slice ty.int) := by kernel_rfl
theorem ints_arg {w : World} {a : Option Addr} {xs : List Int} {c : Nat} (g : GL w (intC .i64) (intQ .i64) a xs c) : Rd w a (xs.map intI) ∧ xs.length ≤ c := by
  have h := g.2.2.2.1
  rw [show xs.flatMap (intC .i64) = xs.map intI from flat1 intI xs] at h
  exact ⟨h, g.1⟩
def NoEnv (_ : World) : Prop := True
instance (x : Int) : Decidable (okN x) := by unfold okN; infer_instance
theorem dkE_mono {D : DiskC} {E E' : List It} (h : E.Sublist E') : (dkE D E).Sublist (dkE D E') := by
  unfold dkE
  exact ((((((h.append_left _).append_left _).cons_cons _).cons_cons _).cons_cons _).cons_cons _)
theorem walI_mono {W : WalC} {d : Nat} {E E' : List It} (h : E.Sublist E') : (walI W d E).Sublist (walI W d E') := (h.cons_cons _).cons_cons _
theorem LayR.sure {D D' : DiskC} {m B : Nat} {Y r : List UInt8} {e : Int} (h : LayR D m B Y r e D') (hq : WQ D m B (some Y)) (hf : D.fused = false) (hroom : 2 * B + r.length ≤ D.room) : e = 0 ∧ WQ D' (m + 4) B (some (Y ++ r)) := by
  rcases h with h | ⟨_, _, h⟩ | ⟨_, h, _⟩
  · exact h
  · have := hq.wd.left
    omega
  · rw [hf] at h; cases h
theorem disk0_q {b room db lb B : Nat} (h : room ≤ 16777216) : WQ (disk0 b room db lb) 0 B none := by
  refine ⟨⟨disk0_ok h, Nat.le_refl _, fun n _ x c hx => ?_, fun f hf => ?_⟩, rfl, fun n _ => by simp [disk0, appAll], rfl⟩
  · simp [disk0, appAll] at hx
  · simp [disk0] at hf
theorem zero_len : (flatR (freshR zeroL)).length = 31 := by
  have d0 : digitsL 0 = [0] := by unfold digitsL; simp
  have e : flatR (freshR zeroL) = (Pay.snap (0, 0, ⟨#[]⟩)).rcd ++ ((Pay.state 0 0).rcd ++ []) := rfl
  have t0 : textL ⟨#[]⟩ = [0] := by
    unfold textL
    show digitsL 0 ++ [] = [0]
    rw [d0]
    rfl
  have n0 : numL 0 = [0] := d0
  rw [e, List.length_append, List.length_append, Pay.rcd_len, Pay.rcd_len]
  simp only [Pay.bytes, entB, n0, t0]
  rfl
section
variable {w0 w : World} {H : List It}
theorem law19_opened_ok (S : ST w0 w H) (room : Int) (h1 : 200 ≤ room) (h2 : room ≤ 16777216) :
    Calls Tryz.prog f.law19_opened #[.int .i64 room] w (Ret fun v w' => ∃ D W Y, v = .tuple #[ptrV D.b, ptrV W.b, .bool true] ∧ W.L = zeroL ∧ (D.room : Int) = room ∧ D.fused = false ∧ WQ D 20 60 (some Y) ∧ WholeF Y zeroL ∧ ST w0 w' (walI W D.b (dkE D H))) := by
  apply R.law19_opened_calls
  unfold R.law19_opened
  refine (new_ok S room).mono ?_
  rintro _ w1 ⟨_, rfl, ⟨h, _⟩ | ⟨_, b, db, lb, rfl, S1⟩⟩
  · omega
  have hz := zero_len
  refine ⟨_, _, rfl, (wal_Open_ok (X := none) (L := zeroL) (B := 60) S1 (disk0_q (by omega)) (by omega) rfl (by omega) zero_ok (by omega) ⟨rfl, by rw [hz]; show 2 * 60 + 31 ≤ room.toNat; omega⟩ (by rw [hz]; omega)).mono ?_⟩
  rintro _ w2 ⟨_, rfl, W, D', Y, rfl, hL, sm, hq, hw, S2⟩
  refine ⟨_, _, rfl, IFB_true (IFB_true ⟨D', W, Y, ?_, hL, ?_, ?_, hq.mono (by omega) (Nat.le_refl _), hw, S2⟩)⟩
  · rw [sm.b]; rfl
  · rw [sm.room]; show ((room.toNat : Nat) : Int) = room; omega
  · rw [sm.fused]; rfl
def xA : EntP := (1, 1, ⟨#[97]⟩)
def xB : EntP := (2, 2, ⟨#[98]⟩)
theorem law19_shown_ok (w : World) : Calls Tryz.prog f.law19_shown #[] w (Ret fun v w' => v = .bool true ∧ Below w.heap.size w w') := by
  apply R.law19_shown_calls
  unfold R.law19_shown
  refine (law19_opened_ok (ST.start w) 10000 (by omega) (by omega)).mono ?_
  rintro _ w1 ⟨_, rfl, D, W, Y, rfl, hL, hroom, hf, hq, hw, S1⟩
  have hYl := hq.len
  have hq := hq.mono (Nat.le_refl _) (show 60 ≤ 3000 by omega)
  refine ⟨_, _, _, rfl, IFB_false ((wal_SetState_ok S1 hq (by omega) (by rw [hL]; exact zero_ok) 2 1 (by omega) (by omega)).mono ?_)⟩
  rintro _ w2 ⟨_, rfl, e2, D2, L2, rfl, sm2, h2, S2⟩
  rw [hL] at h2
  have hs2 : setP zeroL 2 1 = some { zeroL with term := 2, vote := 1 } := by
    unfold setP
    rw [if_neg (by decide)]
  rcases h2 with ⟨h, _⟩ | ⟨L2', hs, hr2, hL2⟩
  · rw [hs2] at h; cases h
  obtain rfl := Option.some.inj (hs2.symm.trans hs)
  have hl2 : (flatR [Pay.state 2 1]).length ≤ 43 := by
    rw [flatR_one, Pay.rcd_len]
    have := (Pay.bytes_len (p := .state 2 1) ⟨by decide, by decide⟩).2
    have hz : (Pay.state 2 1).size = 0 := rfl
    omega
  obtain ⟨rfl, hq2⟩ := hr2.sure hq hf (by omega)
  rw [if_pos rfl] at hL2
  subst hL2
  have hw2 := hw.more (qs := [Pay.state 2 1]) (fun p hp => by rw [List.mem_singleton.1 hp]; exact ⟨by decide, by decide⟩) (setP_play hs2).1
  refine ⟨_, rfl, S2.newB fun b7 w3 _ _ S3 => ?_⟩
  have S3 := S3.chg 0 rfl (.refl _ _) (rowE (some ⟨b7, 0, none⟩) 2 [xA, xB]) (by
    have hb := S3.blk 0 rfl
    exact ⟨rfl, .inr ⟨b7, _, rfl, hb, Nat.le_refl _, by decide, rfl, rfl⟩⟩) (fun k hk => .inl hk)
  have S3 := S3.perm (lift_perm (W := { W with L := { zeroL with term := 2, vote := 1 } }) [rowE (some ⟨b7, 0, none⟩) 2 [xA, xB]] D2.b)
  have okL2 : LogOk { zeroL with term := 2, vote := 1 } 0 := setP_ok zero_ok (by omega) hs2
  refine (wal_Append_ok (W := { W with L := { zeroL with term := 2, vote := 1 } }) (a := some ⟨b7, 0, none⟩) (c := 2) S3 hq2 (by omega) okL2 [xA, xB] (by decide) (by show 0 + 2 ≤ 900000; omega) (by decide) (by simp) (by rw [List.length_append]; show _ + (44 + (44 + 0)) ≤ _; omega)).mono ?_
  rintro _ w4 ⟨_, rfl, e4, D4, la, lc, L4, rfl, sm4, h4, S4⟩
  have hs4 : appP { zeroL with term := 2, vote := 1 } [xA, xB] = some { zeroL with term := 2, vote := 1, l := [xA, xB] } := by
    have m1 : LogP.may { zeroL with term := 2, vote := 1 } xA := by decide
    have m2 : LogP.may { zeroL with term := 2, vote := 1, l := [xA] } xB := by decide
    simp only [appP, if_pos m1]
    exact if_pos m2
  rcases h4 with ⟨h, _⟩ | ⟨L4', hs, hr4, hL4⟩
  · have h := hs4.symm.trans h; cases h
  obtain rfl := Option.some.inj (hs4.symm.trans hs)
  have okx : ∀ y ∈ [xA, xB], okE y := by
    intro y hy
    simp only [List.mem_cons, List.not_mem_nil, or_false] at hy
    rcases hy with rfl | rfl <;> exact ⟨by decide, by decide, by decide⟩
  have hl4 : (flatR ([xA, xB].map Pay.ent)).length ≤ 88 := ents_size _ okx
  have hf2 : D2.fused = false := by rw [sm2.fused]; exact hf
  have hr2' : (D2.room : Int) = 10000 := by rw [sm2.room]; exact hroom
  obtain ⟨rfl, hq4⟩ := hr4.sure hq2 hf2 (by omega)
  rw [if_pos rfl] at hL4
  subst hL4
  have hw4 := hw2.more (qs := [xA, xB].map Pay.ent) (fun p hp => by
    obtain ⟨y, hy, rfl⟩ := List.mem_map.1 hp
    exact okx y hy) (by rw [← appP_play]; exact hs4)
  have okL4 : LogOk { zeroL with term := 2, vote := 1, l := [xA, xB] } 2 := (appP_ok _ okL2 (by decide) hs4).1
  refine ⟨_, rfl, (wal_Cut_ok S4 hq4 (by omega) okL4 (by omega) 2 (by simp only [List.length_append]; omega)).mono ?_⟩
  rintro _ w5 ⟨_, rfl, e5, D5, L5, rfl, sm5, h5, S5⟩
  have hs5 : cutP { zeroL with term := 2, vote := 1, l := [xA, xB] } 2 = some { zeroL with term := 2, vote := 1, l := [xA] } := by
    unfold cutP
    rw [if_pos (by decide)]
    rfl
  rcases h5 with ⟨h, _⟩ | ⟨L5', hs, hr5, hL5⟩
  · have h := hs5.symm.trans h; cases h
  obtain rfl := Option.some.inj (hs5.symm.trans hs)
  have hl5 : (flatR [Pay.cut 2]).length ≤ 43 := by
    rw [flatR_one, Pay.rcd_len]
    have := (Pay.bytes_len (p := .cut 2) (by show okN 2; decide)).2
    have hz : (Pay.cut 2).size = 0 := rfl
    omega
  have hf4 : D4.fused = false := by rw [sm4.fused]; exact hf2
  have hr4' : (D4.room : Int) = 10000 := by rw [sm4.room]; exact hr2'
  obtain ⟨rfl, hq5⟩ := hr5.sure hq4 hf4 (by omega)
  rw [if_pos rfl] at hL5
  subst hL5
  have hw5 := hw4.more (qs := [Pay.cut 2]) (fun p hp => by rw [List.mem_singleton.1 hp]; exact (by decide : okN 2)) (cutP_play hs5).1
  have okL5 : LogOk { zeroL with term := 2, vote := 1, l := [xA] } 2 := cutP_ok okL4 hs5
  refine ⟨_, rfl, ?_⟩
  have eb5 : D5.b = D.b := sm5.b.trans (sm4.b.trans sm2.b)
  rw [← eb5]
  have S5p := (S5.perm (wd_perm D5 D5.b))
  refine (crash_ok (ka := none) (kc := 0) S5p hq5.wd.ok (by omega) 0 [] (fun w' _ => Rd.nil _ _) (Nat.le_refl _)).mono ?_
  rintro _ w6 ⟨_, rfl, gs, D6, rfl, S6, h6⟩
  obtain ⟨X, rfl, hq6, hf6, hroom6⟩ := CrashTo.crash hq5.wd (files_nd S5p) (files_nd S6) hq5.crash h6
  refine ⟨_, rfl, (wal_Open_ok S6 hq6 (by omega) hf6 (by omega) okL5 (by omega) (hw5.says _) (by have := fresh_size okL5 (by omega); have hz : sizeL { zeroL with term := 2, vote := 1, l := [xA] } = 144 := rfl; omega)).mono ?_⟩
  rintro _ w7 ⟨_, rfl, W7, D7, Y7, rfl, hL7, sm7, hq7, hw7, S7⟩
  refine ⟨_, _, rfl, IFB_eq (fun _ => IFB_eq (fun _ => IFB_eq (fun _ => IFB_eq (fun _ => (wal_State_ok (walR_of S7)).mono ?_) (fun h => absurd rfl h)) (fun h => absurd rfl h)) (fun h => absurd rfl h)) (fun h => absurd rfl h)⟩
  rintro _ w8 ⟨_, rfl, rfl, B8⟩
  have S8 := S7.grown B8
  rw [hL7]
  refine ⟨_, _, rfl, IFB_true ((wal_Last_ok (walR_of S8) (by rw [hL7]; exact okL5.b (by omega))).mono ?_)⟩
  rintro _ w9 ⟨_, rfl, rfl, B9⟩
  rw [hL7]
  exact ⟨_, rfl, rfl, (S8.grown B9).bel⟩
end
theorem dkE_suffix {D : DiskC} {E : List It} : E.Sublist (dkE D E) := by
  unfold dkE
  exact (((((List.sublist_append_right _ _).trans (List.sublist_append_right _ _)).cons _).cons _).cons _).cons _
structure LawQ (n : Nat) (mx : Int) (L : LogP) (D : DiskC) (Y : List UInt8) : Prop where
  ok : LogOk L mx
  ll : L.l.length ≤ 20 * n
  sz : sizeL L ≤ 200 + 12000 * n
  fz : D.fused = false
  q : WQ D (20 + 20 * n) (200 + 12000 * n) (some Y)
  wh : WholeF Y L
theorem LawQ.step {n : Nat} {mx : Int} {L L1 L2 : LogP} {D D' : DiskC} {Y : List UInt8} {x : Op9} {e e1 : Int} (h : LawQ n mx L D Y) (hx : x.term ≤ 9223372036854775807) (hd : x.data.size ≤ 500) (hr : RefOp (stepM L x) L e1 L1)
    (hdo : DoesR D (20 + 20 * n) (200 + 12000 * (n + 1)) Y L x e D' L2) (sm : Sam D D') :
    (e = e1 ∧ (e = 0 ∨ e = 2) ∧ L1 = L2 ∧ ∃ Y', LawQ (n + 1) (mx + 100) L2 D' Y') ∨ (e = 181 ∧ e1 = 0 ∧ L2 = L ∧ (D.room : Int) < 3 * ((200 + 12000 * (n + 1) : Nat) : Int) ∧ LawQ (n + 1) (mx + 100) L D' Y) := by
  have hfz : D'.fused = false := by rw [sm.fused]; exact h.fz
  have hll := h.ll
  have hsz := h.sz
  rcases hdo with ⟨hs, rfl, rfl, rfl⟩ | ⟨L', hs, ⟨rfl, rfl, Y', hw, hq⟩ | ⟨rfl, rfl, hl, hq⟩ | ⟨_, _, hf, _⟩⟩
  · rcases hr with ⟨_, rfl, rfl⟩ | ⟨h1, _⟩
    · exact .inl ⟨rfl, .inr rfl, rfl, Y, h.ok.mono (by omega), by omega, by omega, h.fz, h.q.mono (by omega) (by omega), h.wh⟩
    · rw [hs] at h1; cases h1
  · obtain ⟨g1, g2, g3⟩ := stepM_ok h.ok hx hd hs
    rcases hr with ⟨h1, _⟩ | ⟨h1, rfl⟩
    · rw [hs] at h1; cases h1
    · obtain rfl := Option.some.inj (hs.symm.trans h1)
      exact .inl ⟨rfl, .inl rfl, rfl, Y', g1, by omega, by omega, hfz, hq.mono (by omega) (Nat.le_refl _), hw⟩
  · rcases hr with ⟨h1, _⟩ | ⟨h1, rfl⟩
    · rw [hs] at h1; cases h1
    · exact .inr ⟨rfl, rfl, rfl, hl, h.ok.mono (by omega), by omega, by omega, hfz, (hq h.fz).mono (by omega) (Nat.le_refl _), h.wh⟩
  · rw [h.fz] at hf; cases hf
section
variable {w0 w : World} {H : List It} {W : WalC} {D : DiskC} {G : LogC}
theorem logR_in {P : List It} (S : ST w0 w (P ++ walI W D.b (dkE D (logD G H)))) : LogR w G :=
  ⟨S.ok (It.cells G.b G.cells ty.ref19_Log) (by simp [walI, dkE, logD]), S.ok (It.rd G.la (G.L.l.flatMap entC)) (by simp [walI, dkE, logD])⟩
theorem clone_in {P : List It} (S : ST w0 w (P ++ walI W D.b (dkE D (logD G H)))) (hn : G.L.l.length ≤ 1000000) :
    Calls Tryz.prog f.ref19_Log_Clone #[ptrV G.b] w (Ret fun v w' => ∃ G1, v = ptrV G1.b ∧ G1.L = G.L ∧ ST w0 w' (logI G1 (P ++ walI W D.b (dkE D (logD G H))))) := by
  refine (ref19_Clone_ok (logR_in S) hn).mono ?_
  rintro _ w' ⟨_, rfl, G1, rfl, hL, T⟩
  exact ⟨_, rfl, G1, rfl, hL, S.join T⟩
theorem call_in {x : Op9} {b : Nat} {G2 : LogC} {n : Nat} {mx : Int} {Y : List UInt8} (S : ST w0 w (logD G2 ([It.cells b x.cells ty.law19_Op] ++ walI W D.b (dkE D (logD G H))))) (h : LawQ n mx W.L D Y) (hG : G.L = W.L) (hmx : mx ≤ 2305843009213693952) (hn : n ≤ 200) (hx : x.term ≤ 9223372036854775807) (hd : x.data.size ≤ 500) :
    Calls Tryz.prog f.law19_call #[ptrV W.b, ptrV G.b, .agg x.cells] w (Ret fun u w' => ∃ e D' la lc L2, u = .int .i64 e ∧ Sam D D' ∧ DoesR D (20 + 20 * n) (200 + 12000 * (n + 1)) Y W.L x e D' L2 ∧ ST w0 w' (logD G2 ([It.cells b x.cells ty.law19_Op] ++ walI { W with la := la, lc := lc, L := L2 } D'.b (dkE D' (logD G H))))) := by
  have hYl := h.q.len
  have hll := h.ll
  have hsz := h.sz
  have Sp := S.perm (lift_perm (W := W) (D := D) (H := logD G H) [It.cells G2.b G2.cells ty.ref19_Log, It.rd G2.la (G2.L.l.flatMap entC), It.cells b x.cells ty.law19_Op] D.b)
  refine (law19_call_ok Sp (h.q.mono (Nat.le_refl _) (show 200 + 12000 * n ≤ 200 + 12000 * (n + 1) by omega)) h.wh (by omega) h.ok hmx (by omega) hG (by simp [logD]) (by simp [logD]) x hx hd (by omega) (by omega) (by omega)).mono ?_
  rintro _ w' ⟨_, rfl, e, D', la, lc, L2, rfl, sm, hdo, S'⟩
  exact ⟨_, rfl, e, D', la, lc, L2, rfl, sm, hdo, S'.perm (lift_perm (W := { W with la := la, lc := lc, L := L2 }) (D := D') (H := logD G H) [It.cells G2.b G2.cells ty.ref19_Log, It.rd G2.la (G2.L.l.flatMap entC), It.cells b x.cells ty.law19_Op] D'.b).symm⟩
theorem take_new {P : List It} {G2 : LogC} (S : ST w0 w (logD G2 (P ++ walI W D.b (dkE D (logD G H))))) : ST w0 w (P ++ walI W D.b (dkE D (logD G2 H))) := by
  have S1 := S.perm (lift_perm (W := W) (D := D) (H := logD G H) ([It.cells G2.b G2.cells ty.ref19_Log, It.rd G2.la (G2.L.l.flatMap entC)] ++ P) D.b)
  have S2 : ST w0 w (walI W D.b (dkE D (([It.cells G2.b G2.cells ty.ref19_Log, It.rd G2.la (G2.L.l.flatMap entC)] ++ P) ++ H))) := S1.sub (walI_mono (dkE_mono ((List.Sublist.refl _).append (List.sublist_append_right [It.cells G.b G.cells ty.ref19_Log, It.rd G.la (G.L.l.flatMap entC)] H))))
  have e : (([It.cells G2.b G2.cells ty.ref19_Log, It.rd G2.la (G2.L.l.flatMap entC)] ++ P) ++ H).Perm (P ++ logD G2 H) := by
    rw [List.append_assoc]
    exact List.perm_append_comm_assoc _ _ _
  have e2 : (dkE D (([It.cells G2.b G2.cells ty.ref19_Log, It.rd G2.la (G2.L.l.flatMap entC)] ++ P) ++ H)).Perm (dkE D (P ++ logD G2 H)) := by
    unfold dkE
    exact ((((((e.append_left _).append_left _).cons _).cons _).cons _).cons _)
  exact (S2.perm ((e2.cons _).cons _)).perm (lift_perm P D.b).symm
def newG (b : Nat) : LogC := ⟨b, none, 0, zeroL⟩
theorem start_in {b : Nat} (S : ST w0 w (It.cells b (newG b).cells ty.ref19_Log :: walI W D.b (dkE D H))) : ST w0 w (walI W D.b (dkE D (logD (newG b) H))) := by
  have S1 := (S.add (.refl _ _) (It.rd none (([] : List EntP).flatMap entC)) (Rd.nil w none) (fun k hk => by cases hk)).perm (List.Perm.swap _ _ _)
  exact S1.perm (lift_perm [It.cells b (newG b).cells ty.ref19_Log, It.rd none (([] : List EntP).flatMap entC)] D.b)
end
structure OpQ9 (w : World) (x : Op9) : Prop where
  term : x.term ≤ 9223372036854775807
  keep : ∃ keeps : List Int, keeps.length = x.kl ∧ x.kl ≤ x.kc ∧ Rd w x.ka (keeps.map intI)
theorem und_op9 : fieldsT Tryz.prog ty.law19_Op = some [(ty.int, 0), (ty.int, 1), (ty.int, 2), (ty.int64, 3), (ty.int64, 4), (ty.string, 5), (ty.L_int, 6)] := by kernel_rfl
theorem cells_op9 : Tryz.prog.cellsOf ty.law19_Op = 7 := by kernel_rfl
theorem cells_int64 : Tryz.prog.cellsOf ty.int64 = 1 := by kernel_rfl
theorem und_int64 : Tryz.prog.underlying ty.int64 = some (.int .i64) := by kernel_rfl
theorem wf_le {z : Int} (h : (Lit.int .i64 z).wf = true) : -9223372036854775808 ≤ z ∧ z ≤ 9223372036854775807 := by
  simpa [Lit.wf, IntKind.min, IntKind.max, IntKind.signed, IntKind.bits] using h
theorem good_stackyardlaw19_Op {w : World} : ∀ m r, r.length = Tryz.prog.cellsOf ty.law19_Op → Go.Dn.Good Tryz.prog w m ty.law19_Op r → ∃ x, r = Op9.C x ∧ OpQ9 w x := by
  intro m r hl h
  obtain ⟨_, n, hf⟩ := h.fields und_op9
  rw [cells_op9] at hl
  match r, hl with
  | [v0, v1, v2, v3, v4, v5, v6], _ =>
    simp only [List.mem_cons, List.not_mem_nil, or_false, forall_eq_or_imp, forall_eq, cells_int, cells_ints, cells_str, cells_int64] at hf
    obtain ⟨h0, h1, h2, h3, h4, h5, h6⟩ := hf
    obtain ⟨x0, e0, q0⟩ := h0.int und_int
    obtain ⟨x1, e1, q1⟩ := h1.int und_int
    obtain ⟨x2, e2, q2⟩ := h2.int und_int
    obtain ⟨x3, e3, q3⟩ := h3.int und_int64
    obtain ⟨x4, e4, q4⟩ := h4.int und_int64
    obtain ⟨x5, e5, q5⟩ := h5.str und_str
    obtain ⟨a, c, xs, e6, g1, g2, g3, g4, g5⟩ := h6.list und_ints (intC .i64) (intQ .i64) (good_int und_int)
    refine ⟨⟨x0, x1, x2, x3, x4, x5, a, xs.length, c⟩, ?_, ⟨(wf_le q3).2, xs, rfl, g1, by rw [show xs.flatMap (intC .i64) = xs.map intI from flat1 intI xs] at g4; exact g4⟩⟩
    simp only [List.drop_zero, List.take_succ_cons, List.take_zero, List.drop_succ_cons, List.cons.injEq, and_true] at e0 e1 e2 e3 e4 e5 e6
    rw [e0, e1, e2, e3, e4, e5, e6]
    rfl
theorem ops_at {w w' : World} {a : Option Addr} {ops : List Op9} (h : Rd w a (ops.flatMap Op9.C)) (B : Below w.heap.size w w') {i : Nat} (hi : i < ops.length) : ∃ q, a = some q ∧ ∀ j v, (ops[i].C)[j]? = some v → w'.cell? ((q.add (i * 7)).add j) = some v :=
  rowW_at Op9.C_len (by omega) (h.grown B) hi
theorem LogOk.tight {L : LogP} {mx m : Int} (h : LogOk L mx) (hl : L.last ≤ m) : LogOk L m := ⟨h.term, h.vote, h.sidx, h.sterm, h.sdata, h.ents, hl⟩
theorem LawQ.tight {n : Nat} {mx m : Int} {L : LogP} {D : DiskC} {Y : List UInt8} (h : LawQ n mx L D Y) (hl : L.last ≤ m) : LawQ n m L D Y := ⟨h.ok.tight hl, h.ll, h.sz, h.fz, h.q, h.wh⟩
section
variable {w0 w : World} {H : List It} {W : WalC} {D : DiskC} {G : LogC}
theorem high_in {P : List It} (S : ST w0 w (P ++ walI W D.b (dkE D (logD G H)))) (hG : G.L = W.L) {mx : Int} (hL : LogOk W.L mx) (hmx : mx ≤ 2305843009213693952) :
    Calls Tryz.prog f.law19_high #[ptrV G.b] w (Ret fun v w' => ∃ r, v = .bool r ∧ (r = false → W.L.last ≤ 1152921504606846976) ∧ Below w.heap.size w w') := by
  refine (law19_high_ok (logR_in S) (by rw [hG]; exact hL.b (by omega))).mono ?_
  rintro _ w' ⟨_, rfl, r, rfl, hr, B⟩
  exact ⟨_, rfl, r, rfl, fun h => by rw [← hG]; exact hr h, B⟩
end
section
variable {w0 w : World} {H : List It} {D : DiskC}
theorem law19_goesOn_ok (S : ST w0 w (dkE D H)) {Y : List UInt8} {m B : Nat} (hq : WQ D m B (some Y)) (hm : m ≤ 50000) (hf : D.fused = false) (hB : B ≤ 3000000) (hroom : 16000000 ≤ D.room) {L : LogP} {mx : Int} (hL : LogOk L mx) (hmx : mx ≤ 2305843009213693952) (hX : FileP Y L) (hsz : sizeL L + 20000 ≤ B) (hYB : Y.length + 20000 ≤ B) :
    Calls Tryz.prog f.law19_goesOn #[ptrV D.b] w (Ret fun v w' => v = .bool true ∧ ST w0 w' H) := by
  have hfs := fresh_size hL (by omega)
  apply R.law19_goesOn_calls
  unfold R.law19_goesOn
  refine (wal_Open_ok S hq (by omega) hf (by omega) hL hmx (hX.says (by omega)) (by omega)).mono ?_
  rintro _ w1 ⟨_, rfl, W, D1, Y1, rfl, hWL, sm1, hq1, hw1, S1⟩
  refine ⟨_, _, rfl, IFB_ne (fun h => absurd rfl h) (fun _ => IFB_false ((wal_State_ok (walR_of S1)).mono ?_))⟩
  rintro _ w2 ⟨_, rfl, rfl, B2⟩
  have S2 := S1.grown B2
  refine ⟨_, _, rfl, S2.newB fun b8 w3 _ _ S3 => S3.sto 0 rfl (cs' := #[.int .i64 W.L.term, .int .i64 0]) (by simp) rfl fun w4 S4 => S4.sto 0 rfl (cs' := #[.int .i64 W.L.term, .int .i64 W.L.vote]) (by simp) rfl fun w5 S5 => ?_⟩
  have S5 : ST w0 w5 (It.cells b8 #[.int .i64 W.L.term, .int .i64 W.L.vote] 44 :: walI W D1.b (dkE D1 H)) := S5
  have hLW : LogOk W.L mx := by rw [hWL]; exact hL
  refine (wal_Last_ok (walR_of (S5.drop 1)) (hLW.b (by omega))).mono ?_
  rintro _ w6 ⟨_, rfl, rfl, B6⟩
  have S6 := S5.grown B6
  refine ⟨_, rfl, _, S6.cell 0 rfl rfl, IFB_dec (fun _ => ⟨rfl, (S6.drop 3).sub dkE_suffix⟩) (fun hbig => ⟨_, S6.cell 0 rfl rfl, ?_⟩)⟩
  have hbig : ¬ W.L.term > 4611686018427387904 := hbig
  have ht0 := hLW.term.1
  have e : IntKind.i64.wrap (W.L.term + 1) = W.L.term + 1 := wrap_i64 (by omega) (by omega)
  rw [e]
  have hY1 : Y1.length ≤ B := hq1.len
  have S6p := S6.perm (lift_perm (W := W) [It.cells b8 #[.int .i64 W.L.term, .int .i64 W.L.vote] 44] D1.b)
  refine (wal_SetState_ok S6p (hq1.mono (Nat.le_refl _) (show B ≤ B + 100 by omega)) (by omega) hLW (W.L.term + 1) 3 (by omega) (by omega)).mono ?_
  rintro _ w7 ⟨_, rfl, e7, D7, L7, rfl, sm7, h7, S7⟩
  have hs7 : setP W.L (W.L.term + 1) 3 = some { W.L with term := W.L.term + 1, vote := 3 } := by unfold setP; rw [if_neg (by omega)]
  rcases h7 with ⟨h, _⟩ | ⟨L7', hs, hr7, hL7⟩
  · rw [hs7] at h; cases h
  obtain rfl := Option.some.inj (hs7.symm.trans hs)
  have hf1 : D1.fused = false := by rw [sm1.fused]; exact hf
  have hr1 : 16000000 ≤ D1.room := by rw [sm1.room]; exact hroom
  have okp : (Pay.state (W.L.term + 1) 3).ok := ⟨⟨by omega, by omega⟩, ⟨by omega, by omega⟩⟩
  have hl7 : (flatR [Pay.state (W.L.term + 1) 3]).length ≤ 43 := by
    rw [flatR_one, Pay.rcd_len]
    have := (Pay.bytes_len okp).2
    have hz : (Pay.state (W.L.term + 1) 3).size = 0 := rfl
    omega
  obtain ⟨rfl, hq7⟩ := hr7.sure (hq1.mono (Nat.le_refl _) (show B ≤ B + 100 by omega)) hf1 (by omega)
  rw [if_pos rfl] at hL7
  subst hL7
  have hw7 : WholeF (Y1 ++ flatR [Pay.state (W.L.term + 1) 3]) { W.L with term := W.L.term + 1, vote := 3 } := by
    rw [← hWL] at hw1
    exact hw1.more (qs := [Pay.state (W.L.term + 1) 3]) (fun p hp => by rw [List.mem_singleton.1 hp]; exact okp) (setP_play hs7).1
  have okL7 : LogOk { W.L with term := W.L.term + 1, vote := 3 } mx := setP_ok hLW (by omega) hs7
  have eb : D7.b = D.b := sm7.b.trans sm1.b
  have S7c := S7.perm (lift_perm (W := { W with L := { W.L with term := W.L.term + 1, vote := 3 } }) (D := D7) (H := H) [It.cells b8 #[.int .i64 W.L.term, .int .i64 W.L.vote] 44] D7.b).symm
  have S7p : ST w0 w7 (dkE D7 ([It.cells b8 #[.int .i64 W.L.term, .int .i64 W.L.vote] 44] ++ walI { W with L := { W.L with term := W.L.term + 1, vote := 3 } } D7.b H)) := by
    refine S7c.perm ?_
    exact (List.Perm.append_left [It.cells b8 #[.int .i64 W.L.term, .int .i64 W.L.vote] 44] (wd_perm D7 D7.b)).trans (dkE_perm D7 [It.cells b8 #[.int .i64 W.L.term, .int .i64 W.L.vote] 44] _).symm
  refine ⟨_, rfl, ?_⟩
  rw [← eb]
  refine (crash_ok (ka := none) (kc := 0) S7p hq7.wd.ok (by omega) 0 [] (fun w' _ => Rd.nil _ _) (Nat.le_refl _)).mono ?_
  rintro _ w8 ⟨_, rfl, gs, D8, rfl, S8, h8⟩
  obtain ⟨X, rfl, hq8, hf8, hroom8⟩ := CrashTo.crash hq7.wd (files_nd S7p) (files_nd S8) hq7.crash h8
  have S8 : ST w0 w8 (dkE D8 ([It.cells b8 #[.int .i64 W.L.term, .int .i64 W.L.vote] 44] ++ H)) := S8.sub (dkE_mono (((List.Sublist.refl [It.cells b8 #[.int .i64 W.L.term, .int .i64 W.L.vote] 44]).append (((List.Sublist.refl H).cons _).cons _)).trans dkE_suffix))
  have hfs7 : (flatR (freshR { W.L with term := W.L.term + 1, vote := 3 })).length ≤ B + 100 := by
    have h := fresh_size okL7 (by omega)
    have : sizeL { W.L with term := W.L.term + 1, vote := 3 } = sizeL W.L := rfl
    have h2 : sizeL W.L = sizeL L := by rw [hWL]
    rw [this] at h
    omega
  refine ⟨_, rfl, (wal_Open_ok S8 hq8 (by omega) hf8 (by omega) okL7 hmx (hw7.says _) hfs7).mono ?_⟩
  rintro _ w9 ⟨_, rfl, W9, D9, Y9, rfl, hL9, sm9, hq9, hw9, S9⟩
  have S9c : ST w0 w9 ([It.cells b8 #[.int .i64 W.L.term, .int .i64 W.L.vote] 44] ++ walI W9 D9.b (dkE D9 H)) := S9.perm (lift_perm (W := W9) (D := D9) (H := H) [It.cells b8 #[.int .i64 W.L.term, .int .i64 W.L.vote] 44] D9.b).symm
  refine ⟨_, _, rfl, S9c.draw fun w10 _ S10 => IFB_eq (fun _ => IFB_eq (fun _ => IFB_true ⟨_, S10.cell 0 rfl rfl, (wal_State_ok (walR_of (S10.drop 1))).mono ?_⟩) (fun h => absurd rfl h)) (fun h => absurd rfl h)⟩
  rintro _ w11 ⟨_, rfl, rfl, B11⟩
  have S11 := S10.grown B11
  refine ⟨_, _, rfl, S11.cell 0 rfl rfl, ?_⟩
  rw [e, hL9]
  have hc : ((W.L.term + 1 == W.L.term + 1) && (((3 : Int) == 3) && true)) = true := by simp
  rw [hc]
  refine IFB_true ((wal_Last_ok (walR_of (S11.drop 1)) (by rw [hL9]; exact okL7.b (by omega))).mono ?_)
  rintro _ w12 ⟨_, rfl, rfl, B12⟩
  refine ⟨_, rfl, ?_, ((S11.grown B12).drop 3).sub dkE_suffix⟩
  rw [hL9]
  have : (LogP.last { W.L with term := W.L.term + 1, vote := 3 } == W.L.last) = true := by
    have : LogP.last { W.L with term := W.L.term + 1, vote := 3 } = W.L.last := rfl
    rw [this]
    simp
  rw [this]
end
theorem entsOf_cut (L : LogP) (x : Op9) {j : Nat} (hj : j ≤ manyN x) : entsOf L { x with many := (j : Int) } = (entsOf L x).take j := by
  have h1 := manyN_le x
  have h2 : manyN { x with many := (j : Int) } = j := by unfold manyN; show (if (j : Int) < 20 then (j : Int) else 20).toNat = j; split <;> omega
  unfold entsOf
  rw [h2, ← List.map_take, List.take_range, Nat.min_eq_left hj]
  rfl
section
variable {w : World} {N G : LogC}
theorem law19_among_ok (hN : LogR w N) (hG : LogR w G) {mx : Int} (hL : LogOk G.L mx) (hmx : mx ≤ 1152921504606846976) (hln : G.L.l.length ≤ 700000) (hlN : N.L.l.length ≤ 1000000) (x : Op9) (hx : x.term ≤ 9223372036854775807) (hk : kind5 x.k ≠ 4) {L' : LogP} (hs : stepM G.L x = some L') (hmid : Mid G.L x L' N.L) :
    Calls Tryz.prog f.law19_among #[ptrV N.b, ptrV G.b, .agg x.cells] w (Ret fun v w' => v = .bool true ∧ Below w.heap.size w w') := by
  apply R.law19_among_calls
  unfold R.law19_among
  refine (ST.start w).newB fun b10 w1 _ B1 S1 => (ref19_Same_ok (hN.grown B1) (hG.grown B1) hlN).mono ?_
  rintro _ w2 ⟨_, rfl, r, rfl, hr, B2⟩
  have S2 := S1.grown B2
  refine ⟨_, rfl, IFB_of (fun _ => ⟨rfl, S2.bel⟩) (fun hrf => ?_)⟩
  have hne : N.L ≠ G.L := fun h => by rw [hr h] at hrf; cases hrf
  -- the number of entries at which it is found
  obtain ⟨j, hj20, hjs⟩ : ∃ j : Nat, j ≤ 20 ∧ (j : Int) ≤ (if (20 : Int) < x.many then 20 else max x.many 0) ∧ stepM G.L { x with many := (if (j : Int) < x.many then (j : Int) else x.many) } = some N.L := by
    have hm := manyN_le x
    by_cases h1 : kind5 x.k = 1
    · have hj : ∃ j, j ≤ manyN x ∧ appP G.L ((entsOf G.L x).take j) = some N.L := by
        rcases hmid with h | h | ⟨_, h⟩
        · exact absurd h hne
        · refine ⟨manyN x, Nat.le_refl _, ?_⟩
          rw [List.take_of_length_le (by rw [entsOf_len]; omega), h, ← hs]
          unfold stepM
          rw [if_neg (by omega), if_pos h1]
        · exact h
      obtain ⟨j, hj, hA⟩ := hj
      have hle : (j : Int) ≤ (if (20 : Int) < x.many then 20 else max x.many 0) := by
        unfold manyN at hj
        split at hj <;> split <;> omega
      refine ⟨j, by omega, hle, ?_⟩
      have hst : ∀ y : Op9, y.k = x.k → stepM G.L y = appP G.L (entsOf G.L y) := fun y hy => by unfold stepM; rw [hy, if_neg (by omega), if_pos h1]
      by_cases hjm : (j : Int) < x.many
      · rw [if_pos hjm, hst { x with many := (j : Int) } rfl, entsOf_cut G.L x hj]
        exact hA
      · rw [if_neg hjm]
        have hje : manyN x ≤ j := by unfold manyN; split <;> omega
        have : (entsOf G.L x).take j = entsOf G.L x := List.take_of_length_le (by rw [entsOf_len]; omega)
        rw [this] at hA
        rw [hst _ rfl]
        exact hA
    · refine ⟨0, by omega, by split <;> omega, ?_⟩
      have hA : N.L = L' := by
        rcases hmid with h | h | ⟨h, _⟩
        · exact absurd h hne
        · exact h
        · exact absurd h h1
      rw [hA, ← hs]
      unfold stepM
      rw [if_neg h1, if_neg h1]
  refine ⟨fun st w3 => ∃ n : Nat, st = [.int .i64 (n : Int)] ∧ n ≤ j ∧ ST w w3 [It.cells b10 x.cells ty.law19_Op], fun st _ => match st with
    | [.int _ i] => 21 - i.toNat
    | _ => 0, ⟨0, rfl, Nat.zero_le _, S2⟩, ?_⟩
  rintro _ w3 ⟨n, hst, hn, S3⟩
  cases hst
  refine IFB_dec (fun _ => ?_) (fun h => absurd (show (n : Int) ≤ 20 by omega) h)
  refine (ref19_Clone_ok (hG.grown S3.bel) (by omega)).mono ?_
  rintro _ w4 ⟨_, rfl, G1, rfl, hG1, T4⟩
  have S4 := S3.join T4
  refine ⟨_, rfl, _, S4.cell 2 rfl rfl, _, S4.cell 2 rfl rfl, _, S4.cell 2 rfl rfl, _, S4.cell 2 rfl rfl, _, S4.cell 2 rfl rfl, _, S4.cell 2 rfl rfl, _, _, _, S4.cell 2 rfl rfl, S4.newB fun b24 w5 _ _ S5 => S5.sto7 0 rfl fun w12 S12 => ⟨_, S12.cell 3 rfl rfl, ?_⟩⟩
  obtain ⟨z, hz⟩ : ∃ z : Op9, z = { x with many := (if (n : Int) < x.many then (n : Int) else x.many) } := ⟨_, rfl⟩
  refine S12.sto 0 rfl (cs' := z.cells) (by show 2 < 7; omega) (by rw [hz]; rfl) fun w13 S13 => ?_
  refine ⟨_, S13.cell 0 rfl rfl, _, S13.cell 0 rfl rfl, _, S13.cell 0 rfl rfl, _, S13.cell 0 rfl rfl, _, S13.cell 0 rfl rfl, _, S13.cell 0 rfl rfl, _, _, _, S13.cell 0 rfl rfl, ?_⟩
  have S13 : ST w w13 ([It.cells b24 z.cells ty.law19_Op] ++ logI G1 [It.cells b10 x.cells ty.law19_Op]) := S13
  have S13p : ST w w13 (logI G1 [It.cells b24 z.cells ty.law19_Op, It.cells b10 x.cells ty.law19_Op]) := S13.perm ((List.perm_middle (l₁ := [It.cells b24 z.cells ty.law19_Op])).trans (List.Perm.cons _ (List.perm_middle (l₁ := [It.cells b24 z.cells ty.law19_Op]))))
  refine (law19_model_ok S13p (by rw [hG1]; exact hL) (by omega) (by rw [hG1]; omega) z (by rw [hz]; exact hx)).mono ?_
  rintro _ w14 ⟨_, rfl, e, la, lc, L2, rfl, hr2, S14⟩
  rw [hG1] at hr2
  have go : ∀ w', n < j → ST w w' [It.cells b10 x.cells ty.law19_Op] → (∃ k : Nat, [Value.int .i64 (IntKind.i64.wrap ((n : Int) + 1))] = [.int .i64 (k : Int)] ∧ k ≤ j ∧ ST w w' [It.cells b10 x.cells ty.law19_Op]) ∧ 21 - (IntKind.i64.wrap ((n : Int) + 1)).toNat < 21 - ((n : Nat) : Int).toNat := fun w' hnj S' => by
    rw [wrap_succ (by omega)]
    exact ⟨⟨n + 1, rfl, by omega, S'⟩, by simp only [Int.toNat_natCast]; omega⟩
  have hfound : n = j → e = 0 ∧ L2 = N.L := fun hnj => by
    subst hnj
    rw [← hz] at hjs
    rcases hr2 with ⟨h, _⟩ | ⟨h, he⟩
    · rw [h] at hjs; cases hjs.2
    · exact ⟨he, Option.some.inj (h.symm.trans hjs.2)⟩
  have hgo : n ≠ j → n < j := fun h => by omega
  refine ⟨_, rfl, IFB_eq (fun he => ?_) (fun he => go _ (hgo fun h => he (hfound h).1) (S14.drop 3))⟩
  refine (ref19_Same_ok (hN.grown S14.bel) (logRD_of S14) hlN).mono ?_
  rintro _ w15 ⟨_, rfl, r2, rfl, hr2', B15⟩
  refine ⟨_, rfl, IFB_of (fun _ => ⟨rfl, (S14.grown B15).bel⟩) (fun hr2f => go _ (hgo fun h => ?_) ((S14.grown B15).drop 3))⟩
  rw [hr2' (hfound h).2.symm] at hr2f
  cases hr2f
end
theorem dkE_permE {D : DiskC} {E E' : List It} (e : E.Perm E') : (dkE D E).Perm (dkE D E') := by
  unfold dkE
  exact ((((((e.append_left _).append_left _).cons _).cons _).cons _).cons _)
theorem mid_ok {L L' A : LogP} {mx : Int} {x : Op9} (hL : LogOk L mx) (ht : x.term ≤ 9223372036854775807) (hd : x.data.size ≤ 500) (hs : stepM L x = some L') (h : Mid L x L' A) : LogOk A (mx + 100) ∧ A.l.length ≤ L.l.length + 20 ∧ sizeL A ≤ sizeL L + 12000 := by
  rcases h with rfl | rfl | ⟨h1, j, hj, hA⟩
  · exact ⟨hL.mono (by omega), by omega, by omega⟩
  · exact stepM_ok hL ht hd hs
  · refine stepM_ok (x := { x with many := (j : Int) }) hL ht hd ?_
    unfold stepM
    rw [if_neg (show ¬ kind5 x.k = 0 by omega), if_pos h1, entsOf_cut L x hj]
    exact hA
def EndQ (L : LogP) (x : Op9) (e : Int) (A : LogP) : Prop := (e = 0 ∧ stepM L x = some A) ∨ (e = 2 ∧ stepM L x = none ∧ A = L) ∨ (e = 183 ∧ ∃ L', stepM L x = some L' ∧ Mid L x L' A)
theorem DoesR.ends {D D' : DiskC} {m B : Nat} {Y : List UInt8} {L L2 : LogP} {x : Op9} {e : Int} (h : DoesR D m B Y L x e D' L2) (hq : WQ D m B (some Y)) (hw : WholeF Y L) (hroom : 3 * B ≤ D.room) :
    WDk D' (m + 10) B ∧ CrashTo D' fun Z => ∃ Y' A, Z = some Y' ∧ FileP Y' A ∧ EndQ L x e A := by
  rcases h with ⟨hs, rfl, rfl, _⟩ | ⟨L', hs, ⟨rfl, _, Y', hw', hq'⟩ | ⟨_, _, hl, _⟩ | ⟨rfl, _, _, wd, hc⟩⟩
  · exact ⟨hq.wd.mono (by omega) (Nat.le_refl _), hq.crash.mono fun Z hZ => ⟨Y, L, hZ, hw.file, .inr (.inl ⟨rfl, hs, rfl⟩)⟩⟩
  · exact ⟨hq'.wd, hq'.crash.mono fun Z hZ => ⟨Y', L', hZ, hw'.file, .inl ⟨rfl, hs⟩⟩⟩
  · omega
  · exact ⟨wd, hc.mono fun Z hZ => by
      obtain ⟨Y', A, h1, h2, h3⟩ := hZ
      exact ⟨Y', A, h1, h2, .inr (.inr ⟨rfl, L', hs, h3⟩)⟩⟩
theorem EndQ.ok {L A : LogP} {mx : Int} {x : Op9} {e : Int} (h : EndQ L x e A) (hL : LogOk L mx) (ht : x.term ≤ 9223372036854775807) (hd : x.data.size ≤ 500) : LogOk A (mx + 100) ∧ A.l.length ≤ L.l.length + 20 ∧ sizeL A ≤ sizeL L + 12000 := by
  rcases h with ⟨_, hs⟩ | ⟨_, _, rfl⟩ | ⟨_, L', hs, hm⟩
  · exact stepM_ok hL ht hd hs
  · exact ⟨hL.mono (by omega), by omega, by omega⟩
  · exact mid_ok hL ht hd hs hm
theorem open_op9 {H : Type} {enc : TypeId × Value → H} {W : World} {base b : Nat} {sp : Nat → Bool} {held : Bool} {v : Value} {d : DataW H} {p : List MemPlace} (hv : Value.okWide Tryz.prog W .any base ty.law19_Op v) (h : DataW.Trod enc Tryz.prog W b sp held ty.law19_Op v d p) :
    ∃ x : Op9, v = .agg x.cells ∧ OpQ9 W x := by
  obtain ⟨cs, rfl⟩ := okWide_agg und_op9 hv
  obtain ⟨n, hn⟩ := h
  have hg := good_of_trod n _ _ _ hn
  obtain ⟨x, hx, hq⟩ := good_stackyardlaw19_Op n _ (hg.fields und_op9).1 hg
  refine ⟨x, ?_, hq⟩
  have : cs = x.cells := by
    have h2 : cs.toList = x.C := hx
    have h3 : x.cells = ⟨x.C⟩ := rfl
    rw [h3, ← h2]
  rw [this]
section
variable {w0 w : World} {H : List It} {W : WalC} {D : DiskC} {G : LogC}
theorem fused_q {m B : Nat} {X : Option (List UInt8)} (h : WQ D m B X) {n : Int} (h0 : 0 ≤ n) (h1 : n ≤ 9223372036854775807) : WQ { D with fused := true, fuse := n } m B X :=
  ⟨⟨fused_ok h.wd.ok h0 h1, h.wd.ln, h.wd.two, h.wd.len⟩, h.off, h.same, h.cur⟩
theorem WalLasts_ok {w : World} (he : NoEnv w) (a : Option Addr) (ops : List Op9) (c : Nat) (g : GL w Op9.C (OpQ9 w) a ops c) (y : c * Tryz.prog.bytesOf ty.law19_Op ≤ reachBytes) (x0 : Op9) (hq0x : OpQ9 w x0) (fuse : Int) (wf : (Lit.int .i64 fuse).wf = true) (dir : Int) (wd : (Lit.int .i64 dir).wf = true)
    (ka : Option Addr) (keeps : List Int) (kc : Nat) (gk : GL w (intC .i64) (intQ .i64) ka keeps kc) (yk : kc * Tryz.prog.bytesOf ty.int ≤ reachBytes) :
    Calls Tryz.prog f.law19_WalLasts #[.slice a ops.length c, .agg x0.cells, .int .i64 fuse, .int .i64 dir, .slice ka keeps.length kc] w (Ret fun v w' => v = .bool true ∧ Below w.heap.size w w') := by
  have hrd := g.2.2.2.1
  have hqs := g.2.2.2.2
  have hxl : ops.length ≤ 9223372036854775807 := Nat.le_trans (Nat.le_trans g.1 g.2.1) (by decide)
  obtain ⟨hk, hkc⟩ := ints_arg gk
  apply R.law19_WalLasts_calls
  unfold R.law19_WalLasts
  refine (ST.start w).newB fun b12 w1 _ _ S1 => (law19_shown_ok w1).mono ?_
  have S1 : ST w w1 [It.cells b12 x0.cells ty.law19_Op] := S1
  rintro _ w2 ⟨_, rfl, rfl, B2⟩
  refine ⟨_, rfl, (law19_opened_ok (S1.grown B2) 16000000 (by omega) (by omega)).mono ?_⟩
  rintro _ w3 ⟨_, rfl, D0, W0, Y0, rfl, hL0, hroom, hf0, hq0, hw0, S3⟩
  refine ⟨_, _, _, rfl, IFB_false (S3.newB fun b19 w4 _ _ S4 => ?_)⟩
  have S4 := start_in (b := b19) S4
  have hz0 : sizeL zeroL = 100 := rfl
  have Q0 : LawQ 0 1152921504606847076 W0.L D0 Y0 := ⟨by rw [hL0]; exact zero_ok.mono (by omega), by rw [hL0]; exact Nat.le_refl _, by rw [hL0, hz0]; omega, hf0, hq0.mono (by omega) (by omega), by rw [hL0]; exact hw0⟩
  refine ⟨fun st w19 => ∃ (n : Nat) (G : LogC) (W : WalC) (D : DiskC) (Y : List UInt8), st = [ptrV G.b] ∧ n ≤ 30 ∧ W.b = W0.b ∧ D.b = D0.b ∧ (D.room : Int) = 16000000 ∧ G.L = W.L ∧ LawQ n 1152921504606847076 W.L D Y ∧ ST w w19 (walI W D.b (dkE D (logD G [It.cells b12 x0.cells ty.law19_Op]))), ?_, ?_⟩
  · refine ⟨fun st w5 => ∃ (i n : Nat) (G : LogC) (W : WalC) (D : DiskC) (Y : List UInt8), st = [ptrV G.b, .int .i64 (i : Int)] ∧ i ≤ ops.length ∧ i ≤ 30 ∧ n ≤ i ∧ W.b = W0.b ∧ D.b = D0.b ∧ (D.room : Int) = 16000000 ∧ G.L = W.L ∧ LawQ n 1152921504606847076 W.L D Y ∧ ST w w5 (walI W D.b (dkE D (logD G [It.cells b12 x0.cells ty.law19_Op]))), fun st _ => match st with
      | [_, .int _ i] => ops.length - i.toNat
      | _ => 0, ⟨0, 0, newG b19, W0, D0, Y0, rfl, Nat.zero_le _, by omega, Nat.le_refl _, rfl, rfl, hroom, hL0.symm, Q0, S4⟩, ?_⟩
    rintro _ _ w5 ⟨i, n, G, W, D, Y, hst, hi, hi2, hni, hWb, hDb, hR, hG, Q, S5⟩
    cases hst
    have fin : ∃ (n : Nat) (G' : LogC) (W : WalC) (D : DiskC) (Y : List UInt8), [ptrV G.b] = [ptrV G'.b] ∧ n ≤ 30 ∧ W.b = W0.b ∧ D.b = D0.b ∧ (D.room : Int) = 16000000 ∧ G'.L = W.L ∧ LawQ n 1152921504606847076 W.L D Y ∧ ST w w5 (walI W D.b (dkE D (logD G' [It.cells b12 x0.cells ty.law19_Op]))) := ⟨n, G, W, D, Y, rfl, by omega, hWb, hDb, hR, hG, Q, S5⟩
    refine IFB_dec (fun hlt => IFB_dec (fun h30 => ?_) (fun _ => fin)) (fun _ => fin)
    have hil : i < ops.length := by omega
    obtain ⟨q, rfl, hc⟩ := ops_at hrd S5.bel hil
    have hqi := hqs _ (List.getElem_mem hil)
    refine ⟨⟨by omega, hlt⟩, _, by rw [Int.toNat_natCast]; have := hc 0 _ rfl; rw [addr_add_zero] at this; exact this, _, by rw [Int.toNat_natCast]; exact hc 1 _ rfl, _, by rw [Int.toNat_natCast]; exact hc 2 _ rfl, _, by rw [Int.toNat_natCast]; exact hc 3 _ rfl, _, by rw [Int.toNat_natCast]; exact hc 4 _ rfl, _, by rw [Int.toNat_natCast]; exact hc 5 _ rfl, _, _, _, by rw [Int.toNat_natCast]; exact hc 6 _ rfl, ?_⟩
    refine (law19_cut_ok S5 ops[i]).mono ?_
    rintro _ w6 ⟨_, rfl, ⟨s, hs, rfl⟩, S6⟩
    obtain ⟨x, hxe⟩ : ∃ x : Op9, x = { ops[i] with data := s } := ⟨_, rfl⟩
    have hxt : x.term ≤ 9223372036854775807 := by rw [hxe]; exact hqi.term
    have hxd : x.data.size ≤ 500 := by rw [hxe]; exact hs
    refine ⟨_, _, _, _, _, _, _, _, _, rfl, S6.newB fun b39 w7 _ _ S7 => S7.sto7 0 rfl fun w14 S14 => ?_⟩
    have S14 : ST w w14 ([It.cells b39 x.cells ty.law19_Op] ++ walI W D.b (dkE D (logD G [It.cells b12 x0.cells ty.law19_Op]))) := by rw [hxe]; exact S14
    refine (high_in S14 hG Q.ok (by omega)).mono ?_
    rintro _ w15 ⟨_, rfl, r, rfl, hr, B15⟩
    have S15 := S14.grown B15
    refine ⟨_, rfl, IFB_of (fun _ => ⟨rfl, S15.bel⟩) (fun hrf => ⟨_, S15.cell 0 rfl rfl, ?_⟩)⟩
    have Q := Q.tight (hr hrf)
    have hll := Q.ll
    have hdec : ops.length - ((i + 1 : Nat) : Int).toNat < ops.length - ((i : Nat) : Int).toNat := by simp only [Int.toNat_natCast]; omega
    rw [wrap_succ (by omega)]
    show IFB (kind5 x.k != 4) _ _
    refine IFB_ne (fun h4 => ?_) (fun h4 => ⟨⟨i + 1, n, G, W, D, Y, rfl, by omega, by omega, by omega, hWb, hDb, hR, hG, ⟨Q.ok.mono (by omega), Q.ll, Q.sz, Q.fz, Q.q, Q.wh⟩, S15.drop 1⟩, hdec⟩)
    refine (clone_in S15 (by rw [hG]; omega)).mono ?_
    rintro _ w16 ⟨_, rfl, G1, rfl, hG1, S16⟩
    refine ⟨_, rfl, _, S16.cell 2 rfl rfl, _, S16.cell 2 rfl rfl, _, S16.cell 2 rfl rfl, _, S16.cell 2 rfl rfl, _, S16.cell 2 rfl rfl, _, S16.cell 2 rfl rfl, _, _, _, S16.cell 2 rfl rfl, ?_⟩
    refine (law19_model_ok S16 (by rw [hG1, hG]; exact Q.ok) (by omega) (by rw [hG1, hG]; omega) x hxt).mono ?_
    rintro _ w17 ⟨_, rfl, e1, la, lc, L1, rfl, hrf1, S17⟩
    rw [hG1, hG] at hrf1
    refine ⟨_, rfl, _, S17.cell 2 rfl rfl, _, S17.cell 2 rfl rfl, _, S17.cell 2 rfl rfl, _, S17.cell 2 rfl rfl, _, S17.cell 2 rfl rfl, _, S17.cell 2 rfl rfl, _, _, _, S17.cell 2 rfl rfl, ?_⟩
    rw [← hWb]
    refine (call_in S17 Q hG (by omega) (by omega) hxt hxd).mono ?_
    rintro _ w18 ⟨_, rfl, e, D', la2, lc2, L2, rfl, sm, hdo, S18⟩
    refine ⟨_, rfl, ?_⟩
    rcases Q.step hxt hxd hrf1 hdo sm with ⟨rfl, _, rfl, Y', hQ'⟩ | ⟨_, _, _, htight, _⟩
    · exact ⟨⟨i + 1, n + 1, { G1 with la := la, lc := lc, L := L1 }, { W with la := la2, lc := lc2, L := L1 }, D', Y', rfl, by omega, by omega, by omega, rfl, sm.b.trans hDb, by rw [sm.room]; exact hR, rfl, hQ', (take_new S18).drop 1⟩, hdec⟩
    · omega
  · rintro _ w19 ⟨n, G, W, D, Y, hst, hn, hWb, hDb, hR, hG, Q, S19⟩
    cases hst
    have S19 : ST w w19 ([It.cells b12 x0.cells ty.law19_Op] ++ walI W D.b (dkE D (logD G []))) := by
      have e1 : (logD G [It.cells b12 x0.cells ty.law19_Op]).Perm ([It.cells b12 x0.cells ty.law19_Op] ++ logD G []) := List.perm_append_comm (l₁ := [It.cells G.b G.cells ty.ref19_Log, It.rd G.la (G.L.l.flatMap entC)]) (l₂ := [It.cells b12 x0.cells ty.law19_Op])
      exact (S19.perm (((dkE_permE e1).cons _).cons _)).perm (lift_perm [It.cells b12 x0.cells ty.law19_Op] D.b).symm
    refine ⟨_, S19.cell 0 rfl rfl, _, S19.cell 0 rfl rfl, _, S19.cell 0 rfl rfl, _, S19.cell 0 rfl rfl, _, S19.cell 0 rfl rfl, _, S19.cell 0 rfl rfl, _, _, _, S19.cell 0 rfl rfl, (law19_cut_ok S19 x0).mono ?_⟩
    rintro _ w20 ⟨_, rfl, ⟨s, hs, rfl⟩, S20⟩
    obtain ⟨x, hxe⟩ : ∃ x : Op9, x = { x0 with data := s } := ⟨_, rfl⟩
    have hxt : x.term ≤ 9223372036854775807 := by rw [hxe]; exact hq0x.term
    have hxd : x.data.size ≤ 500 := by rw [hxe]; exact hs
    refine ⟨_, _, _, _, _, _, _, _, _, rfl, S20.sto7 0 rfl fun w27 S27 => ?_⟩
    have S27 : ST w w27 ([It.cells b12 x.cells ty.law19_Op] ++ walI W D.b (dkE D (logD G []))) := by rw [hxe]; exact S27
    refine (high_in S27 hG Q.ok (by omega)).mono ?_
    rintro _ w28 ⟨_, rfl, r, rfl, hr, B28⟩
    have S28 := S27.grown B28
    refine ⟨_, rfl, IFB_of (fun _ => ⟨rfl, S28.bel⟩) (fun hrf => IFB_dec (fun _ => ⟨rfl, S28.bel⟩) (fun hfu => ⟨_, S28.cell 0 rfl rfl, ?_⟩))⟩
    have Q := Q.tight (hr hrf)
    have hll := Q.ll
    have hsz := Q.sz
    have hYl := Q.q.len
    show IFB (kind5 x.k == 4) _ _
    refine IFB_eq (fun _ => ⟨rfl, S28.bel⟩) (fun hk4 => ?_)
    refine (clone_in S28 (by rw [hG]; omega)).mono ?_
    rintro _ w29 ⟨_, rfl, G1, rfl, hG1, S29⟩
    refine ⟨_, rfl, _, S29.cell 2 rfl rfl, _, S29.cell 2 rfl rfl, _, S29.cell 2 rfl rfl, _, S29.cell 2 rfl rfl, _, S29.cell 2 rfl rfl, _, S29.cell 2 rfl rfl, _, _, _, S29.cell 2 rfl rfl, ?_⟩
    refine (law19_model_ok S29 (by rw [hG1, hG]; exact Q.ok) (by omega) (by rw [hG1, hG]; omega) x hxt).mono ?_
    rintro _ w30 ⟨_, rfl, e1, la, lc, L1, rfl, hrf1, S30⟩
    rw [hG1, hG] at hrf1
    obtain ⟨G2, hG2⟩ : ∃ G2 : LogC, G2 = { G1 with la := la, lc := lc, L := L1 } := ⟨_, rfl⟩
    have hG2b : G2.b = G1.b := by rw [hG2]
    have hG2L : G2.L = L1 := by rw [hG2]
    rw [← hG2] at S30
    -- the fuse
    obtain ⟨X0, hX0⟩ : ∃ X0 : List It, X0 = [It.cells G2.b G2.cells ty.ref19_Log, It.rd G2.la (G2.L.l.flatMap entC), It.cells b12 x.cells ty.law19_Op] := ⟨_, rfl⟩
    have S30x : ST w w30 (X0 ++ walI W D.b (dkE D (logD G []))) := by rw [hX0]; exact S30
    have toD : ∀ (D : DiskC) (W : WalC), (X0 ++ walI W D.b (dkE D (logD G []))).Perm (dkE D (X0 ++ walI W D.b (logD G []))) := fun D W =>
      (List.Perm.append_left X0 (wd_perm D D.b)).trans (dkE_perm D X0 _).symm
    rw [← hDb]
    refine ⟨_, rfl, (fuse_ok (S30x.perm (toD D W)) fuse).mono ?_⟩
    rintro _ w31 ⟨_, rfl, rfl, S31⟩
    have hfp : fusePre D fuse = 0 := by unfold fusePre; rw [Q.q.off, if_neg (by decide), if_neg hfu]
    rw [hfp, if_pos rfl] at S31
    have hfu2 := (wf_le wf).2
    obtain ⟨D2, hD2⟩ : ∃ D2 : DiskC, D2 = { D with fused := true, fuse := fuse } := ⟨_, rfl⟩
    have hq2 : WQ D2 (20 + 20 * n) (200 + 12000 * (n + 1)) (some Y) := by rw [hD2]; exact fused_q (Q.q.mono (Nat.le_refl _) (by omega)) (by omega) hfu2
    have hD2b : D2.b = D.b := by rw [hD2]
    have hD2r : D2.room = D.room := by rw [hD2]
    rw [← hD2, ← hD2b] at S31
    have S31 := S31.perm (toD D2 W).symm
    rw [hX0] at S31
    refine ⟨_, rfl, _, S31.cell 2 rfl rfl, _, S31.cell 2 rfl rfl, _, S31.cell 2 rfl rfl, _, S31.cell 2 rfl rfl, _, S31.cell 2 rfl rfl, _, S31.cell 2 rfl rfl, _, _, _, S31.cell 2 rfl rfl, ?_⟩
    have lpW : ∀ (D : DiskC) (W : WalC), (X0 ++ walI W D.b (dkE D (logD G []))).Perm (walI W D.b (dkE D (X0 ++ logD G []))) := fun D W => lift_perm X0 D.b
    have S31x : ST w w31 (X0 ++ walI W D2.b (dkE D2 (logD G []))) := by rw [hX0]; exact S31
    rw [← hWb]
    refine (law19_call_ok (S31x.perm (lpW D2 W)) hq2 Q.wh (by omega) Q.ok (by omega) (by omega) hG (by simp [logD]) (by simp [logD]) x hxt hxd (by omega) (by omega) (by omega)).mono ?_
    rintro _ w32 ⟨_, rfl, e, D3, la3, lc3, L3, rfl, sm3, hdo, S32⟩
    obtain ⟨W3, hW3⟩ : ∃ W3 : WalC, W3 = { W with la := la3, lc := lc3, L := L3 } := ⟨_, rfl⟩
    rw [← hW3] at S32
    obtain ⟨wd3, hc3⟩ := hdo.ends hq2 Q.wh (by omega)
    have S32p := (S32.perm (lpW D3 W3).symm).perm (toD D3 W3)
    have hD3b : D3.b = D.b := sm3.b.trans hD2b
    have hD3r : D3.room = D.room := sm3.room.trans hD2r
    have hcr := crash_ok S32p wd3.ok (by omega) dir keeps (fun w' S' => hk.grown S'.bel) hkc
    rw [hD3b] at hcr
    refine ⟨_, rfl, hcr.mono ?_⟩
    rintro _ w33 ⟨_, rfl, gs, D4, rfl, S33, h4⟩
    rw [← hD3b] at S33
    obtain ⟨X, ⟨Y4, A, rfl, hFA, hEA⟩, hq4, hf4, hroom4⟩ := CrashTo.crash wd3 (files_nd S32p) (files_nd S33) hc3 h4
    obtain ⟨okA, llA, szA⟩ := hEA.ok Q.ok hxt hxd
    have hfsA := fresh_size okA (by omega)
    refine ⟨_, rfl, (wal_Open_ok S33 hq4 (by omega) hf4 (by omega) okA (by omega) (hFA.says (by omega)) (by omega)).mono ?_⟩
    rintro _ w34 ⟨_, rfl, V, D5, Y5, rfl, hVL, sm5, hq5, hw5, S34⟩
    refine ⟨_, _, rfl, IFB_ne (fun h => absurd rfl h) (fun _ => IFB_false ((law19_told_ok (walR_of S34) (by rw [hVL]; exact okA) (by omega) (by rw [hVL]; omega)).mono ?_))⟩
    rintro _ w35 ⟨_, rfl, N, rfl, hNL, T35⟩
    obtain ⟨E3, hE3⟩ : ∃ E3 : List It, E3 = X0 ++ walI W3 D3.b (logD G []) := ⟨_, rfl⟩
    rw [← hE3] at S34
    have S35 : ST w w35 (logI N (dkE D3 E3)) := (S34.join T35).sub ((((dkE_suffix (D := D5) (E := dkE D3 E3)).cons _).cons _).cons_cons _ |>.cons_cons _)
    have S35p := S35.perm (dkE_perm D3 [It.cells N.b N.cells ty.ref19_Log, rowE N.la N.lc N.L.l] E3).symm
    have hcr2 := crash_ok S35p wd3.ok (by omega) dir keeps (fun w' S' => hk.grown S'.bel) hkc
    rw [hD3b] at hcr2
    refine ⟨_, _, rfl, hcr2.mono ?_⟩
    rintro _ w36 ⟨_, rfl, gs6, D6, rfl, S36, h6⟩
    obtain ⟨X6, ⟨Y6, A6, rfl, hFA6, hEA6⟩, hq6, hf6, hroom6⟩ := CrashTo.crash wd3 (files_nd S35p) (files_nd S36) hc3 h6
    obtain ⟨okA6, llA6, szA6⟩ := hEA6.ok Q.ok hxt hxd
    have hY6 := hq6.len
    refine ⟨_, rfl, (law19_goesOn_ok (B := 3000000) S36 (hq6.mono (Nat.le_refl _) (by omega)) (by omega) hf6 (by omega) (by omega) okA6 (by omega) hFA6 (by omega) (by omega)).mono ?_⟩
    rintro _ w37 ⟨_, rfl, rfl, S37⟩
    have inE : ∀ z, z ∈ X0 ++ logD G [] → z ∈ dkE D3 ([It.cells N.b N.cells ty.ref19_Log, rowE N.la N.lc N.L.l] ++ E3) := fun z hz => by
      have h1 : z ∈ E3 := by
        rw [hE3]
        rcases List.mem_append.1 hz with h | h
        · exact List.mem_append_left _ h
        · exact List.mem_append_right _ (List.mem_cons_of_mem _ (List.mem_cons_of_mem _ h))
      exact dkE_suffix.subset (List.mem_append_right _ h1)
    have inN : ∀ z, z ∈ [It.cells N.b N.cells ty.ref19_Log, rowE N.la N.lc N.L.l] → z ∈ dkE D3 ([It.cells N.b N.cells ty.ref19_Log, rowE N.la N.lc N.L.l] ++ E3) := fun z hz => dkE_suffix.subset (List.mem_append_left _ hz)
    have rN : LogR w37 N := ⟨S37.ok (It.cells N.b N.cells ty.ref19_Log) (inN _ (by simp)), (S37.ok (rowE N.la N.lc N.L.l) (inN _ (by simp)) : Row _ _ _ _ _ _ _).rd⟩
    have rG : LogR w37 G := ⟨S37.ok (It.cells G.b G.cells ty.ref19_Log) (inE _ (by simp [logD])), S37.ok (It.rd G.la (G.L.l.flatMap entC)) (inE _ (by simp [logD]))⟩
    have rG2 : LogR w37 G2 := ⟨S37.ok (It.cells G2.b G2.cells ty.ref19_Log) (inE _ (by rw [hX0]; simp)), S37.ok (It.rd G2.la (G2.L.l.flatMap entC)) (inE _ (by rw [hX0]; simp))⟩
    have rb : w37.heap[b12]? = some (.cells x.cells ty.law19_Op (0, 0)) := S37.ok (It.cells b12 x.cells ty.law19_Op) (inE _ (by rw [hX0]; simp))
    have cb : ∀ {i : Nat} {v : Value}, x.cells[i]? = some v → w37.cell? ⟨b12, i, none⟩ = some v := fun hv => by simp [World.cell?, rb, hv]
    have hNA : N.L = A := hNL.trans hVL
    have hlN : N.L.l.length ≤ 1000000 := by rw [hNA]; omega
    refine ⟨_, rfl, fun st w38 => st = [] ∧ w38 = w37, ?_, ?_⟩
    · refine IFB_false (IFB_false (IFB_ne (fun hne => IFB_ne (fun h183 => ?_) (fun _ => ⟨rfl, rfl⟩)) (fun _ => ⟨rfl, rfl⟩)))
      exfalso
      rcases hEA with ⟨rfl, hsA⟩ | ⟨rfl, hsA, _⟩ | ⟨h, _⟩
      · rcases hrf1 with ⟨h, _⟩ | ⟨_, h⟩
        · rw [hsA] at h; cases h
        · exact hne h.symm
      · rcases hrf1 with ⟨_, h, _⟩ | ⟨h, _⟩
        · exact hne h.symm
        · rw [hsA] at h; cases h
      · exact h183 h
    · rintro w38 ⟨_, rfl⟩
      refine IFB_eq (fun h0 => IFB_true ?_) (fun h0 => IFB_eq (fun h2 => IFB_true ?_) (fun h2 => IFB_true ?_))
      · have hA1 : A = L1 := by
          rcases hEA with ⟨_, hsA⟩ | ⟨h, _⟩ | ⟨h, _⟩
          · rcases hrf1 with ⟨h, _⟩ | ⟨h, _⟩
            · rw [hsA] at h; cases h
            · exact Option.some.inj (hsA.symm.trans h)
          · omega
          · omega
        rw [← hG2b]
        refine (ref19_Same_ok rN rG2 hlN).mono ?_
        rintro _ w39 ⟨_, rfl, r2, rfl, hr2, B39⟩
        rw [hr2 (by rw [hNA, hA1, hG2L])]
        exact ⟨_, rfl, rfl, (S37.grown B39).bel⟩
      · have hA1 : A = G.L := by
          rcases hEA with ⟨h, _⟩ | ⟨_, _, h⟩ | ⟨h, _⟩
          · omega
          · rw [h, hG]
          · omega
        refine (ref19_Same_ok rN rG hlN).mono ?_
        rintro _ w40 ⟨_, rfl, r2, rfl, hr2, B40⟩
        rw [hr2 (by rw [hNA, hA1])]
        exact ⟨_, rfl, rfl, (S37.grown B40).bel⟩
      · rcases hEA with ⟨h, _⟩ | ⟨h, _⟩ | ⟨_, L', hsL, hM⟩
        · exact absurd h h0
        · exact absurd h h2
        · refine ⟨_, cb rfl, _, cb rfl, _, cb rfl, _, cb rfl, _, cb rfl, _, cb rfl, _, _, _, cb rfl, ?_⟩
          refine (law19_among_ok rN rG (by rw [hG]; exact Q.ok) (Int.le_refl _) (by rw [hG]; omega) hlN x hxt hk4 (by rw [hG]; exact hsL) (by rw [hG, hNA]; exact hM)).mono ?_
          rintro _ w41 ⟨_, rfl, rfl, B41⟩
          exact ⟨_, rfl, rfl, (S37.grown B41).bel⟩
end
end Go.Proofs.YtfgbfodohmeamaaGreatDoor
