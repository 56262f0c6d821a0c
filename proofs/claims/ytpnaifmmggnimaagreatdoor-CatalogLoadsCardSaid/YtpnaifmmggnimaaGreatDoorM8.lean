/-
  Texts of this claim, laid one behind the other by a program of mine (install.py): Dn.MapI, G.Cp3, G.Ct3, G.Ct4, G.Ct5, G.IterI, G.Ct6, G.Ct7, G.Ct8, G.Ct9, G.Cw1, G.Ct10, G.Ct11, G.Cw2, G.Cl1, G.Cl2.
-/
import Derived.Test.YtpnaifmmggnimaaGreatDoorM7
import Derived.Lib.SlKeysI
import Derived.DataShut
import Derived.Shelf.SlIterI.Nil
import Derived.Shelf.SortM.Plain
import Derived.Shelf.SortM.SortNone
import Derived.Ground.GgzProg
import Derived.Ground.SlgmProg
import Derived.Test.YtpnaifmmggnimaaGreatDoorProg
import Derived.Test.YtpnaifmmggnimaaGreatDoorM4
namespace Go.Dn
set_option maxRecDepth 100000
set_option linter.unusedVariables false
open Go.RowKit (Below)
open Go.Maps (has Tidy Keyed)
abbrev Tri := Int × Int × Int
def triV (x : Tri) : Value := .agg #[.int .i64 x.1, .int .i64 x.2.1, .int .i64 x.2.2]
def triD (x : Tri) : DataW Unit := .agg [.lit (.int .i64 x.1), .lit (.int .i64 x.2.1), .lit (.int .i64 x.2.2)]
def triE (v : Value) : Option (DataW Unit × List MemPlace) :=
  match v with
  | .agg ⟨[.int .i64 a, .int .i64 b, .int .i64 c]⟩ => some (triD (a, b, c), [])
  | _ => none
theorem triE_mk (x : Tri) : triE (triV x) = some (triD x, []) := rfl
theorem triE_inv {v : Value} {z : DataW Unit × List MemPlace} (h : triE v = some z) : ∃ x, v = triV x ∧ z.1 = triD x := by
  unfold triE at h
  split at h
  · cases h; exact ⟨(_, _, _), rfl, rfl⟩
  · cases h
theorem triD_inj {a b : Tri} (h : triD a = triD b) : a = b := by
  obtain ⟨a1, a2, a3⟩ := a
  obtain ⟨b1, b2, b3⟩ := b
  simp only [triD, DataW.agg.injEq, List.cons.injEq, DataW.lit.injEq, Lit.int.injEq, true_and, and_true] at h
  obtain ⟨rfl, rfl, rfl⟩ := h
  rfl
def MapI (P : Program) (k : TypeId) (w : World) (b n : Nat) (g : Int → Option Tri) : Prop :=
  ∃ D : DataW Unit, w.ownsMap P k triE b n D ∧ Tidy D ∧ ∀ x, has D (.int .i64 x) = (g x).isSome ∧ D.atKey (.int .i64 x) (triD (0, 0, 0)) = triD ((g x).getD (0, 0, 0))
section
variable {P : Program} {k e t : TypeId} {w : World} {b n : Nat} {g : Int → Option Tri}
theorem MapI.same (h : MapI P k w b n g) {w' : World} (hb' : w'.heap[b]? = w.heap[b]?) : MapI P k w' b n g := by
  obtain ⟨D, ⟨es, clock, hb, r⟩, h2⟩ := h
  exact ⟨D, ⟨es, clock, hb'.trans hb, r⟩, h2⟩
theorem MapI.lt (h : MapI P k w b n g) : b < w.heap.size := by
  obtain ⟨D, h, _⟩ := h
  exact h.lt
theorem MapI.made (w : World) : MapI P k (w.alloc (.map #[] 0)) w.heap.size 0 (fun _ => none) := ⟨_, World.ownsMap_made _ _ _ _, Maps.tidy_empty, fun x => ⟨rfl, rfl⟩⟩
theorem key_i64 (hk : P.underlying k = some (.int .i64)) {i : Int} (hi : -9223372036854775808 ≤ i ∧ i ≤ 9223372036854775807) : keyOf P k (.int .i64 i) = some (.int .i64 i) :=
  Maps.keyOf_int_mk hk ((Lit.wf_int_iff _ _).2 ⟨hi.1, hi.2⟩)
theorem MapI.put (h : MapI P k w b n g) (hk : P.underlying k = some (.int .i64)) (ht : P.underlying t = some (.map k e)) (hn : n < maxLen) {i : Int} (hi : -9223372036854775808 ≤ i ∧ i ≤ 9223372036854775807) (x : Tri)
    {f : World → Prop} (hf : ∀ w', Keeps (· = b) w w' → MapI P k w' b (n + 1) (fun y => if y = i then some x else g y) → f w') : OPU P (Instr.mapUpdate t (.map (some b)) (.int .i64 i) (triV x)) f w := by
  obtain ⟨D, hD, hT, hg⟩ := h
  obtain ⟨w', hrun, hown, hgrow⟩ := hD.update (Maps.int_keyed hk) ht hn (key_i64 hk hi) (triE_mk x)
  unfold OPU
  rw [hrun]
  have hkl : WideAt.IsKeyLit (.int .i64 i) := by simp [WideAt.IsKeyLit]
  refine hf w' (.of_grownBy hgrow) ⟨_, hown, hT.put hkl _, fun y => ?_⟩
  by_cases hx : y = i
  · subst hx
    simp only [if_true]
    exact ⟨Maps.has_put_same hT.isMap hkl _, Maps.atKey_put_same hT.isMap hkl _ _⟩
  · have hne : Lit.int .i64 y ≠ .int .i64 i := fun e => hx (by injection e)
    simp only [hx, if_false]
    exact ⟨(Maps.has_put_other hne _).trans (hg y).1, (Maps.atKey_put_other hne _ _).trans (hg y).2⟩
theorem MapI.get (h : MapI P k w b n g) (hk : P.underlying k = some (.int .i64)) (ht : P.underlying t = some (.map k e)) (hz : (zeroValue e).run P w = .ok (triV (0, 0, 0)) w) {i : Int} (hi : -9223372036854775808 ≤ i ∧ i ≤ 9223372036854775807)
    {f : Value → World → Prop} (hf : f (triV ((g i).getD (0, 0, 0))) w) : OPR P (Instr.lookup t (.map (some b)) (.int .i64 i) false) f w := by
  obtain ⟨D, hD, hT, hg⟩ := h
  obtain ⟨v, ps, hrun, hv⟩ := hD.lookup (Maps.int_keyed hk) ht hz (triE_mk (0, 0, 0)) (key_i64 hk hi)
  obtain ⟨o, rfl, ho⟩ := triE_inv hv
  have h2 := (hg i).2
  rw [show D.atKey (.int .i64 i) (triD (0, 0, 0)) = triD o from ho] at h2
  obtain rfl := triD_inj h2
  unfold OPR
  rw [hrun]
  exact hf
theorem MapI.getok (h : MapI P k w b n g) (hk : P.underlying k = some (.int .i64)) (ht : P.underlying t = some (.map k e)) (hz : (zeroValue e).run P w = .ok (triV (0, 0, 0)) w) {i : Int} (hi : -9223372036854775808 ≤ i ∧ i ≤ 9223372036854775807)
    {f : Value → World → Prop} (hf : f (.tuple #[triV ((g i).getD (0, 0, 0)), .bool (g i).isSome]) w) : OPR P (Instr.lookup t (.map (some b)) (.int .i64 i) true) f w := by
  obtain ⟨D, hD, hT, hg⟩ := h
  obtain ⟨v, ps, hrun, hv⟩ := hD.look_ok (Maps.int_keyed hk) ht hz (triE_mk (0, 0, 0)) (key_i64 hk hi)
  obtain ⟨o, rfl, ho⟩ := triE_inv hv
  have h2 := (hg i).2
  rw [show D.atKey (.int .i64 i) (triD (0, 0, 0)) = triD o from ho] at h2
  obtain rfl := triD_inj h2
  unfold OPR
  rw [hrun, (hg i).1]
  exact hf
theorem MapI.keys (h : MapI P k w b n g) (hk : P.underlying k = some (.int .i64)) : ∃ D : DataW Unit, w.ownsMap P k triE b n D ∧ Maps.size D ≤ n ∧ (intKeys D).length = Maps.size D ∧ (intKeys D).Nodup ∧ ∀ x, x ∈ intKeys D ↔ (g x).isSome = true := by
  obtain ⟨D, hD, hT, hg⟩ := h
  obtain ⟨es, e1, hpw⟩ := hT
  obtain ⟨es', hD', hko⟩ := hD.keysOf
  obtain rfl : es = es' := by rw [e1] at hD'; simpa using hD'
  have hint : ∀ p ∈ es, ∃ x, p.1 = .int .i64 x := fun p hp => by obtain ⟨v, hv⟩ := hko p hp; obtain ⟨x, _, hx, _⟩ := Maps.keyOf_i64 hk hv; exact ⟨x, hx⟩
  refine ⟨D, hD, hD.size_le, by rw [e1]; simp [intKeys, Maps.size], ?_, fun x => ?_⟩
  · rw [e1]
    show (es.map fun p => intOf p.1).Nodup
    refine List.pairwise_map.2 (hpw.imp_of_mem fun {p r} hp' hq' hne e => hne ?_)
    obtain ⟨a, ha⟩ := hint p hp'
    obtain ⟨c, hc⟩ := hint r hq'
    rw [ha, hc] at e ⊢
    exact congrArg _ e
  · rw [← (hg x).1, e1, Maps.has_eq, List.any_eq_true]
    show x ∈ es.map (fun p => intOf p.1) ↔ _
    rw [List.mem_map]
    constructor
    · rintro ⟨p, hp', rfl⟩
      obtain ⟨a, ha⟩ := hint p hp'
      exact ⟨p, hp', by rw [ha]; simp [Lit.sameKey, intOf]⟩
    · rintro ⟨p, hp', hs⟩
      obtain ⟨a, ha⟩ := hint p hp'
      rw [ha] at hs
      exact ⟨p, hp', by rw [ha]; simpa [Lit.sameKey, intOf] using hs⟩
theorem MapI.len (h : MapI P k w b n g) (hk : P.underlying k = some (.int .i64)) (ht : P.underlying t = some (.map k e)) (ty : TypeId) {ks : List Int} (hn : ks.Nodup) (hm : ∀ x, x ∈ ks ↔ (g x).isSome = true) :
    (Builtin.len_ #[t] ty #[.map (some b)]).run P w = .ok (.int .i64 (ks.length : Int)) w := by
  obtain ⟨D, hD, _, hl, hd, hmem⟩ := h.keys hk
  have e1 := hD.len ht ty
  rw [← hl] at e1
  have hp : ks.Perm (intKeys D) := (List.perm_ext_iff_of_nodup hn hd).2 fun x => (hm x).trans (hmem x).symm
  rw [hp.length_eq]
  exact e1
end
/-! ## Among a function's own things -/
def It.mapI (P : Program) (k : TypeId) (b n : Nat) (g : Int → Option Tri) : It where
  blk := some b
  ok := fun w => MapI P k w b n g
  st := fun w w' h h0 => h0.same (h b rfl)
  lt := fun w h k hk => by cases hk; exact h.lt
section
variable {P : Program} {k e t : TypeId} {w0 w : World} {H : List It} {b n : Nat} {g : Int → Option Tri}
theorem ST.newMapI (S : ST w0 w H) (t : TypeId) {f : Value → World → Prop} (hf : ∀ b w', ST w0 w' (It.mapI P k b 0 (fun _ => none) :: H) → w.heap.size ≤ b → f (.map (some b)) w') (hrun : (Instr.makeMap t none).run P w = .ok (.map (some w.heap.size)) (w.alloc (.map #[] 0))) : OPR P (Instr.makeMap t none) f w := by
  unfold OPR
  rw [hrun]
  exact hf _ _ (S.add ((Below.refl _ w).alloc (Nat.le_refl _) _) (It.mapI P k w.heap.size 0 _) (MapI.made w) (fun k hk => by cases hk; exact Nat.le_refl _)) (Nat.le_refl _)
theorem ST.mputI (S : ST w0 w H) (i : Nat) (hi : H[i]? = some (It.mapI P k b n g)) (hk : P.underlying k = some (.int .i64)) (ht : P.underlying t = some (.map k e)) (hn : n < maxLen) {j : Int} (hj : -9223372036854775808 ≤ j ∧ j ≤ 9223372036854775807) (x : Tri)
    {f : World → Prop} (hf : ∀ w', ST w0 w' (H.set i (It.mapI P k b (n + 1) (fun y => if y = j then some x else g y))) → f w') : OPU P (Instr.mapUpdate t (.map (some b)) (.int .i64 j) (triV x)) f w :=
  MapI.put (S.get i hi) hk ht hn hj x fun w' K h => hf w' (S.chg i hi (K.mono fun k _ h => by subst h; rfl) _ h (fun k hk => .inl hk))
theorem ST.mgetI (S : ST w0 w H) (i : Nat) (hi : H[i]? = some (It.mapI P k b n g)) (hk : P.underlying k = some (.int .i64)) (ht : P.underlying t = some (.map k e)) (hz : (zeroValue e).run P w = .ok (triV (0, 0, 0)) w) {j : Int} (hj : -9223372036854775808 ≤ j ∧ j ≤ 9223372036854775807)
    {f : Value → World → Prop} (hf : f (triV ((g j).getD (0, 0, 0))) w) : OPR P (Instr.lookup t (.map (some b)) (.int .i64 j) false) f w := MapI.get (S.get i hi) hk ht hz hj hf
theorem ST.mgetokI (S : ST w0 w H) (i : Nat) (hi : H[i]? = some (It.mapI P k b n g)) (hk : P.underlying k = some (.int .i64)) (ht : P.underlying t = some (.map k e)) (hz : (zeroValue e).run P w = .ok (triV (0, 0, 0)) w) {j : Int} (hj : -9223372036854775808 ≤ j ∧ j ≤ 9223372036854775807)
    {f : Value → World → Prop} (hf : f (.tuple #[triV ((g j).getD (0, 0, 0)), .bool (g j).isSome]) w) : OPR P (Instr.lookup t (.map (some b)) (.int .i64 j) true) f w := MapI.getok (S.get i hi) hk ht hz hj hf
end
end Go.Dn
namespace Go.Proofs.YtpnaifmmggnimaaGreatDoor
set_option maxRecDepth 100000
open Go.Dn Go.Proofs
set_option linter.unusedVariables false
def triN (x : Nat × Nat × Nat) : Tri := ((x.1 : Int), (x.2.1 : Int), (x.2.2 : Int))
def gOf (k : List Cli) (i : Int) : Option Tri := if i < 0 then none else (mapOf k i.toNat).map triN
theorem gOf_nil : gOf [] = fun _ => none := by
  funext i
  unfold gOf
  split <;> rfl
theorem gOf_nat (k : List Cli) (i : Nat) : gOf k (i : Int) = (mapOf k i).map triN := by
  unfold gOf
  rw [if_neg (by omega), Int.toNat_natCast]
theorem gOf_snoc (k : List Cli) (c : Cli) : gOf (k ++ [c]) = fun y => if y = (c.1 : Int) then some (triN c.2) else gOf k y := by
  funext y
  unfold gOf
  rw [mapOf_snoc]
  by_cases h : y < 0
  · rw [if_pos h, if_neg (by omega), if_pos h]
  · rw [if_neg h, if_neg h]
    by_cases h2 : y = (c.1 : Int)
    · rw [if_pos (by omega), if_pos h2]; rfl
    · rw [if_neg (by omega), if_neg h2]
theorem gOf_some {k : List Cli} {i : Int} : (gOf k i).isSome = true ↔ 0 ≤ i ∧ (mapOf k i.toNat).isSome = true := by
  unfold gOf
  split
  · simp; omega
  · rw [Option.isSome_map]; constructor
    · intro h; exact ⟨by omega, h⟩
    · intro h; exact h.2
theorem keys_nat {k : List Cli} {ss : List Int} (hs : ss.Pairwise (· < ·)) (hm : ∀ x, x ∈ ss ↔ (gOf k x).isSome = true) : ∃ ids : List Nat, ss = ids.map (fun i : Nat => (i : Int)) ∧ ids.Pairwise (· < ·) ∧ ∀ i, i ∈ ids ↔ (mapOf k i).isSome = true := by
  have h0 : ∀ x ∈ ss, 0 ≤ x := fun x hx => (gOf_some.1 ((hm x).1 hx)).1
  have e : ss = (ss.map Int.toNat).map (fun i : Nat => (i : Int)) := by
    rw [List.map_map]
    conv => lhs; rw [← List.map_id ss]
    refine List.map_congr_left fun x hx => ?_
    have := h0 x hx
    simp only [id, Function.comp]
    omega
  refine ⟨ss.map Int.toNat, e, ?_, fun i => ?_⟩
  · rw [List.pairwise_map]
    refine hs.imp_of_mem fun {a b} ha hb hab => ?_
    have := h0 a ha
    have := h0 b hb
    omega
  · constructor
    · intro hi
      obtain ⟨x, hx, rfl⟩ := List.mem_map.1 hi
      exact (gOf_some.1 ((hm x).1 hx)).2
    · intro hi
      refine List.mem_map.2 ⟨(i : Int), (hm _).2 (gOf_some.2 ⟨by omega, by rw [Int.toNat_natCast]; exact hi⟩), Int.toNat_natCast i⟩
theorem sort_rise {ss : List Int} (h : ss.Nodup) : (ss.mergeSort leI).Pairwise (· < ·) ∧ ∀ x, x ∈ ss.mergeSort leI ↔ x ∈ ss := by
  have tr : ∀ a b c : Int, leI a b = true → leI b c = true → leI a c = true := fun a b c h1 h2 => by simp only [leI, decide_eq_true_eq] at *; exact Int.le_trans h1 h2
  have to : ∀ a b : Int, (leI a b || leI b a) = true := fun a b => by simp only [leI, Bool.or_eq_true, decide_eq_true_eq]; exact Int.le_total a b
  have hp := List.mergeSort_perm ss leI
  refine ⟨?_, fun x => hp.mem_iff⟩
  have h1 := List.pairwise_mergeSort tr to ss
  have h2 : (ss.mergeSort leI).Nodup := hp.nodup_iff.2 h
  refine (List.Pairwise.and h1 h2).imp fun {a b} hab => ?_
  have := hab.1
  simp only [leI, decide_eq_true_eq] at this
  have := hab.2
  omega
end Go.Proofs.YtpnaifmmggnimaaGreatDoor
namespace Go.Proofs.YtpnaifmmggnimaaGreatDoor
set_option maxRecDepth 100000
open Go.Dn Go.Proofs
open Go.RowKit (Below)
set_option linter.unusedVariables false
theorem failed_ok (e : Int) (w : World) : Calls Tryz.prog f.catalog_failed #[.int .i64 e] w (Ret fun v w' => v = .tuple #[.agg #[.int .i64 e, .int .i64 0], .slice none 0 0] ∧ Below w.heap.size w w') := by
  apply R.catalog_failed_calls
  unfold R.catalog_failed
  exact (ST.start w).newB fun b2 w1 _ _ S => S.sto 0 rfl (cs' := #[.int .i64 e, .int .i64 0]) (by simp) rfl fun w2 S => S.sto 0 rfl (cs' := #[.int .i64 e, .int .i64 0]) (by simp) rfl fun w3 S => ⟨_, S.cell 0 rfl rfl, _, S.cell 0 rfl rfl, rfl, S.bel⟩
def prtC (p : Prt) : List Value := [.string p.1, .int .i64 (p.2 : Int)]
def prtsL (ps : List Prt) : List Value := ps.flatMap prtC
theorem prts_len (ps : List Prt) : (prtsL ps).length = ps.length * 2 := by
  induction ps with
  | nil => rfl
  | cons p ps ih =>
    show (prtC p ++ prtsL ps).length = _
    rw [List.length_append, ih, List.length_cons]
    simp only [prtC, List.length_cons, List.length_nil]
    omega
theorem prts_get (ps : List Prt) (i j : Nat) (hi : i < ps.length) (hj : j < 2) : (prtsL ps)[i * 2 + j]? = (prtC ps[i])[j]? := by
  induction ps generalizing i with
  | nil => simp at hi
  | cons p ps ih =>
    show (prtC p ++ prtsL ps)[_]? = _
    cases i with
    | zero => rw [Nat.zero_mul, Nat.zero_add, List.getElem?_append_left (by simp [prtC]; omega)]; rfl
    | succ i =>
      rw [List.getElem?_append_right (by simp [prtC]; omega)]
      rw [show (i + 1) * 2 + j - (prtC p).length = i * 2 + j by simp [prtC]; omega, ih i (by simpa using hi)]
      rfl
def prtsI (a : Option Addr) (c : Nat) (ps : List Prt) : It := It.row ty.api_Part 2 a ps.length c (prtsL ps)
theorem tPrts : slT Tryz.prog ty.L_api_Part = some (ty.api_Part, 2, 24, .agg #[.string ⟨#[]⟩, .int .i64 0]) := by kernel_rfl
section
variable {w0 w : World} {H : List It} {a a2 : Option Addr} {c c2 : Nat}
theorem prt_at {ps : List Prt} (hl : Rd w a (prtsL ps)) {i : Nat} (hi : i < ps.length) : ∃ p, a = some p ∧ w.cell? (p.add (i * 2)) = some (.string ps[i].1) ∧ w.cell? ((p.add (i * 2)).add 1) = some (.int .i64 (ps[i].2 : Int)) := by
  obtain ⟨p, hp, h0⟩ := hl (i * 2 + 0) _ (by rw [prts_get ps i 0 hi (by omega)]; rfl)
  obtain ⟨p1, hp1, h1⟩ := hl (i * 2 + 1) _ (by rw [prts_get ps i 1 hi (by omega)]; rfl)
  rw [hp] at hp1
  cases hp1
  exact ⟨p, hp, h0, by rw [addr_add_add]; exact h1⟩
theorem stAppQ (S : ST w0 w H) {n : Nat} {ps : List Prt} (hn : H[n]? = some (prtsI a c ps)) {p : Prt} {b : Nat} (hs : Rd w (some ⟨b, 0, none⟩) (prtC p)) (hl : ps.length + 1 ≤ 1000000) {f : Value → World → Prop}
    (hf : ∀ a' c' w', ST w0 w' (H.set n (prtsI a' c' (ps ++ [p]))) → f (.slice a' (ps ++ [p]).length c') w') :
    OPR Tryz.prog (Builtin.append_ #[ty.L_api_Part, ty.L_api_Part] ty.L_api_Part #[.slice a ps.length c, .slice (some ⟨b, 0, none⟩) 1 1]) f w := by
  refine S.app n hn tPrts rfl (by omega) (by omega) hs (mm := 1) rfl (by simp [prtC]; exact ⟨rfl, rfl⟩) (by omega) fun a' c' w' S' => ?_
  have e1 : (ps ++ [p]).length = ps.length + 1 := by simp
  have e2 : prtsL ps ++ prtC p = prtsL (ps ++ [p]) := by simp [prtsL]
  rw [e2] at S'
  have := hf a' c' w' (by unfold prtsI; rw [e1]; exact S')
  rwa [e1] at this
theorem slices_Equal_ok {ls ms : List Col} (hl : Rd w a (colsL ls)) (hm : Rd w a2 (colsL ms)) (hn : ls.length ≤ 9223372036854775807) :
    Calls Tryz.prog f.slices_Equal_api_Column_api_Column #[.slice a ls.length c, .slice a2 ms.length c2] w (Ret fun v w' => Below w.heap.size w w' ∧ v = .bool (decide (ls = ms))) := by
  apply R.slices_Equal_api_Column_api_Column_calls
  unfold R.slices_Equal_api_Column_api_Column
  refine IFB_ne (fun h => ⟨.refl _ _, ?_⟩) (fun hlen => ?_)
  · congr 1
    rw [eq_comm, decide_eq_false_iff_not]
    rintro rfl
    exact h rfl
  have hlen' : ls.length = ms.length := by omega
  refine ⟨fun s w1 => ∃ i : Nat, i ≤ ls.length ∧ s = [.int .i64 (i : Int)] ∧ Below w.heap.size w w1 ∧ ls.take i = ms.take i, fun s _ => match s with
      | [.int _ i] => ls.length - i.toNat
      | _ => 0, ⟨0, by omega, rfl, .refl _ _, rfl⟩, ?_⟩
  rintro _ w1 ⟨i, hi, hs, B1, hT⟩
  cases hs
  refine IFB_dec (fun hlt => ?_) (fun hge => ⟨B1, ?_⟩)
  · have h1 : i < ls.length := by omega
    have h2 : i < ms.length := by omega
    refine (SH.start (fun _ => False) w1).drawB fun w2 B2 _ => ⟨⟨by omega, hlt⟩, ?_⟩
    have C2 := below_trans B1 B2
    obtain ⟨p1, rfl, c0, c1, c2⟩ := col_at (hl.grown C2) h1
    obtain ⟨p2, rfl, d0, d1, d2⟩ := col_at (hm.grown C2) h2
    refine ⟨⟨by omega, by omega⟩, _, by rw [Int.toNat_natCast]; exact c0, _, by rw [Int.toNat_natCast]; exact c1, _, by rw [Int.toNat_natCast]; exact c2, _, by rw [Int.toNat_natCast]; exact d0, _, by rw [Int.toNat_natCast]; exact d1, _, by rw [Int.toNat_natCast]; exact d2, ?_⟩
    rw [col_beq]
    refine IFB_not (IFB_dec (fun he => ?_) (fun he => ⟨C2, ?_⟩))
    · rw [wrap_succ (by omega)]
      refine ⟨⟨i + 1, by omega, rfl, C2, ?_⟩, ?_⟩
      · rw [List.take_succ_eq_append_getElem h1, List.take_succ_eq_append_getElem h2, hT, he]
      · simp only [Int.toNat_natCast]
        omega
    · congr 1
      rw [eq_comm, decide_eq_false_iff_not]
      rintro rfl
      exact he rfl
  · congr 1
    rw [eq_comm, decide_eq_true_eq]
    rw [List.take_of_length_le (by omega), List.take_of_length_le (by omega)] at hT
    exact hT
def rowsN (ps : List Prt) : Nat := (ps.map (·.2)).sum
theorem rowsN_snoc (ps : List Prt) (p : Prt) : rowsN (ps ++ [p]) = rowsN ps + p.2 := by simp [rowsN]
theorem rowsN_le {ps : List Prt} (h : ∀ p ∈ ps, p.2 ≤ 1024) : rowsN ps ≤ ps.length * 1024 := by
  induction ps with
  | nil => simp [rowsN]
  | cons p ps ih =>
    have h1 := h p (by simp)
    have h2 := ih fun x hx => h x (by simp [hx])
    simp only [rowsN, List.map_cons, List.sum_cons, List.length_cons] at h2 ⊢
    omega
theorem many_ok {ps : List Prt} (hl : Rd w a (prtsL ps)) (hn : ps.length ≤ 1000) (h : ∀ p ∈ ps, p.2 ≤ 1024) : Calls Tryz.prog f.catalog_many #[.slice a ps.length c] w (Ret fun v w' => v = .int .i64 (rowsN ps : Int) ∧ Below w.heap.size w w') := by
  apply R.catalog_many_calls
  unfold R.catalog_many
  refine ⟨fun s w1 => ∃ i : Nat, s = [.int .i64 (rowsN (ps.take i) : Int), .int .i64 (i : Int)] ∧ i ≤ ps.length ∧ ST w w1 [], fun s _ => match s with
      | [_, .int _ i] => ps.length - i.toNat
      | _ => 0, ⟨0, rfl, by omega, ST.start w⟩, ?_⟩
  rintro _ _ w1 ⟨i, hs, hi, S⟩
  cases hs
  refine IFB_dec (fun hlt => ?_) (fun hge => ?_)
  · have hil : i < ps.length := by omega
    obtain ⟨p, rfl, c0, c1⟩ := prt_at (hl.grown S.bel) hil
    refine ⟨⟨by omega, by omega⟩, _, by rw [Int.toNat_natCast]; exact c0, _, by rw [Int.toNat_natCast]; exact c1, S.newB fun b8 w2 _ _ S => S.sto 0 rfl (cs' := #[.string ps[i].1, .int .i64 0]) (by simp) rfl fun w3 S => S.sto 0 rfl (cs' := #[.string ps[i].1, .int .i64 (ps[i].2 : Int)]) (by simp) rfl fun w4 S => ⟨_, S.cell 0 rfl rfl, ?_⟩⟩
    have h1 := rowsN_le (ps := ps.take i) fun p hp => h p (List.mem_of_mem_take hp)
    have h2 := h ps[i] (List.getElem_mem hil)
    rw [List.length_take] at h1
    have e : rowsN (ps.take (i + 1)) = rowsN (ps.take i) + ps[i].2 := by rw [List.take_succ_eq_append_getElem hil, rowsN_snoc]
    have ew : IntKind.i64.wrap ((rowsN (ps.take i) : Int) + (ps[i].2 : Int)) = (rowsN (ps.take (i + 1)) : Int) := by rw [wrap_i64 (by omega) (by omega), e]; omega
    rw [ew, wrap_succ (by omega)]
    exact ⟨⟨i + 1, rfl, by omega, S.drop 1⟩, by simp only [Int.toNat_natCast]; omega⟩
  · obtain rfl : i = ps.length := by omega
    rw [List.take_length]
    exact ⟨rfl, S.bel⟩
end
structure CatS where
  cols : List Col
  parts : List Prt
  k : List Cli
def catH (bc : Nat) (ca : Option Addr) (cc : Nat) (pa : Option Addr) (pc bm n : Nat) (C : CatS) : List It :=
  [It.cells bc #[.slice ca C.cols.length cc, .slice pa C.parts.length pc, .map (some bm)] ty.catalog_Catalog, colsI ca cc C.cols, prtsI pa pc C.parts, It.mapI Tryz.prog ty.int64 bm n (gOf C.k)]
structure CatOK (C : CatS) : Prop where
  np : C.parts.length ≤ 256
  parts : ∀ p ∈ C.parts, PrtOk p
  clis : ∀ c ∈ C.k, CliOk c
  cols : C.cols = [] ∨ rightCols C.cols = true
abbrev Fil := ByteArray × ByteArray
def filesL (fs : List Fil) : List Value := fs.flatMap fun f => [.string f.1, .string f.2]
def doneV (d : Nat × Nat) (fa : Option Addr) (fs : List Fil) : Value := .tuple #[.agg #[.int .i64 (d.1 : Int), .int .i64 (d.2 : Int)], .slice fa fs.length fs.length]
def AddR (C : CatS) (cs : List Col) (rows : List (List Val)) (d : Nat × Nat) (fs : List Fil) (C' : CatS) : Prop :=
  (cs ≠ C.cols ∧ d = (50, 0) ∧ fs = [] ∧ C' = C) ∨ (cs = C.cols ∧ C.parts.length = 256 ∧ d = (130, 0) ∧ fs = [] ∧ C' = C) ∨
    (cs = C.cols ∧ C.parts.length < 256 ∧ ∃ b, SegIs cs rows b ∧ C' = { C with parts := C.parts ++ [(nameS (sof b), rows.length)] } ∧ d = (0, rowsN C'.parts) ∧ fs = [(nameS (sof b), sof b)])
def DidP (w0 : World) (H : List It) (bc : Nat) (ca : Option Addr) (cc : Nat) (bm n : Nat) (R : Nat × Nat → List Fil → CatS → Prop) (v : Value) (w' : World) : Prop :=
  ∃ d fs C' fa pa pc, R d fs C' ∧ v = doneV d fa fs ∧ ST w0 w' (It.rd fa (filesL fs) :: (catH bc ca cc pa pc bm n C' ++ H))
section
variable {w0 w : World} {H : List It} {a a2 : Option Addr} {c c2 : Nat}
theorem stNoFile (S : ST w0 w H) : ST w0 w (It.rd none (filesL []) :: H) := S.add (.refl _ _) _ (Rd.nil _ _) (fun k hk => by cases hk)
theorem fail_tail {K : Value → World → Prop} {b : Nat} {u v : Value} (S : ST w0 w (It.cells b #[u, v] ty.api_Done :: H)) (e : Int) (hk : ∀ w', ST w0 w' H → K (.tuple #[.agg #[.int .i64 e, .int .i64 0], .slice none 0 0]) w') :
    Calls Tryz.prog f.catalog_failed #[.int .i64 e] w (fun x w' => ∃ p : Int, ∃ q : Int, ∃ (r : Option Addr) (rl rc : Nat), x = .returned (.tuple #[.agg #[.int .i64 p, .int .i64 q], .slice r rl rc]) ∧
      STO ⟨b, 0, none⟩ (.int .i64 p) (fun w => STO ⟨b, 1, none⟩ (.int .i64 q) (fun w => ∃ p' : Int, w.cell? ⟨b, 0, none⟩ = some (.int .i64 p') ∧ ∃ q' : Int, w.cell? ⟨b, 1, none⟩ = some (.int .i64 q') ∧ K (.tuple #[.agg #[.int .i64 p', .int .i64 q'], .slice r rl rc]) w) w) w') := by
  refine (failed_ok e w).mono ?_
  rintro _ w1 ⟨_, rfl, rfl, B⟩
  have S := S.grown B
  exact ⟨_, _, _, _, _, rfl, S.sto 0 rfl (cs' := #[.int .i64 e, v]) (by simp) rfl fun w2 S => S.sto 0 rfl (cs' := #[.int .i64 e, .int .i64 0]) (by simp) rfl fun w3 S => ⟨_, S.cell 0 rfl rfl, _, S.cell 0 rfl rfl, hk _ (S.drop 1)⟩⟩
set_option maxHeartbeats 1000000 in
theorem add_ok (T : Tabs w0) {bc bm n cc pc : Nat} {ca pa : Option Addr} {C : CatS} (S : ST w0 w (catH bc ca cc pa pc bm n C ++ H)) (hC : CatOK C) {cs : List Col} (hcs : Rd w a (colsL cs)) (hn : cs.length ≤ 9223372036854775807) (hq : ∀ c ∈ cs, c.1.size ≤ 9223372036854775807)
    {ps : List RowP} (hr : RowsAt w a2 ps) (hok : SegOk cs (rws ps)) :
    Calls Tryz.prog f.catalog_Catalog_add #[.pointer (some ⟨bc, 0, none⟩), .slice a cs.length c, .slice a2 ps.length c2] w (Ret (DidP w0 H bc ca cc bm n (AddR C cs (rws ps)))) := by
  apply R.catalog_Catalog_add_calls
  unfold R.catalog_Catalog_add
  have hB0 : ∀ {wx : World}, Below w.heap.size w wx → Below w.heap.size w wx := fun h => h
  refine S.newB fun b4 w1 _ B1 S => ⟨_, _, _, S.cell 1 rfl rfl, ?_⟩
  refine (slices_Equal_ok (hcs.grown B1) (S.rd 2 rfl) hn).mono ?_
  rintro _ w2 ⟨_, rfl, B2, rfl⟩
  have S := S.grown B2
  have C2 := below_trans B1 B2
  have hno : ∀ (e : Nat) {wx : World}, AddR C cs (rws ps) (e, 0) [] C → ST w0 wx (catH bc ca cc pa pc bm n C ++ H) → DidP w0 H bc ca cc bm n (AddR C cs (rws ps)) (.tuple #[.agg #[.int .i64 (e : Int), .int .i64 0], .slice none 0 0]) wx := fun e wx hA S =>
    ⟨(e, 0), [], C, none, pa, pc, hA, rfl, stNoFile S⟩
  refine ⟨_, rfl, IFB_not (IFB_dec (fun he => ?_) (fun he => fail_tail (K := DidP w0 H bc ca cc bm n (AddR C cs (rws ps))) S 50 fun w' S => hno 50 (.inl ⟨he, rfl, rfl, rfl⟩) S))⟩
  refine ⟨_, _, _, S.cell 1 rfl rfl, IFB_eq (fun h => fail_tail (K := DidP w0 H bc ca cc bm n (AddR C cs (rws ps))) S 130 fun w' S => hno 130 (.inr (.inl ⟨he, by omega, rfl, rfl, rfl⟩)) S) (fun h => ?_)⟩
  have hnp := hC.np
  have hlt : C.parts.length < 256 := by omega
  refine (segment_Write_ok (c := c) (c2 := c2) (T.grown S.bel) (hcs.grown C2) hn hq (hr.grown C2) (by have := hok.len; simp only [rws, List.length_map] at this; omega) hok.ok).mono ?_
  rintro _ w9 ⟨_, rfl, hV, B9⟩
  have S := S.grown B9
  rcases hV with ⟨hno, _⟩ | ⟨_, bb, rfl, hI⟩
  · exact absurd hok hno
  have hbl := hI.len hok
  refine ⟨_, _, rfl, (segment_Name_ok (T.grown S.bel) (sof bb) (by rw [size_sof]; omega)).mono ?_⟩
  rintro _ w10 ⟨_, rfl, rfl, B10⟩
  have S := S.grown B10
  obtain ⟨nm, hnm⟩ : ∃ nm, nm = nameS (sof bb) := ⟨_, rfl⟩
  obtain ⟨dt, hdt⟩ : ∃ dt, dt = sof bb := ⟨_, rfl⟩
  rw [← hdt] at hnm ⊢
  rw [← hnm]
  refine ⟨_, rfl, S.newB fun b28 w11 _ _ S => S.sto 0 rfl (cs' := #[.string nm, .string ⟨#[]⟩]) (by simp) rfl fun w12 S => S.sto 0 rfl (cs' := #[.string nm, .string dt]) (by simp) rfl fun w13 S => S.draw fun w14 _ S =>
    ⟨_, _, _, S.cell 2 rfl rfl, _, S.cell 0 rfl rfl, S.newB fun b32 w15 _ _ S => ⟨S.cell 3 rfl rfl, ?_⟩⟩⟩
  refine stAppQ S (n := 5) rfl (p := (nm, ps.length)) (S.rdc 0 rfl) (by omega) fun a' c' w16 S => ⟨_, _, _, rfl, ?_⟩
  obtain ⟨ps', hps'⟩ : ∃ ps', ps' = C.parts ++ [(nm, ps.length)] := ⟨_, rfl⟩
  rw [← hps'] at S ⊢
  have hpl : ps'.length = C.parts.length + 1 := by rw [hps']; simp
  have hp24 : ∀ p ∈ ps', p.2 ≤ 1024 := fun p hp => by
    rw [hps'] at hp
    rcases List.mem_append.1 hp with h | h
    · exact (hC.parts p h).2.2
    · rw [List.mem_singleton.1 h]
      have := hok.len
      simpa [rws] using this
  refine S.sto 3 rfl (i := 1) (cs' := #[.slice ca C.cols.length cc, .slice a' ps'.length c', .map (some bm)]) (by simp) rfl fun w17 S => S.draw fun w18 _ S => ?_
  have hfin : ∀ {wx : World} {bf : Nat} {X Y Z : It}, ST w0 wx (It.cells bf #[.string nm, .string dt] ty.api_File :: X :: Y :: Z :: (catH bc ca cc a' c' bm n { C with parts := ps' } ++ H)) →
      DidP w0 H bc ca cc bm n (AddR C cs (rws ps)) (.tuple #[.agg #[.int .i64 0, .int .i64 (rowsN ps' : Int)], .slice (some ⟨bf, 0, none⟩) 1 1]) wx := fun {wx bf X Y Z} S =>
    ⟨(0, rowsN ps'), [(nm, dt)], { C with parts := ps' }, some ⟨bf, 0, none⟩, a', c', .inr (.inr ⟨he, hlt, bb, hI, by rw [← hdt, ← hnm, hps']; simp [rws], rfl, by rw [← hdt, ← hnm]⟩), rfl,
      (S.chg 0 rfl (.refl _ _) (It.rd (some ⟨bf, 0, none⟩) (filesL [(nm, dt)])) (S.rdc 0 rfl) (fun k hk => .inl hk)).keep 3⟩
  refine ⟨_, _, _, S.cell 3 rfl rfl, _, S.cell 1 rfl rfl, _, S.cell 1 rfl rfl, ?_, ?_⟩
  · refine (many_ok (ps := ps') (S.rd 5 rfl) (by omega) hp24).mono ?_
    rintro _ w19 ⟨_, rfl, rfl, B19⟩
    have S := S.grown B19
    refine ⟨_, rfl, ⟨S.cell 1 rfl rfl, S.cell 1 rfl rfl⟩, ?_, ?_⟩
    · exact S.newB fun b42 w20 _ _ S => S.sto 3 rfl (cs' := #[.int .i64 0, .int .i64 0]) (by simp) rfl fun w21 S => S.sto 3 rfl (cs' := #[.int .i64 0, .int .i64 (rowsN ps' : Int)]) (by simp) rfl fun w22 S => ⟨_, S.cell 3 rfl rfl, _, S.cell 3 rfl rfl, hfin S⟩
    · exact S.sto 2 rfl (cs' := #[.int .i64 0, .int .i64 0]) (by simp) rfl fun w23 S => S.sto 2 rfl (cs' := #[.int .i64 0, .int .i64 (rowsN ps' : Int)]) (by simp) rfl fun w24 S => ⟨⟨S.cell 1 rfl rfl, S.cell 1 rfl rfl⟩, S.newB fun b45 w25 _ _ S => ⟨_, S.cell 3 rfl rfl, _, S.cell 3 rfl rfl, hfin S⟩⟩
  · refine S.newB fun b48 w26 _ _ S => ⟨S.cell 4 rfl rfl, (many_ok (ps := ps') (S.rd 6 rfl) (by omega) hp24).mono ?_⟩
    rintro _ w27 ⟨_, rfl, rfl, B27⟩
    have S := S.grown B27
    exact ⟨_, rfl, S.sto 3 rfl (cs' := #[.int .i64 0, .int .i64 0]) (by simp) rfl fun w28 S => S.sto 3 rfl (cs' := #[.int .i64 0, .int .i64 (rowsN ps' : Int)]) (by simp) rfl fun w29 S => ⟨_, S.cell 3 rfl rfl, _, S.cell 3 rfl rfl, hfin S⟩⟩
end
def idsOf : List Cli → List Nat
  | [] => []
  | c :: k => if c.1 ∈ idsOf k then idsOf k else c.1 :: idsOf k
theorem idsOf_mem : ∀ (k : List Cli) (i : Nat), i ∈ idsOf k ↔ i ∈ k.map (·.1)
  | [], i => by simp [idsOf]
  | c :: k, i => by
    have ih := idsOf_mem k
    unfold idsOf
    split
    · rename_i h
      rw [ih i, List.map_cons, List.mem_cons]
      constructor
      · exact .inr
      · rintro (rfl | h2)
        · exact (ih _).1 h
        · exact h2
    · rw [List.mem_cons, ih i, List.map_cons, List.mem_cons]
theorem idsOf_nodup : ∀ (k : List Cli), (idsOf k).Nodup
  | [] => by simp [idsOf]
  | c :: k => by
    unfold idsOf
    split
    · exact idsOf_nodup k
    · rename_i h
      exact List.nodup_cons.2 ⟨h, idsOf_nodup k⟩
def cntC (k : List Cli) : Nat := (idsOf k).length
theorem und_i64 : Tryz.prog.underlying ty.int64 = some (.int .i64) := by kernel_rfl
theorem und_cmap : Tryz.prog.underlying ty.map_int64_catalog_client = some (.map ty.int64 ty.catalog_client) := by kernel_rfl
theorem zero_cli (w : World) : (zeroValue ty.catalog_client).run Tryz.prog w = .ok (triV (0, 0, 0)) w := Tryz.zeroValue99 w
def CreR (C : CatS) (cs : List Col) (d : Nat × Nat) (fs : List Fil) (C' : CatS) : Prop :=
  (C.cols ≠ [] ∧ d = (2, 0) ∧ fs = [] ∧ C' = C) ∨ (C.cols = [] ∧ d = (0, 0) ∧ fs = [] ∧ C' = { C with cols := cs })
def IngR (C : CatS) (id num : Nat) (cs : List Col) (rows : List (List Val)) (d : Nat × Nat) (fs : List Fil) (C' : CatS) : Prop :=
  (∃ t, mapOf C.k id = some t ∧ t.1 = num ∧ d = t.2 ∧ fs = [] ∧ C' = C) ∨ (∃ t, mapOf C.k id = some t ∧ num < t.1 ∧ d = (2, 0) ∧ fs = [] ∧ C' = C) ∨
    (mapOf C.k id = none ∧ cntC C.k = 64 ∧ d = (130, 0) ∧ fs = [] ∧ C' = C) ∨
    ((∀ t, mapOf C.k id = some t → t.1 < num) ∧ (mapOf C.k id = none → cntC C.k ≠ 64) ∧ ∃ C1, AddR C cs rows d fs C1 ∧ C' = { C1 with k := C1.k ++ [(id, num, d)] })
def Did (w0 : World) (H : List It) (bc bm N : Nat) (R : Nat × Nat → List Fil → CatS → Prop) (v : Value) (w' : World) : Prop :=
  ∃ d fs C' fa ca cc pa pc n, R d fs C' ∧ v = doneV d fa fs ∧ (ca = none ↔ C'.cols = []) ∧ n ≤ N ∧ ST w0 w' (It.rd fa (filesL fs) :: (catH bc ca cc pa pc bm n C' ++ H))
section
variable {w0 w : World} {H : List It} {bc bm n N cc pc : Nat} {ca pa : Option Addr} {C : CatS}
theorem gOf_nats (k : List Cli) (i : Nat) : ∃ x y z : Nat, (gOf k (i : Int)).getD (0, 0, 0) = ((x : Int), (y : Int), (z : Int)) ∧ (mapOf k i = none ∧ (gOf k (i : Int)).isSome = false ∨ mapOf k i = some (x, y, z) ∧ (gOf k (i : Int)).isSome = true) := by
  rw [gOf_nat]
  cases h : mapOf k i with
  | none => exact ⟨0, 0, 0, rfl, .inl ⟨rfl, rfl⟩⟩
  | some t => exact ⟨t.1, t.2.1, t.2.2, rfl, .inr ⟨rfl, rfl⟩⟩
theorem len_ok {k : List Cli} (h : MapI Tryz.prog ty.int64 w bm n (gOf k)) {f : Value → World → Prop} (hf : f (.int .i64 (cntC k : Int)) w) : OPR Tryz.prog (Builtin.len_ #[ty.map_int64_catalog_client] ty.int #[.map (some bm)]) f w := by
  have := h.len und_i64 und_cmap ty.int (ks := (idsOf k).map (fun i : Nat => (i : Int))) (List.pairwise_map.2 ((idsOf_nodup k).imp fun {a b} hab e => hab (by omega))) (fun x => by
    rw [List.mem_map, gOf_some]
    constructor
    · rintro ⟨i, hi, rfl⟩
      exact ⟨by omega, by rw [Int.toNat_natCast]; exact mapOf_some.2 ((idsOf_mem k i).1 hi)⟩
    · rintro ⟨h0, h1⟩
      exact ⟨x.toNat, (idsOf_mem k _).2 (mapOf_some.1 h1), by omega⟩)
  unfold OPR
  rw [this, List.length_map]
  exact hf
set_option maxHeartbeats 1000000 in
theorem create1_ok {q0 q1 : Nat} {a : Option Addr} {c : Nat} {cs : List Col} (S : ST w0 w (It.cells q0 #[.pointer (some ⟨bc, 0, none⟩)] ty.P_catalog_Catalog :: It.cells q1 #[.slice a cs.length c] ty.L_api_Column :: colsI a c cs :: (catH bc ca cc pa pc bm n C ++ H)))
    (hR : rightCols cs = true) (hca : ca = none ↔ C.cols = []) (hN : n ≤ N) :
    Calls Tryz.prog f.catalog_Catalog_create_c1 #[.pointer (some ⟨q0, 0, none⟩), .pointer (some ⟨q1, 0, none⟩)] w (Ret (Did w0 H bc bm N (CreR C cs))) := by
  apply R.catalog_Catalog_create_c1_calls
  unfold R.catalog_Catalog_create_c1
  refine S.newB fun b3 w1 _ _ S => ⟨_, S.cell 1 rfl rfl, _, _, _, S.cell 4 rfl rfl, IFB_not (IFB_of (fun h => ?_) (fun h => ?_))⟩
  · have hn : ca = none := by simpa using h
    have hn2 := hca.1 hn
    refine ⟨_, S.cell 1 rfl rfl, _, _, _, S.cell 2 rfl rfl, S.sto 4 rfl (cs' := #[.slice a cs.length c, .slice pa C.parts.length pc, .map (some bm)]) (by simp) rfl fun w5 S => S.sto 0 rfl (cs' := #[.int .i64 0, .int .i64 0]) (by simp) rfl fun w6 S => S.sto 0 rfl (cs' := #[.int .i64 0, .int .i64 0]) (by simp) rfl fun w7 S => ⟨_, S.cell 0 rfl rfl, _, S.cell 0 rfl rfl, ?_⟩⟩
    have ha : a ≠ none := fun h => by
      have := (S.rw 3 rfl).2
      rcases this with ⟨_, h2, _⟩ | ⟨g, _, h2, _⟩
      · have := (right_len hR).1; omega
      · rw [h] at h2; cases h2
    have S := S.drop 3
    have S : ST w0 w7 (catH bc a c pa pc bm n { C with cols := cs } ++ (colsI ca cc C.cols :: H)) := by
      have S := S.pull 1 rfl
      exact S.perm (List.Perm.cons _ (List.Perm.cons _ ((List.Perm.swap _ _ _).trans (List.Perm.cons _ (List.Perm.swap _ _ _)))))
    have S : ST w0 w7 (catH bc a c pa pc bm n { C with cols := cs } ++ H) := S.sub ((List.Sublist.refl _).append (List.sublist_cons_self _ _))
    exact ⟨(0, 0), [], { C with cols := cs }, none, a, c, pa, pc, n, .inr ⟨hn2, rfl, rfl, rfl⟩, rfl, ⟨fun h => absurd h ha, fun h => absurd h (right_ne hR)⟩, hN, stNoFile S⟩
  · refine fail_tail (K := Did w0 H bc bm N (CreR C cs)) S 2 fun w' S => ?_
    have hn : C.cols ≠ [] := fun e => by rw [hca.2 e] at h; cases h
    exact ⟨(2, 0), [], C, none, ca, cc, pa, pc, n, .inl ⟨hn, rfl, rfl, rfl⟩, rfl, hca, hN, stNoFile (S.drop 3)⟩
end
end Go.Proofs.YtpnaifmmggnimaaGreatDoor
namespace Go.Proofs
set_option linter.unusedVariables false
set_option maxRecDepth 100000
open Go.RowKit Go.Maps Go.Sort Go.Shelf
def Tryz.keys60_ren : Go.Shelf.Ren := ⟨fun | 7 => 60 | 10 => 105 | n => n, fun | 23 => 71 | 26 => 2 | 3 => 99 | 28 => 106 | 0 => 0 | 27 => 105 | 33 => 155 | 4 => 4 | n => n, fun | n => n⟩
theorem Tryz.keys60 : Go.Proofs.SlLaysZI.n7 Tryz.prog Tryz.keys60_ren := {
  mixed := by kernel_rfl
  f7 := ⟨Tryz.f60.name, by decide, Tryz.func60.trans (congrArg some (by kernel_rfl))⟩
  f10 := ⟨Tryz.f105.name, by decide, Tryz.func105.trans (congrArg some (by kernel_rfl))⟩
  t0 := Tryz.underlying0
  a0 := Tryz.isAgg0
  z0 := Tryz.sizeOf0
  v0 := Tryz.zeroValue0
  t4 := Tryz.underlying4
  a4 := Tryz.isAgg4
  z4 := Tryz.sizeOf4
  v4 := Tryz.zeroValue4
  t23 := Tryz.underlying71
  a23 := Tryz.isAgg71
  z23 := Tryz.sizeOf71
  v23 := Tryz.zeroValue71
  t26 := Tryz.underlying2
  a26 := Tryz.isAgg2
  z26 := Tryz.sizeOf2
  v26 := Tryz.zeroValue2
  t27 := Tryz.underlying105
  a27 := Tryz.isAgg105
  z27 := Tryz.sizeOf105
  v27 := Tryz.zeroValue105
  t28 := Tryz.underlying106
  a28 := Tryz.isAgg106
  z28 := Tryz.sizeOf106
  v28 := Tryz.zeroValue106
  t33 := Tryz.underlying155
  a33 := Tryz.isAgg155
  z33 := Tryz.sizeOf155
  v33 := Tryz.zeroValue155 }
def Tryz.sorted59_ren : Go.Shelf.Ren := ⟨fun | 6 => 59 | 8 => 103 | 9 => 104 | 11 => 138 | 13 => 140 | 12 => 139 | 23 => 178 | 24 => 179 | 14 => 169 | 15 => 170 | 16 => 171 | 17 => 172 | 18 => 173 | 19 => 174 | 20 => 175 | 21 => 176 | 22 => 177 | 25 => 211 | 26 => 212 | 27 => 213 | 28 => 214 | 29 => 215 | 30 => 216 | 31 => 250 | n => n, fun | 26 => 2 | 28 => 106 | 24 => 103 | 0 => 0 | 3 => 3 | 37 => 163 | 48 => 184 | 50 => 92 | 4 => 4 | 40 => 236 | 39 => 235 | 45 => 138 | 5 => 5 | 9 => 9 | 51 => 274 | 55 => 278 | 57 => 312 | 58 => 313 | 33 => 155 | n => n, fun | n => n⟩
theorem Tryz.sorted59 : Go.Proofs.SlLaysZI.n6 Tryz.prog Tryz.sorted59_ren := {
  mixed := by kernel_rfl
  f6 := ⟨Tryz.f59.name, by decide, Tryz.func59.trans (congrArg some (by kernel_rfl))⟩
  f8 := ⟨Tryz.f103.name, by decide, Tryz.func103.trans (congrArg some (by kernel_rfl))⟩
  f11 := ⟨Tryz.f138.name, by decide, Tryz.func138.trans (congrArg some (by kernel_rfl))⟩
  t0 := Tryz.underlying0
  a0 := Tryz.isAgg0
  z0 := Tryz.sizeOf0
  v0 := Tryz.zeroValue0
  t24 := Tryz.underlying103
  a24 := Tryz.isAgg103
  z24 := Tryz.sizeOf103
  v24 := Tryz.zeroValue103
  t26 := Tryz.underlying2
  a26 := Tryz.isAgg2
  z26 := Tryz.sizeOf2
  v26 := Tryz.zeroValue2
  t28 := Tryz.underlying106
  a28 := Tryz.isAgg106
  z28 := Tryz.sizeOf106
  v28 := Tryz.zeroValue106
  i26 := by kernel_rfl }
def Tryz.sort104_ren : Go.Shelf.Ren := ⟨fun | 5 => 104 | 8 => 140 | 7 => 139 | 19 => 178 | 20 => 179 | 10 => 169 | 11 => 170 | 12 => 171 | 13 => 172 | 14 => 173 | 15 => 174 | 16 => 175 | 17 => 176 | 18 => 177 | 30 => 211 | 31 => 212 | 32 => 213 | 33 => 214 | 34 => 215 | 35 => 216 | 40 => 250 | n => n, fun | 23 => 103 | 25 => 2 | 3 => 3 | 32 => 163 | 22 => 103 | 0 => 0 | 44 => 184 | 46 => 92 | 4 => 4 | 36 => 236 | 35 => 235 | 41 => 138 | 5 => 5 | 9 => 9 | 53 => 274 | 57 => 278 | 63 => 312 | 64 => 313 | n => n, fun | n => n⟩
theorem Tryz.sort104 : Go.Proofs.SlLaysM.n5 Tryz.prog Tryz.sort104_ren := {
  mixed := by kernel_rfl
  f5 := ⟨Tryz.f104.name, by decide, Tryz.func104.trans (congrArg some (by kernel_rfl))⟩
  f7 := ⟨Tryz.f139.name, by decide, Tryz.func139.trans (congrArg some (by kernel_rfl))⟩
  f8 := Tryz.func140.trans (congrArg some (by kernel_rfl))
  f10 := ⟨Tryz.f169.name, by decide, Tryz.func169.trans (congrArg some (by kernel_rfl))⟩
  f11 := ⟨Tryz.f170.name, by decide, Tryz.func170.trans (congrArg some (by kernel_rfl))⟩
  f12 := ⟨Tryz.f171.name, by decide, Tryz.func171.trans (congrArg some (by kernel_rfl))⟩
  f13 := ⟨Tryz.f172.name, by decide, Tryz.func172.trans (congrArg some (by kernel_rfl))⟩
  f14 := ⟨Tryz.f173.name, by decide, Tryz.func173.trans (congrArg some (by kernel_rfl))⟩
  f15 := ⟨Tryz.f174.name, by decide, Tryz.func174.trans (congrArg some (by kernel_rfl))⟩
  f16 := ⟨Tryz.f175.name, by decide, Tryz.func175.trans (congrArg some (by kernel_rfl))⟩
  f17 := ⟨Tryz.f176.name, by decide, Tryz.func176.trans (congrArg some (by kernel_rfl))⟩
  f18 := ⟨Tryz.f177.name, by decide, Tryz.func177.trans (congrArg some (by kernel_rfl))⟩
  f19 := Tryz.func178.trans (congrArg some (by kernel_rfl))
  f20 := Tryz.func179.trans (congrArg some (by kernel_rfl))
  f30 := ⟨Tryz.f211.name, by decide, Tryz.func211.trans (congrArg some (by kernel_rfl))⟩
  f31 := Tryz.func212.trans (congrArg some (by kernel_rfl))
  f32 := Tryz.func213.trans (congrArg some (by kernel_rfl))
  f33 := ⟨Tryz.f214.name, by decide, Tryz.func214.trans (congrArg some (by kernel_rfl))⟩
  f34 := ⟨Tryz.f215.name, by decide, Tryz.func215.trans (congrArg some (by kernel_rfl))⟩
  f35 := ⟨Tryz.f216.name, by decide, Tryz.func216.trans (congrArg some (by kernel_rfl))⟩
  f40 := ⟨Tryz.f250.name, by decide, Tryz.func250.trans (congrArg some (by kernel_rfl))⟩
  t0 := Tryz.underlying0
  a0 := Tryz.isAgg0
  z0 := Tryz.sizeOf0
  v0 := Tryz.zeroValue0
  t3 := Tryz.underlying3
  a3 := Tryz.isAgg3
  z3 := Tryz.sizeOf3
  v3 := Tryz.zeroValue3
  t4 := Tryz.underlying4
  a4 := Tryz.isAgg4
  z4 := Tryz.sizeOf4
  v4 := Tryz.zeroValue4
  t5 := Tryz.underlying5
  a5 := Tryz.isAgg5
  z5 := Tryz.sizeOf5
  v5 := Tryz.zeroValue5
  t9 := Tryz.underlying9
  a9 := Tryz.isAgg9
  z9 := Tryz.sizeOf9
  v9 := Tryz.zeroValue9
  t22 := Tryz.underlying103
  a22 := Tryz.isAgg103
  z22 := Tryz.sizeOf103
  v22 := Tryz.zeroValue103
  t23 := Tryz.underlying103
  a23 := Tryz.isAgg103
  z23 := Tryz.sizeOf103
  v23 := Tryz.zeroValue103
  t25 := Tryz.underlying2
  a25 := Tryz.isAgg2
  z25 := Tryz.sizeOf2
  v25 := Tryz.zeroValue2
  t32 := Tryz.underlying163
  a32 := Tryz.isAgg163
  z32 := Tryz.sizeOf163
  v32 := Tryz.zeroValue163
  t35 := Tryz.underlying235
  a35 := Tryz.isAgg235
  z35 := Tryz.sizeOf235
  v35 := Tryz.zeroValue235
  t36 := Tryz.underlying236
  a36 := Tryz.isAgg236
  z36 := Tryz.sizeOf236
  v36 := Tryz.zeroValue236
  t41 := Tryz.underlying138
  a41 := Tryz.isAgg138
  z41 := Tryz.sizeOf138
  v41 := Tryz.zeroValue138
  t44 := Tryz.underlying184
  a44 := Tryz.isAgg184
  z44 := Tryz.sizeOf184
  v44 := Tryz.zeroValue184
  t46 := Tryz.underlying92
  a46 := Tryz.isAgg92
  z46 := Tryz.sizeOf92
  v46 := Tryz.zeroValue92
  t53 := Tryz.underlying274
  a53 := Tryz.isAgg274
  z53 := Tryz.sizeOf274
  v53 := Tryz.zeroValue274
  t57 := Tryz.underlying278
  a57 := Tryz.isAgg278
  z57 := Tryz.sizeOf278
  v57 := Tryz.zeroValue278
  t63 := Tryz.underlying312
  a63 := Tryz.isAgg312
  z63 := Tryz.sizeOf312
  v63 := Tryz.zeroValue312
  t64 := Tryz.underlying313
  a64 := Tryz.isAgg313
  z64 := Tryz.sizeOf313
  v64 := Tryz.zeroValue313 }
theorem Tryz.sorts59 (m : Nat) : AnyZI.SortsIn Tryz.prog Tryz.sorted59_ren Fence.wide m :=
  ⟨fun blk off cap ss W hH hblk hsz => callsIn_wide.2 (AnyM.slices_Sort_int Tryz.sort104 blk off cap ss W hH hblk hsz),
   fun p cap W => callsIn_wide.2 (AnyM.slices_Sort_int_none Tryz.sort104 p cap W)⟩
theorem Tryz.maps_Keys_60 (mb : Option Nat) (W : World) : CallsIn Fence.wide 5 Tryz.prog 60 #[.map mb] W fun e w' => e = .returned (.func (.func 105) #[] #[.pointer (some ⟨W.heap.size, 0, none⟩)]) ∧ w' = W.alloc (.cells #[.map mb] 71) :=
  AnyZI.keys_in Tryz.keys60 Fence.wide 5 trivial rfl mb W
set_option maxHeartbeats 1000000 in
theorem Tryz.slices_Sorted_keys_59_60 {H : Type} (b nn : Nat) (D0 : DataW H) (R : Value → Option (DataW H × List MemPlace)) (w : World) (hown : w.ownsMap Tryz.prog 2 R b nn D0) (hmax : Maps.size D0 ≤ maxLen) (hbytes : Maps.size D0 * 8 ≤ 140737488355328) :
    CallsIn Fence.wide 5 Tryz.prog 59 #[.func (.func 105) #[] #[.pointer (some ⟨w.heap.size, 0, none⟩)]] (w.alloc (.cells #[.map (some b)] 71)) fun e w' => ∃ (v : Value) (ss : List Int), e = .returned v ∧ ss.Perm (intKeys D0) ∧
      w'.ownsRow (w.alloc (.cells #[.map (some b)] 71)).heap.size 2 1 v ss.length ((ss.mergeSort (fun x y => decide (x ≤ y))).map encZ) ∧ (v = .slice none 0 0 ↔ ss = []) ∧ Below (w.alloc (.cells #[.map (some b)] 71)).heap.size (w.alloc (.cells #[.map (some b)] 71)) w' := by
  have hbl := hown.lt
  have hseq : SeqGives Fence.wide 2 Tryz.prog 105 #[.pointer (some ⟨w.heap.size, 0, none⟩)] encZ (fun ss => ss.Perm (intKeys D0)) (Maps.size D0) (w.alloc (.cells #[.map (some b)] 71)) :=
    AnyZI.keys_gives (ρ := Tryz.keys60_ren) { Tryz.keys60 with } Fence.wide _ trivial rfl (by omega) w.heap.size b nn D0 _ (by simp) (by simp) (by
      obtain ⟨es, clock, hb, Ft, hs, hD⟩ := hown
      exact ⟨es, clock, (Below.heap_alloc _ _ b hbl).trans hb, Ft, hs, hD⟩)
  exact AnyZI.sorted_in Tryz.sorted59 Fence.wide 5 trivial trivial trivial trivial rfl (by omega) (Tryz.sorts59 _) (enters_of Tryz.func104 (by kernel_rfl) rfl) 105 #[.pointer (some ⟨w.heap.size, 0, none⟩)] trivial (enters_of Tryz.func105 (by kernel_rfl) rfl) _ _ hmax hbytes _ hseq
end Go.Proofs
namespace Go.Proofs.YtpnaifmmggnimaaGreatDoor
set_option maxRecDepth 100000
open Go.Dn Go.Proofs
open Go.RowKit (Below)
set_option linter.unusedVariables false
theorem sub2 {l1 l2 H : List It} : H.Sublist (l1 ++ (l2 ++ H)) := (List.sublist_append_right l2 H).trans (List.sublist_append_right l1 _)
section
variable {w0 w : World} {H : List It} {bc bm n N cc pc : Nat} {ca pa : Option Addr} {C : CatS}
theorem rows_at {E : List It} {ra : Option Addr} {rc i : Nat} {ps : List RowP} (S : ST w0 w E) (hi : E[i]? = some (rowsI ra rc ps)) (hs : ∀ p ∈ ps, rowI p ∈ E) : RowsAt w ra ps :=
  ⟨S.rd i hi, fun p hp => Row.rd (S.ok (rowI p) (hs p hp))⟩
set_option maxHeartbeats 2000000 in
theorem ingest1_ok (T : Tabs w0) {q0 q1 q2 q3 q4 : Nat} {a ra : Option Addr} {c rc id num : Nat} {cs : List Col} {ps : List RowP}
    (S : ST w0 w (It.cells q0 #[.pointer (some ⟨bc, 0, none⟩)] ty.P_catalog_Catalog :: It.cells q1 #[.int .i64 (id : Int)] ty.int64 :: It.cells q2 #[.int .i64 (num : Int)] ty.int64 :: It.cells q3 #[.slice a cs.length c] ty.L_api_Column :: colsI a c cs ::
      It.cells q4 #[.slice ra ps.length rc] ty.L_api_Row :: rowsI ra rc ps :: (catH bc ca cc pa pc bm n C ++ (ps.map rowI ++ H))))
    (hok : SegOk cs (rws ps)) (hq : ∀ c ∈ cs, c.1.size ≤ 9223372036854775807) (hid : id ≤ greatN) (hnum : num ≤ greatN) (hC : CatOK C) (hca : ca = none ↔ C.cols = []) (hN : n ≤ N) (hN2 : N < 1000000) :
    Calls Tryz.prog f.catalog_Catalog_ingest_c1 #[.pointer (some ⟨q0, 0, none⟩), .pointer (some ⟨q1, 0, none⟩), .pointer (some ⟨q2, 0, none⟩), .pointer (some ⟨q3, 0, none⟩), .pointer (some ⟨q4, 0, none⟩)] w (Ret (Did w0 H bc bm (N + 1) (IngR C id num cs (rws ps)))) := by
  apply R.catalog_Catalog_ingest_c1_calls
  unfold R.catalog_Catalog_ingest_c1
  unfold greatN at hid hnum
  obtain ⟨x, y, z, hxyz, hcase⟩ := gOf_nats C.k id
  obtain ⟨ok, hok2⟩ : ∃ ok, ok = (gOf C.k (id : Int)).isSome := ⟨_, rfl⟩
  rw [← hok2] at hcase
  have hst : (mapOf C.k id = none ∧ ok = false) ∨ (mapOf C.k id = some (x, y, z) ∧ ok = true) := hcase
  let X : Nat → List It := fun b6 => [It.cells b6 #[.int .i64 0, .int .i64 0] ty.api_Done, It.cells q0 #[.pointer (some ⟨bc, 0, none⟩)] ty.P_catalog_Catalog, It.cells q1 #[.int .i64 (id : Int)] ty.int64, It.cells q2 #[.int .i64 (num : Int)] ty.int64, It.cells q3 #[.slice a cs.length c] ty.L_api_Column, colsI a c cs,
      It.cells q4 #[.slice ra ps.length rc] ty.L_api_Row, rowsI ra rc ps]
  refine S.newB fun b6 w1 _ _ S => ?_
  have S : ST w0 w1 (X b6 ++ (catH bc ca cc pa pc bm n C ++ (ps.map rowI ++ H))) := S
  let Q : Nat → World → Prop := fun b wx => ST w0 wx (It.cells b #[.int .i64 (x : Int), .int .i64 (y : Int), .int .i64 (z : Int)] ty.catalog_client :: (X b6 ++ (catH bc ca cc pa pc bm n C ++ (ps.map rowI ++ H))))
  have drp : ∀ {wx : World} {b : Nat}, Q b wx → ST w0 wx (It.cells b6 #[.int .i64 0, .int .i64 0] ty.api_Done :: (catH bc ca cc pa pc bm n C ++ H)) := fun {wx b} S =>
    S.sub (.cons _ (.cons_cons _ ((List.Sublist.append (List.Sublist.refl _) (List.sublist_append_right _ _)).trans (List.sublist_append_right [_, _, _, _, _, _, _] _))))
  have kout : ∀ (d : Nat × Nat) {wx : World}, IngR C id num cs (rws ps) d [] C → ST w0 wx (catH bc ca cc pa pc bm n C ++ H) → Did w0 H bc bm (N + 1) (IngR C id num cs (rws ps)) (.tuple #[.agg #[.int .i64 (d.1 : Int), .int .i64 (d.2 : Int)], .slice none 0 0]) wx := fun d wx hI S =>
    ⟨d, [], C, none, ca, cc, pa, pc, n, hI, rfl, hca, by omega, stNoFile S⟩
  refine ⟨fun s wx => ∃ b, s = [.pointer (some ⟨b, 0, none⟩), .bool ok] ∧ Q b wx, ?_, ?_⟩
  · refine S.draw fun w2 _ S => ⟨_, S.cell 1 rfl rfl, _, S.cell 8 rfl rfl, _, S.cell 2 rfl rfl, ?_, ?_⟩
    · refine S.mgetokI 11 rfl und_i64 und_cmap (zero_cli _) (by omega) ?_
      rw [← hok2, hxyz]
      refine ⟨_, _, _, _, rfl, S.newB fun b16 w4 _ _ S => S.sto 0 rfl (cs' := #[.int .i64 (x : Int), .int .i64 0, .int .i64 0]) (by simp) rfl fun w5 S => S.sto 0 rfl (cs' := #[.int .i64 (x : Int), .int .i64 (y : Int), .int .i64 0]) (by simp) rfl fun w6 S => S.sto 0 rfl (cs' := #[.int .i64 (x : Int), .int .i64 (y : Int), .int .i64 (z : Int)]) (by simp) rfl fun w7 S => ⟨b16, rfl, S⟩⟩
    · refine S.newB fun b17 w8 _ _ S => ⟨S.cell 3 rfl rfl, S.cell 9 rfl rfl, S.cell 2 rfl rfl, ?_⟩
      refine S.mgetokI 12 rfl und_i64 und_cmap (zero_cli _) (by omega) ?_
      rw [← hok2, hxyz]
      refine ⟨_, _, _, _, rfl, S.sto 0 rfl (cs' := #[.int .i64 (x : Int), .int .i64 0, .int .i64 0]) (by simp) rfl fun w5 S => S.sto 0 rfl (cs' := #[.int .i64 (x : Int), .int .i64 (y : Int), .int .i64 0]) (by simp) rfl fun w6 S => S.sto 0 rfl (cs' := #[.int .i64 (x : Int), .int .i64 (y : Int), .int .i64 (z : Int)]) (by simp) rfl fun w7 S => ⟨b17, rfl, S⟩⟩
  clear S
  rintro _ _ w13 ⟨b, hs, S⟩
  cases hs
  refine ⟨fun s wx => s = [] ∧ Q b wx ∧ (∀ t, mapOf C.k id = some t → t.1 < num) ∧ (mapOf C.k id = none → cntC C.k ≠ 64), ?_, ?_⟩
  · refine ⟨fun s wx => s = [.bool (ok && decide (x = num))] ∧ Q b wx, ?_, ?_⟩
    · refine IFB_of (fun h => ⟨_, S.cell 0 rfl rfl, _, S.cell 4 rfl rfl, ?_, S⟩) (fun h => ⟨by rw [h]; rfl, S⟩)
      rw [h, Bool.true_and]
      congr 2
      by_cases h2 : x = num
      · simp [h2]
      · have : ¬ (x : Int) = (num : Int) := by omega
        simp [h2, this]
    clear S
    rintro _ w14 ⟨hs, S⟩
    cases hs
    refine IFB_of (fun h => ?_) (fun h1 => ?_)
    · simp only [Bool.and_eq_true, decide_eq_true_eq] at h
      obtain ⟨hk, rfl⟩ := h
      have hm : mapOf C.k id = some (x, y, z) := by
        rcases hst with ⟨_, h2⟩ | ⟨h2, _⟩
        · rw [h2] at hk; cases hk
        · exact h2
      refine ⟨_, S.cell 0 rfl rfl, _, S.cell 0 rfl rfl, S.sto 1 rfl (cs' := #[.int .i64 (y : Int), .int .i64 0]) (by simp) rfl fun w15 S => S.sto 1 rfl (cs' := #[.int .i64 (y : Int), .int .i64 (z : Int)]) (by simp) rfl fun w16 S => ⟨_, S.cell 1 rfl rfl, _, S.cell 1 rfl rfl, ?_⟩⟩
      exact kout (y, z) (.inl ⟨_, hm, rfl, rfl, rfl, rfl⟩) (S.sub (.cons _ (.cons _ ((List.Sublist.append (List.Sublist.refl _) (List.sublist_append_right _ _)).trans (List.sublist_append_right [_, _, _, _, _, _, _] _)))))
    refine ⟨fun s wx => s = [.bool (ok && decide (num < x))] ∧ Q b wx, ?_, ?_⟩
    · refine IFB_of (fun h => ⟨_, S.cell 0 rfl rfl, _, S.cell 4 rfl rfl, ?_, S⟩) (fun h => ⟨by rw [h]; rfl, S⟩)
      rw [h, Bool.true_and]
      congr 2
      by_cases h2 : num < x
      · have : (x : Int) > (num : Int) := by omega
        simp [h2, this]
      · have : ¬ (x : Int) > (num : Int) := by omega
        simp [h2, this]
    clear S
    rintro _ w17 ⟨hs, S⟩
    cases hs
    refine IFB_of (fun h => ?_) (fun h2 => ?_)
    · simp only [Bool.and_eq_true, decide_eq_true_eq] at h
      obtain ⟨hk, hlt⟩ := h
      have hm : mapOf C.k id = some (x, y, z) := by
        rcases hst with ⟨_, h2⟩ | ⟨h2, _⟩
        · rw [h2] at hk; cases hk
        · exact h2
      exact fail_tail (K := Did w0 H bc bm (N + 1) (IngR C id num cs (rws ps))) (drp S) 2 fun w' S => kout (2, 0) (.inr (.inl ⟨_, hm, hlt, rfl, rfl, rfl⟩)) S
    refine IFB_not (IFB_of (fun hk => ?_) (fun hk => ?_))
    · refine ⟨rfl, S, fun t ht => ?_, fun h => ?_⟩
      · rcases hst with ⟨h3, _⟩ | ⟨h3, _⟩
        · rw [h3] at ht; cases ht
        · rw [h3] at ht
          cases ht
          rw [hk, Bool.true_and, decide_eq_false_iff_not] at h1 h2
          omega
      · rcases hst with ⟨_, h3⟩ | ⟨h3, _⟩
        · rw [h3] at hk; cases hk
        · rw [h3] at h; cases h
    · have hm : mapOf C.k id = none := by
        rcases hst with ⟨h3, _⟩ | ⟨_, h3⟩
        · exact h3
        · rw [h3] at hk; cases hk
      refine ⟨_, S.cell 2 rfl rfl, _, S.cell 9 rfl rfl, len_ok (S.get 12 rfl) ⟨_, rfl, IFB_eq (fun h => ?_) (fun h => ?_)⟩⟩
      · exact fail_tail (K := Did w0 H bc bm (N + 1) (IngR C id num cs (rws ps))) (drp S) 130 fun w' S => kout (130, 0) (.inr (.inr (.inl ⟨hm, by omega, rfl, rfl, rfl⟩))) S
      · exact ⟨rfl, S, fun t ht => (by rw [hm] at ht; cases ht), fun _ => by omega⟩
  clear S
  rintro w25 ⟨_, S, hlt, hcnt⟩
  refine ⟨_, S.cell 2 rfl rfl, _, _, _, S.cell 5 rfl rfl, _, _, _, S.cell 7 rfl rfl, ?_⟩
  have hcs : Rd w25 a (colsL cs) := S.rd 6 rfl
  have hrw : RowsAt w25 ra ps := rows_at S (i := 8) rfl fun p hp => by
    refine List.mem_cons_of_mem _ (List.mem_append_right _ (List.mem_append_right _ (List.mem_append_left _ (List.mem_map.2 ⟨p, hp, rfl⟩))))
  have S : ST w0 w25 ((It.cells b #[.int .i64 (x : Int), .int .i64 (y : Int), .int .i64 (z : Int)] ty.catalog_client :: X b6) ++ (catH bc ca cc pa pc bm n C ++ (ps.map rowI ++ H))) := S
  have S := ST.mid (catH bc ca cc pa pc bm n C) S
  have hcl := right_len hok.right
  refine (add_ok (c := c) (c2 := rc) T S hC hcs (by omega) hq hrw hok).mono ?_
  rintro _ w26 ⟨_, rfl, d, fs, C1, fa, pa', pc', hA, rfl, S⟩
  obtain ⟨d1, d2⟩ := d
  refine ⟨_, _, _, _, _, rfl, S.newB fun b66 w27 _ _ S => S.sto 0 rfl (cs' := #[.int .i64 (d1 : Int), .int .i64 0]) (by simp) rfl fun w28 S => S.sto 0 rfl (cs' := #[.int .i64 (d1 : Int), .int .i64 (d2 : Int)]) (by simp) rfl fun w29 S => S.draw fun w30 _ S =>
    ⟨_, S.cell 8 rfl rfl, _, S.cell 2 rfl rfl, _, S.cell 9 rfl rfl, _, S.cell 10 rfl rfl, _, S.cell 0 rfl rfl, _, S.cell 0 rfl rfl, ?_⟩⟩
  refine S.mputI 5 rfl und_i64 und_cmap (by unfold maxLen; omega) (by omega) ((num : Int), (d1 : Int), (d2 : Int)) fun w31 S => ⟨_, S.cell 0 rfl rfl, _, S.cell 0 rfl rfl, S.sto 7 rfl (cs' := #[.int .i64 (d1 : Int), .int .i64 0]) (by simp) rfl fun w32 S => S.sto 7 rfl (cs' := #[.int .i64 (d1 : Int), .int .i64 (d2 : Int)]) (by simp) rfl fun w33 S => ⟨_, S.cell 7 rfl rfl, _, S.cell 7 rfl rfl, ?_⟩⟩
  have hk1 : C1.k = C.k := by
    rcases hA with ⟨_, _, _, rfl⟩ | ⟨_, _, _, _, rfl⟩ | ⟨_, _, _, _, rfl, _⟩ <;> rfl
  have hc1 : C1.cols = C.cols := by
    rcases hA with ⟨_, _, _, rfl⟩ | ⟨_, _, _, _, rfl⟩ | ⟨_, _, _, _, rfl, _⟩ <;> rfl
  have S := S.drop 1
  have eg : (fun y => if y = (id : Int) then some ((num : Int), (d1 : Int), (d2 : Int)) else gOf C1.k y) = gOf (C1.k ++ [(id, num, d1, d2)]) := (gOf_snoc C1.k (id, num, d1, d2)).symm
  have S : ST w0 w33 (It.rd fa (filesL fs) :: (catH bc ca cc pa' pc' bm (n + 1) { C1 with k := C1.k ++ [(id, num, d1, d2)] } ++ H)) := by
    rw [eg] at S
    exact S.sub (.cons_cons _ (.cons_cons _ (.cons_cons _ (.cons_cons _ (.cons_cons _ (sub2 (l1 := [_, _, _, _, _, _, _, _, _]) (l2 := ps.map rowI)))))))
  exact ⟨(d1, d2), fs, _, fa, ca, cc, pa', pc', n + 1, .inr (.inr (.inr ⟨hlt, hcnt, C1, hA, rfl⟩)), rfl, by simp only [hc1]; exact hca, by omega, S⟩
end
section
variable {w0 w : World} {H : List It} {b : Nat} {a : Option Addr} {c at_ : Nat} {bad : Bool} {l : List UInt8}
theorem rrows_bad {ca : Option Addr} {cn cc : Nat} (S : ST w0 w H) (n : Nat) (hn : H[n]? = some (rdrI b a l.length c at_ true)) :
    Calls Tryz.prog f.catalog_reader_rows #[.pointer (some ⟨b, 0, none⟩), .slice ca cn cc] w (Ret fun v w' => v = .slice none 0 0 ∧ w' = w) := by
  apply R.catalog_reader_rows_calls
  unfold R.catalog_reader_rows
  exact ⟨_, S.cell n hn rfl, IFB_of (fun _ => ⟨rfl, rfl⟩) (fun h => by cases h)⟩
theorem rrows_ok {ca : Option Addr} {cc : Nat} {cs : List Col} (S : ST w0 w H) (n m : Nat) (hn : H[n]? = some (rdrI b a l.length c at_ false)) (hm : H[m]? = some (It.rd a (l.map byteV))) (hc : l.length ≤ c) (hs : l.length ≤ 140737488355328)
    (hcs : Rd w ca (colsL cs)) (hcn : cs.length ≤ 9223372036854775807) (hq : ∀ c ∈ cs, c.1.size ≤ 9223372036854775807) :
    Calls Tryz.prog f.catalog_reader_rows #[.pointer (some ⟨b, 0, none⟩), .slice ca cs.length cc] w (Ret fun v w' => ∃ (ra : Option Addr) (rc : Nat) (ps : List RowP) (at' : Nat) (bad' : Bool), v = .slice ra ps.length rc ∧
      ST w0 w' (rowsI ra rc ps :: (H.set n (rdrI b a l.length c at' bad') ++ ps.map rowI)) ∧ ((bad' = false ∧ takeRows l cs (at_ : Int) = some (rws ps, at') ∧ ps ≠ []) ∨ (bad' = true ∧ ∀ x, takeRows l cs (at_ : Int) = some x → x.1 = []))) := by
  apply R.catalog_reader_rows_calls
  unfold R.catalog_reader_rows
  refine ⟨_, S.cell n hn rfl, IFB_of (fun h => by cases h) (fun _ => ?_)⟩
  refine S.draw fun w1 B1 S => ⟨_, _, _, S.cell n hn rfl, _, S.cell n hn rfl, ?_⟩
  refine (schema_TakeRows_ok (S.get m hm) hc hs (at_ : Int) (hcs.grown B1) hcn hq).mono ?_
  rintro _ w2 ⟨_, rfl, hx⟩
  cases ho : takeRows l cs (at_ : Int) with
  | none =>
    rw [ho] at hx
    obtain ⟨e, he, rfl, B⟩ := hx
    have S := S.grown B
    refine ⟨_, _, _, _, _, rfl, IFB_ne (fun _ => ?_) (fun h => absurd h he)⟩
    have hlt := (List.getElem?_eq_some_iff.1 hn).1
    simp only [PTR]
    refine S.sto n hn (i := 2) (cs' := #[.slice a l.length c, .int .i64 (at_ : Int), .bool true]) (by simp) rfl fun w3 S => ?_
    refine S.sto n (List.getElem?_set_self hlt) (i := 1) (cs' := #[.slice a l.length c, .int .i64 0, .bool true]) (by simp) rfl fun w4 S => ?_
    rw [List.set_set] at S
    exact ⟨none, 0, [], 0, true, rfl, (by
      have S := S.nil ty.api_Row 1
      rw [List.map_nil, List.append_nil]
      exact S), .inr ⟨rfl, fun x hx => by cases hx⟩⟩
  | some x =>
    rw [ho] at hx
    obtain ⟨ra, rc, ps, rfl, hps, R⟩ := hx
    have S := S.join R
    have S : ST w0 w2 (H ++ (rowsI ra rc ps :: ps.map rowI)) := S.perm List.perm_append_comm
    have hlt := (List.getElem?_eq_some_iff.1 hn).1
    have hn' : (H ++ (rowsI ra rc ps :: ps.map rowI))[n]? = some (rdrI b a l.length c at_ false) := by rw [List.getElem?_append_left hlt]; exact hn
    have hlt' := (List.getElem?_eq_some_iff.1 hn').1
    refine ⟨_, _, _, _, _, rfl, IFB_ne (fun h => absurd rfl h) (fun _ => ?_)⟩
    simp only [PTR]
    refine S.sto n hn' (i := 2) (cs' := #[.slice a l.length c, .int .i64 (at_ : Int), .bool ((ps.length : Int) == 0)]) (by simp) rfl fun w3 S => ?_
    refine S.sto n (List.getElem?_set_self hlt') (i := 1) (cs' := #[.slice a l.length c, .int .i64 (x.2 : Int), .bool ((ps.length : Int) == 0)]) (by simp) rfl fun w4 S => ?_
    rw [List.set_set, List.set_append_left _ _ hlt] at S
    refine ⟨ra, rc, ps, x.2, ((ps.length : Int) == 0), rfl, S.perm List.perm_middle, ?_⟩
    cases hl : ps with
    | nil =>
      refine .inr ⟨rfl, fun y hy => ?_⟩
      cases hy
      rw [← hps, hl]
      rfl
    | cons p qs =>
      refine .inl ⟨?_, ?_, by simp⟩
      · simp
        omega
      · rw [← hl, hps]
def ingR (l : List UInt8) (at_ : Nat) : Option ((Nat × Nat × List Col × List (List Val)) × Nat) :=
  (numR l 0 greatN at_).bind fun x => (numR l 1 greatN x.2).bind fun y => (takeSch l (y.2 : Int)).bind fun z => (takeRows l z.1 (z.2 : Int)).bind fun u => if u.1 = [] then none else some ((x.1, y.1, z.1, u.1), u.2)
def RdrP (w0 : World) (H : List It) (bc bm N b : Nat) (a : Option Addr) (n c : Nat) (C : CatS) (Q : Nat × Nat → List Fil → CatS → Prop) (v : Value) (w' : World) : Prop :=
  ∃ at' bad' g ca Z pc cc pa ca' m, v = .func (.func g) #[] ca ∧ enters Tryz.prog g = true ∧ ST w0 w' (rdrI b a n c at' bad' :: (Z ++ (catH bc ca' cc pa pc bm m C ++ H))) ∧ (ca' = none ↔ C.cols = []) ∧ m ≤ N ∧
    ((bad' = true ∨ at' ≠ n) → Q (220, 0) [] C) ∧
    (bad' = false → at' = n → ∀ wx, ST w0 wx (rdrI b a n c at' bad' :: (Z ++ (catH bc ca' cc pa pc bm m C ++ H))) → Calls Tryz.prog g ca wx (Ret (Did w0 H bc bm (N + 1) Q)))
def Cmd1 (C : CatS) (l : List UInt8) (d : Nat × Nat) (fs : List Fil) (C' : CatS) : Prop :=
  (∃ cs, takeSch l 1 = some (cs, l.length) ∧ CreR C cs d fs C') ∨ ((∀ cs, takeSch l 1 ≠ some (cs, l.length)) ∧ d = (220, 0) ∧ fs = [] ∧ C' = C)
def Cmd2 (C : CatS) (l : List UInt8) (d : Nat × Nat) (fs : List Fil) (C' : CatS) : Prop :=
  (∃ x, ingR l 1 = some (x, l.length) ∧ IngR C x.1 x.2.1 x.2.2.1 x.2.2.2 d fs C') ∨ ((∀ x, ingR l 1 ≠ some (x, l.length)) ∧ d = (220, 0) ∧ fs = [] ∧ C' = C)
theorem create_ok {bc bm n N cc pc : Nat} {ca pa : Option Addr} {C : CatS} (S : ST w0 w (rdrI b a l.length c 1 false :: It.rd a (l.map byteV) :: (catH bc ca cc pa pc bm n C ++ H))) (hc : l.length ≤ c) (hs : l.length ≤ 140737488355328) (hca : ca = none ↔ C.cols = []) (hN : n ≤ N) :
    Calls Tryz.prog f.catalog_Catalog_create #[.pointer (some ⟨bc, 0, none⟩), .pointer (some ⟨b, 0, none⟩)] w (Ret (RdrP w0 H bc bm N b a l.length c C (Cmd1 C l))) := by
  apply R.catalog_Catalog_create_calls
  unfold R.catalog_Catalog_create
  refine S.newB fun b3 w1 _ _ S => ?_
  refine (rschema_ok S 1 2 rfl rfl hc hs).mono ?_
  rintro _ w2 ⟨_, rfl, sa, sc, cs, at', bad', rfl, S, hG, _⟩
  refine ⟨_, _, _, rfl, S.newB fun b6 w3 _ _ S => S.sto 0 rfl (cs' := #[.slice sa cs.length sc]) (by simp) rfl fun w4 S => ?_⟩
  have S : ST w0 w4 (rdrI b a l.length c at' bad' :: ([It.cells b6 #[.slice sa cs.length sc] ty.L_api_Column, colsI sa sc cs, It.cells b3 #[.pointer (some ⟨bc, 0, none⟩)] ty.P_catalog_Catalog, It.rd a (l.map byteV)] ++ (catH bc ca cc pa pc bm n C ++ H))) := S.pull 3 rfl
  refine ⟨at', bad', f.catalog_Catalog_create_c1, #[.pointer (some ⟨b3, 0, none⟩), .pointer (some ⟨b6, 0, none⟩)], _, pc, cc, pa, ca, n, rfl, by kernel_rfl, S, hca, hN, fun h => .inr ⟨fun cs' e => ?_, rfl, rfl, rfl⟩, fun hb ha wx S => ?_⟩
  · rcases hG with ⟨h1, _, h2⟩ | ⟨_, h2 | h2⟩
    · rw [show ((1 : Nat) : Int) = 1 from rfl, e] at h2
      cases h2
      rcases h with h | h
      · rw [h1] at h; cases h
      · exact h rfl
    · cases h2
    · rw [show ((1 : Nat) : Int) = 1 from rfl, e] at h2; cases h2
  · subst hb
    subst ha
    obtain ⟨_, h2⟩ := hG.ok
    have hR := takeSch_right h2
    have S := S.drop 1
    have S : ST w0 wx (It.cells b3 #[.pointer (some ⟨bc, 0, none⟩)] ty.P_catalog_Catalog :: It.cells b6 #[.slice sa cs.length sc] ty.L_api_Column :: colsI sa sc cs :: (catH bc ca cc pa pc bm n C ++ H)) :=
      (S.pull 2 rfl).sub (.cons_cons _ (.cons_cons _ (.cons_cons _ (.cons _ (List.Sublist.refl _)))))
    refine (create1_ok (N := N) S hR hca hN).mono ?_
    rintro _ w' ⟨v, rfl, d, fs, C', fa, ca2, cc2, pa2, pc2, n2, h3, h4, h5, h6, h7⟩
    exact ⟨v, rfl, d, fs, C', fa, ca2, cc2, pa2, pc2, n2, .inl ⟨cs, h2, h3⟩, h4, h5, by omega, h7⟩
theorem Got.some {α : Type} {bad' : Bool} {o : Option α} {x y : α} (h : Got false bad' o x) (hy : o = Option.some y) : bad' = false ∧ x = y := by
  rcases h with ⟨h1, _, h2⟩ | ⟨_, h2 | h2⟩
  · rw [hy] at h2
    exact ⟨h1, (Option.some.inj h2).symm⟩
  · cases h2
  · rw [hy] at h2; cases h2
theorem ingR_some {l : List UInt8} {at_ : Nat} {x : Nat × Nat × List Col × List (List Val)} {k : Nat} (h : ingR l at_ = some (x, k)) :
    ∃ a1 a2 a3, numR l 0 greatN at_ = some (x.1, a1) ∧ numR l 1 greatN a1 = some (x.2.1, a2) ∧ takeSch l (a2 : Int) = some (x.2.2.1, a3) ∧ takeRows l x.2.2.1 (a3 : Int) = some (x.2.2.2, k) ∧ x.2.2.2 ≠ [] := by
  unfold ingR at h
  obtain ⟨y1, h1, h⟩ := Option.bind_eq_some_iff.1 h
  obtain ⟨y2, h2, h⟩ := Option.bind_eq_some_iff.1 h
  obtain ⟨y3, h3, h⟩ := Option.bind_eq_some_iff.1 h
  obtain ⟨y4, h4, h⟩ := Option.bind_eq_some_iff.1 h
  split at h
  · cases h
  · rename_i hne
    cases h
    exact ⟨y1.2, y2.2, y3.2, h1, h2, h3, h4, hne⟩
set_option maxHeartbeats 1000000 in
theorem ingest_ok (T : Tabs w0) {bc bm n N cc pc : Nat} {ca pa : Option Addr} {C : CatS} (S : ST w0 w (rdrI b a l.length c 1 false :: It.rd a (l.map byteV) :: (catH bc ca cc pa pc bm n C ++ H))) (hc : l.length ≤ c) (hs : l.length ≤ 140737488355328) (hC : CatOK C) (hca : ca = none ↔ C.cols = []) (hN : n ≤ N) (hN2 : N < 1000000) :
    Calls Tryz.prog f.catalog_Catalog_ingest #[.pointer (some ⟨bc, 0, none⟩), .pointer (some ⟨b, 0, none⟩)] w (Ret (RdrP w0 H bc bm N b a l.length c C (Cmd2 C l))) := by
  apply R.catalog_Catalog_ingest_calls
  unfold R.catalog_Catalog_ingest
  refine S.newB fun b3 w1 _ _ S => ?_
  refine (rnumber_ok S 1 2 rfl rfl hc hs 0 greatN (Nat.le_refl _)).mono ?_
  rintro _ w2 ⟨_, rfl, z1, at1, bad1, rfl, S, G1, _⟩
  refine ⟨_, rfl, (rnumber_ok S 1 2 rfl rfl hc hs 1 greatN (Nat.le_refl _)).mono ?_⟩
  rintro _ w3 ⟨_, rfl, z2, at2, bad2, rfl, S, G2, _⟩
  refine ⟨_, rfl, S.newB fun b8 w4 _ _ S => S.newB fun b9 w5 _ _ S => S.sto 1 rfl (cs' := #[.int .i64 (z1 : Int)]) (by simp) rfl fun w6 S => S.sto 0 rfl (cs' := #[.int .i64 (z2 : Int)]) (by simp) rfl fun w7 S => ?_⟩
  refine (rschema_ok S 3 4 rfl rfl hc hs).mono ?_
  rintro _ w8 ⟨_, rfl, sa, sc, cs, at3, bad3, rfl, S, G3, _⟩
  refine ⟨_, _, _, rfl, S.newB fun b12 w9 _ _ S => S.sto 0 rfl (cs' := #[.slice sa cs.length sc]) (by simp) rfl fun w10 S => ⟨_, _, _, S.cell 0 rfl rfl, ?_⟩⟩
  have hsome : ∀ x k, ingR l 1 = some (x, k) → bad3 = false ∧ z1 = x.1 ∧ z2 = x.2.1 ∧ cs = x.2.2.1 ∧ takeRows l cs (at3 : Int) = some (x.2.2.2, k) ∧ x.2.2.2 ≠ [] := fun x k e => by
    obtain ⟨a1, a2, a3, h1, h2, h3, h4, h5⟩ := ingR_some e
    obtain ⟨rfl, e1⟩ := G1.some h1
    obtain ⟨rfl, rfl⟩ := Prod.mk.inj e1
    obtain ⟨rfl, e2⟩ := G2.some h2
    obtain ⟨rfl, rfl⟩ := Prod.mk.inj e2
    obtain ⟨rfl, e3⟩ := G3.some h3
    obtain ⟨rfl, rfl⟩ := Prod.mk.inj e3
    exact ⟨rfl, rfl, rfl, rfl, h4, h5⟩
  cases bad3 with
  | true =>
    refine (rrows_bad S 5 rfl).mono ?_
    rintro _ w11 ⟨_, rfl, rfl, rfl⟩
    refine ⟨_, _, _, rfl, S.newB fun b16 w12 _ _ S => S.sto 0 rfl (cs' := #[.slice none 0 0]) (by simp) rfl fun w13 S => ?_⟩
    have S : ST w0 w13 (rdrI b a l.length c at3 true :: ([It.cells b16 #[.slice none 0 0] ty.L_api_Row, It.cells b12 #[.slice sa cs.length sc] ty.L_api_Column, colsI sa sc cs, It.cells b9 #[.int .i64 (z2 : Int)] ty.int64, It.cells b8 #[.int .i64 (z1 : Int)] ty.int64, It.cells b3 #[.pointer (some ⟨bc, 0, none⟩)] ty.P_catalog_Catalog,
      It.rd a (l.map byteV)] ++ (catH bc ca cc pa pc bm n C ++ H))) := S.pull 6 rfl
    exact ⟨at3, true, f.catalog_Catalog_ingest_c1, _, _, pc, cc, pa, ca, n, rfl, by kernel_rfl, S, hca, hN, fun _ => .inr ⟨fun x e => (by have := (hsome x _ e).1; cases this), rfl, rfl, rfl⟩, fun h => by cases h⟩
  | false =>
    obtain ⟨hb2, h3⟩ := G3.ok
    subst hb2
    obtain ⟨hb1, h2⟩ := G2.ok
    subst hb1
    obtain ⟨_, h1⟩ := G1.ok
    have hR := takeSch_right h3
    have hcl := right_len hR
    have hq : ∀ c ∈ cs, c.1.size ≤ 9223372036854775807 := fun c hc => by have := (right_col hR hc).2.2.2; omega
    refine (rrows_ok (cc := sc) S 5 6 rfl rfl hc hs (S.rd 1 rfl) (by simp only at hcl; omega) hq).mono ?_
    rintro _ w11 ⟨_, rfl, ra, rc, ps, at4, bad4, rfl, S, G4⟩
    refine ⟨_, _, _, rfl, S.newB fun b16 w12 _ _ S => S.sto 0 rfl (cs' := #[.slice ra ps.length rc]) (by simp) rfl fun w13 S => ?_⟩
    have S := (((((((S.pull 3 rfl).pull 3 rfl).pull 4 rfl).pull 5 rfl).pull 6 rfl).pull 8 rfl).pull 8 rfl)
    let Z : List It := [It.cells b3 #[.pointer (some ⟨bc, 0, none⟩)] ty.P_catalog_Catalog, It.cells b8 #[.int .i64 (z1 : Int)] ty.int64, It.cells b9 #[.int .i64 (z2 : Int)] ty.int64, It.cells b12 #[.slice sa cs.length sc] ty.L_api_Column, colsI sa sc cs,
      It.cells b16 #[.slice ra ps.length rc] ty.L_api_Row, rowsI ra rc ps]
    have S : ST w0 w13 (rdrI b a l.length c at4 bad4 :: It.rd a (l.map byteV) :: (Z ++ ((catH bc ca cc pa pc bm n C ++ H) ++ ps.map rowI))) := S
    have S : ST w0 w13 (rdrI b a l.length c at4 bad4 :: It.rd a (l.map byteV) :: (Z ++ (ps.map rowI ++ (catH bc ca cc pa pc bm n C ++ H)))) := S.perm (List.Perm.append_left (_ :: _ :: Z) List.perm_append_comm)
    rw [← List.append_assoc] at S
    refine ⟨at4, bad4, f.catalog_Catalog_ingest_c1, _, It.rd a (l.map byteV) :: (Z ++ ps.map rowI), pc, cc, pa, ca, n, rfl, by kernel_rfl, S, hca, hN, fun h => .inr ⟨fun x e => ?_, rfl, rfl, rfl⟩, fun hb ha wx S => ?_⟩
    · obtain ⟨_, _, _, _, h4, h5⟩ := hsome x _ e
      rcases G4 with ⟨g1, g2, _⟩ | ⟨_, g2⟩
      · rw [h4] at g2
        obtain ⟨_, rfl⟩ := Prod.mk.inj (Option.some.inj g2)
        rcases h with h | h
        · rw [g1] at h; cases h
        · exact h rfl
      · exact h5 (g2 _ h4)
    · subst hb
      subst ha
      rcases G4 with ⟨_, g2, g3⟩ | ⟨g1, _⟩
      case inr => cases g1
      have hok := (takeRows_ok g2).1
      have S : ST w0 wx (rdrI b a l.length c l.length false :: It.rd a (l.map byteV) :: ((Z ++ ps.map rowI) ++ (catH bc ca cc pa pc bm n C ++ H))) := S
      rw [List.append_assoc] at S
      have S : ST w0 wx (Z ++ (catH bc ca cc pa pc bm n C ++ (ps.map rowI ++ H))) := (S.drop 2).perm (List.Perm.append_left Z (List.perm_append_comm_assoc _ _ _))
      refine (ingest1_ok (N := N) T S hok hq (numR_seg h1).2.2 (numR_seg h2).2.2 hC hca hN hN2).mono ?_
      rintro _ w' ⟨v, rfl, d, fs, C', fa, ca2, cc2, pa2, pc2, n2, e3, e4, e5, e6, e7⟩
      refine ⟨v, rfl, d, fs, C', fa, ca2, cc2, pa2, pc2, n2, .inl ⟨(z1, z2, cs, rws ps), ?_, e3⟩, e4, e5, e6, e7⟩
      have hne : rws ps ≠ [] := by
        intro h
        apply g3
        simpa [rws] using h
      unfold ingR
      rw [h1, Option.bind_some, h2, Option.bind_some, h3, Option.bind_some, g2, Option.bind_some, if_neg hne]
end
def Sel (s : ByteArray) (rf : FuncId) : Prop :=
  ((sget s 0).toNat = 1 ∧ rf = f.catalog_Catalog_create) ∨ ((sget s 0).toNat = 2 ∧ rf = f.catalog_Catalog_ingest) ∨ ((sget s 0).toNat = 3 ∧ rf = f.catalog_Catalog_merge)
theorem Apply_c1_ok (p : Option Addr) (w : World) : Calls Tryz.prog f.catalog_Catalog_Apply_c1 #[.pointer p] w (Ret fun v w' => v = .nilFunc ∧ w' = w) := by
  apply R.catalog_Catalog_Apply_c1_calls
  unfold R.catalog_Catalog_Apply_c1
  exact ⟨rfl, rfl⟩
theorem rdrI_one (b : Nat) (a : Option Addr) (n c : Nat) : It.cells b #[.slice a n c, .int .i64 1, .bool false] ty.catalog_reader = rdrI b a n c 1 false := rfl
section
variable {w0 w : World} {H : List It} {bc bm n N cc pc : Nat} {ca pa : Option Addr} {C : CatS}
set_option maxHeartbeats 1000000 in
theorem apply_core {Q : Nat × Nat → List Fil → CatS → Prop} (S : ST w0 w (catH bc ca cc pa pc bm n C ++ H)) (hca : ca = none ↔ C.cols = []) (hN : n ≤ N) (s : ByteArray)
    (hfail : s.size = 0 ∨ 262144 < s.size ∨ ((sget s 0).toNat ≠ 1 ∧ (sget s 0).toNat ≠ 2 ∧ (sget s 0).toNat ≠ 3) → Q (220, 0) [] C)
    (hread : ∀ rf, Sel s rf → 0 < s.size → s.size ≤ 262144 → ∀ (H : List It) (b : Nat) (a : Option Addr) (c : Nat) (wx : World), (bl s).length ≤ c → ST w0 wx (rdrI b a (bl s).length c 1 false :: It.rd a ((bl s).map byteV) :: (catH bc ca cc pa pc bm n C ++ H)) →
      Calls Tryz.prog rf #[.pointer (some ⟨bc, 0, none⟩), .pointer (some ⟨b, 0, none⟩)] wx (Ret (RdrP w0 H bc bm N b a (bl s).length c C Q))) :
    Calls Tryz.prog f.catalog_Catalog_Apply #[.pointer (some ⟨bc, 0, none⟩), .string s] w (Ret (Did w0 H bc bm (N + 1) Q)) := by
  apply R.catalog_Catalog_Apply_calls
  unfold R.catalog_Catalog_Apply
  have hbl := bl_length s
  refine S.newB fun b3 w1 _ _ S => IFB_of (fun h => by cases h) (fun _ => ?_)
  have kfail : ∀ {wx : World}, (s.size = 0 ∨ 262144 < s.size ∨ ((sget s 0).toNat ≠ 1 ∧ (sget s 0).toNat ≠ 2 ∧ (sget s 0).toNat ≠ 3)) → ST w0 wx (catH bc ca cc pa pc bm n C ++ H) → Did w0 H bc bm (N + 1) Q (.tuple #[.agg #[.int .i64 220, .int .i64 0], .slice none 0 0]) wx := fun h S =>
    ⟨(220, 0), [], C, none, ca, cc, pa, pc, n, hfail h, rfl, hca, by omega, stNoFile S⟩
  refine IFB_of (fun h => fail_tail (K := Did w0 H bc bm (N + 1) Q) S 220 fun w' S => kfail (.inl ?_) S) (fun h0 => ?_)
  · rw [bytesEq_iff, decide_eq_true_eq] at h
    subst h
    rfl
  have h0' : 0 < s.size := by
    rcases Nat.eq_zero_or_pos s.size with h | h
    · have : bytesEq s ⟨#[]⟩ = true := by
        rw [bytesEq_iff, decide_eq_true_eq]
        have hd : s.data.size = 0 := h
        cases s with
        | mk d => 
          have : d = #[] := Array.eq_empty_of_size_eq_zero hd
          rw [this]
      rw [this] at h0; cases h0
    · exact h
  refine IFB_dec (fun h => fail_tail (K := Did w0 H bc bm (N + 1) Q) S 220 fun w' S => kfail (.inr (.inl (by omega))) S) (fun hle => ?_)
  have S : ST w0 w1 (catH bc ca cc pa pc bm n C ++ (It.cells b3 #[.int .i64 0, .int .i64 0] ty.api_Done :: H)) := S.perm List.perm_middle.symm
  refine bytes_of_string tbytes s w1 fun b0 c0 cells e0 w2 hb0 B2 hg2 hcs hsc htk => ?_
  have hr : Rd w2 (some ⟨b0, 0, none⟩) ((bl s).map byteV) := by
    have := (Rd.of_block0 hg2).take s.size
    rw [htk] at this
    exact this
  have S := stAddRd S B2 (⟨hr, fun k hk => by cases hk; exact Nat.le_of_eq hb0.symm⟩ : RdN w1 w2 _ _)
  refine ⟨_, _, _, rfl, S.newB fun b24 w12 _ _ S => ?_⟩
  rw [rdrI_one, ← hbl] at S
  refine ⟨fun s' wx => ∃ rf fi, s' = [.func (.func rf) fi #[]] ∧ ((Sel s rf ∧ fi = #[.pointer (some ⟨bc, 0, none⟩)]) ∨ (rf = f.catalog_Catalog_Apply_c1 ∧ fi = #[] ∧ ((sget s 0).toNat ≠ 1 ∧ (sget s 0).toNat ≠ 2 ∧ (sget s 0).toNat ≠ 3))) ∧
    ST w0 wx (rdrI b24 (some ⟨b0, 0, none⟩) (bl s).length c0 1 false :: It.rd (some ⟨b0, 0, none⟩) ((bl s).map byteV) :: (catH bc ca cc pa pc bm n C ++ (It.cells b3 #[.int .i64 0, .int .i64 0] ty.api_Done :: H))), ⟨⟨by omega, by omega⟩, ?_⟩, ?_⟩
  · refine IFB_eq (fun h => ⟨_, _, rfl, .inl ⟨.inl ⟨by omega, rfl⟩, rfl⟩, S⟩) (fun h1 => IFB_eq (fun h => ⟨_, _, rfl, .inl ⟨.inr (.inl ⟨by omega, rfl⟩), rfl⟩, S⟩) (fun h2 => IFB_eq (fun h => ⟨_, _, rfl, .inl ⟨.inr (.inr ⟨by omega, rfl⟩), rfl⟩, S⟩) (fun h3 => ⟨_, _, rfl, .inr ⟨rfl, rfl, by omega, by omega, by omega⟩, S⟩)))
  clear S
  rintro rf fi _ w13 ⟨_, _, hs, hsel, S⟩
  cases hs
  rcases hsel with ⟨hsel, rfl⟩ | ⟨rfl, rfl, hno⟩
  · have hen : enters Tryz.prog rf = true := by
      rcases hsel with ⟨_, rfl⟩ | ⟨_, rfl⟩ | ⟨_, rfl⟩
      · kernel_rfl
      · kernel_rfl
      · kernel_rfl
    rw [hen]
    refine (hread rf hsel h0' (by omega) _ b24 _ c0 w13 (by omega) S).mono ?_
    clear S
    rintro _ w14 ⟨_, rfl, at', bad', g, ca2, Z, pc2, cc2, pa2, ca3, m, rfl, hen2, S, hca2, hm, hf2, hgood⟩
    refine .inl ⟨_, _, _, rfl, (rwhole_ok S 0 rfl).mono ?_⟩
    clear S
    rintro _ w15 ⟨_, rfl, rfl, S⟩
    refine ⟨_, rfl, IFB_not (IFB_of (fun hw => ?_) (fun hw => ?_))⟩
    · simp only [Bool.and_eq_true, Bool.not_eq_true', decide_eq_true_eq] at hw
      rw [hen2]
      refine (hgood hw.1 hw.2 w15 S).mono ?_
      clear S
      rintro _ w19 ⟨_, rfl, d, fs, C', fa, ca4, cc4, pa4, pc4, n4, hQ, rfl, h5, h6, S⟩
      obtain ⟨d1, d2⟩ := d
      refine ⟨_, _, _, _, _, rfl, S.sto 5 rfl (cs' := #[.int .i64 (d1 : Int), .int .i64 0]) (by simp) rfl fun w20 S => S.sto 5 rfl (cs' := #[.int .i64 (d1 : Int), .int .i64 (d2 : Int)]) (by simp) rfl fun w21 S => ⟨_, S.cell 5 rfl rfl, _, S.cell 5 rfl rfl, ?_⟩⟩
      exact ⟨(d1, d2), fs, C', fa, ca4, cc4, pa4, pc4, n4, hQ, rfl, h5, h6, S.sub (.cons_cons _ (.cons_cons _ (.cons_cons _ (.cons_cons _ (.cons_cons _ (.cons _ (List.Sublist.refl _)))))))⟩
    · have hw' : bad' = true ∨ at' ≠ (bl s).length := by
        simp only [Bool.and_eq_false_iff, Bool.not_eq_false', decide_eq_false_iff_not] at hw
        exact hw
      have S := ((S.drop 1).sub (List.sublist_append_right Z _)).perm List.perm_middle
      exact fail_tail (K := Did w0 H bc bm (N + 1) Q) S 220 fun w' S => ⟨(220, 0), [], C, none, ca3, cc2, pa2, pc2, m, hf2 hw', rfl, hca2, by omega, stNoFile S⟩
  · rw [show enters Tryz.prog f.catalog_Catalog_Apply_c1 = true by kernel_rfl]
    refine (Apply_c1_ok _ w13).mono ?_
    rintro _ w14 ⟨_, rfl, rfl, rfl⟩
    have S := (S.drop 2).perm List.perm_middle
    exact .inr ⟨rfl, fail_tail (K := Did w0 H bc bm (N + 1) Q) S 220 fun w' S => kfail (.inr (.inr hno)) S⟩
end
def creL (cs : List Col) : List UInt8 := 1 :: schL cs
def creV (cs : List Col) : Value := if rightCols cs then .tuple #[.string (sof (creL cs)), .int .i64 0] else .tuple #[.string (sof []), .int .i64 50]
def ingL (x y : Nat) (cs : List Col) (rows : List (List Val)) : List UInt8 := 2 :: (digitsL x ++ digitsL y ++ schL cs ++ rowsL rows)
def argBad (x y : Int) : Prop := x < 0 ∨ 4611686018427387904 < x ∨ y < 1 ∨ 4611686018427387904 < y
instance (x y : Int) : Decidable (argBad x y) := by unfold argBad; infer_instance
def ingE (x y : Int) (cs : List Col) (rows : List (List Val)) : Int :=
  if argBad x y ∨ rows = [] then 2 else if segE cs rows ≠ 0 then segE cs rows else if 262144 < (ingL x.toNat y.toNat cs rows).length then 130 else 0
def ingV (x y : Int) (cs : List Col) (rows : List (List Val)) : Value :=
  if ingE x y cs rows = 0 then .tuple #[.string (sof (ingL x.toNat y.toNat cs rows)), .int .i64 0] else .tuple #[.string (sof []), .int .i64 (ingE x y cs rows)]
section
variable {w0 w : World} {H : List It} {a a2 : Option Addr} {c c2 : Nat} {cs : List Col} {ps : List RowP}
theorem Create_ok (hcs : Rd w a (colsL cs)) (hn : cs.length ≤ 9223372036854775807) (hq : ∀ c ∈ cs, c.1.size ≤ 9223372036854775807) :
    Calls Tryz.prog f.catalog_Create #[.slice a cs.length c] w (Ret fun v w' => v = creV cs ∧ Below w.heap.size w w') := by
  apply R.catalog_Create_calls
  unfold R.catalog_Create
  refine (ST.start w).newB fun b2 w1 _ B1 S => ?_
  have h1 : Rd w1 (some ⟨b2, 0, none⟩) (([1] : List UInt8).map byteV) := S.rdc 0 rfl
  refine (schema_Lay_ok (l := [1]) (c := 1) h1 (by simp) (hcs.grown B1) hn hq).mono ?_
  rintro _ w2 ⟨_, rfl, h2⟩
  rcases h2 with ⟨hR, rfl, B2⟩ | ⟨hR, a', c', rfl, h2⟩
  · refine ⟨_, _, _, _, rfl, string_of_bytes tbytes (l := []) rfl (Rd.nil _ _) ⟨_, rfl, ?_, below_trans B1 B2⟩⟩
    simp [creV, hR]
  · refine ⟨_, _, _, _, rfl, string_of_bytes tbytes rfl h2.rd ⟨_, rfl, ?_, below_trans B1 h2.bel⟩⟩
    simp [creV, hR, creL]
theorem isNumber_ok (x y : Int) (w : World) : Calls Tryz.prog f.catalog_isNumber #[.int .i64 x, .int .i64 y] w (Ret fun v w' => v = .bool (decide (y ≤ x ∧ x ≤ 4611686018427387904)) ∧ w' = w) := by
  apply R.catalog_isNumber_calls
  unfold R.catalog_isNumber
  refine IFB_dec (fun h => ⟨?_, rfl⟩) (fun h => ⟨?_, rfl⟩)
  · congr 1
    have : y ≤ x := h
    simp [this]
  · congr 1
    have : ¬ y ≤ x := h
    simp [this]
theorem bounded_ok {l : List UInt8} (hl : Rd w a (l.map byteV)) : Calls Tryz.prog f.catalog_bounded #[.slice a l.length c] w (Ret fun v w' => v = (if 262144 < l.length then .tuple #[.string (sof []), .int .i64 130] else .tuple #[.string (sof l), .int .i64 0]) ∧ w' = w) := by
  apply R.catalog_bounded_calls
  unfold R.catalog_bounded
  refine IFB_dec (fun h => ⟨?_, rfl⟩) (fun h => string_of_bytes tbytes rfl hl ⟨_, rfl, ?_, rfl⟩)
  · rw [if_pos (by omega)]; rfl
  · rw [if_neg (by omega)]
theorem Ingest_ok (x y : Int) (hcs : Rd w a (colsL cs)) (hn : cs.length ≤ 9223372036854775807) (hq : ∀ c ∈ cs, c.1.size ≤ 9223372036854775807) (hr : RowsAt w a2 ps) (hm : ps.length ≤ 9223372036854775807) (hv : ∀ r ∈ rws ps, ∀ v ∈ r, ValOk v) :
    Calls Tryz.prog f.catalog_Ingest #[.int .i64 x, .int .i64 y, .slice a cs.length c, .slice a2 ps.length c2] w (Ret fun v w' => v = ingV x y cs (rws ps) ∧ Below w.heap.size w w') := by
  apply R.catalog_Ingest_calls
  unfold R.catalog_Ingest
  have bad2 : (argBad x y ∨ rws ps = []) → ∀ {wx : World}, Below w.heap.size w wx → Value.tuple #[.string ⟨#[]⟩, .int .i64 2] = ingV x y cs (rws ps) ∧ Below w.heap.size w wx := fun h wx B => by
    have e : ingE x y cs (rws ps) = 2 := if_pos h
    refine ⟨?_, B⟩
    rw [ingV, e, if_neg (by decide)]
    rfl
  refine (isNumber_ok x 0 w).mono ?_
  rintro _ w1 ⟨_, rfl, rfl, rfl⟩
  refine ⟨_, rfl, IFB_not (IFB_dec (fun h1 => ?_) (fun h1 => bad2 (.inl (by unfold argBad; omega)) (.refl _ _)))⟩
  refine (isNumber_ok y 1 w1).mono ?_
  rintro _ w1 ⟨_, rfl, rfl, rfl⟩
  refine ⟨_, rfl, IFB_not (IFB_dec (fun h2 => ?_) (fun h2 => bad2 (.inl (by unfold argBad; omega)) (.refl _ _)))⟩
  refine IFB_eq (fun h => bad2 (.inr ?_) (.refl _ _)) (fun h3 => ?_)
  · have : ps.length = 0 := by omega
    rw [List.length_eq_zero_iff.1 this]
    rfl
  have hno : ¬ (argBad x y ∨ rws ps = []) := by
    rintro (h | h)
    · unfold argBad at h; omega
    · apply h3
      have : ps.length = 0 := by simpa [rws] using h
      omega
  refine (ST.start w1).newB fun b9 w3 _ _ S => ?_
  have hl1 : Rd w3 (some ⟨b9, 0, none⟩) (([2] : List UInt8).map byteV) := S.rdc 0 rfl
  have ex : IntKind.u64.wrap x = ((x.toNat : Nat) : Int) := by rw [wrap_u64_id (by omega) (by omega)]; omega
  have ey : IntKind.u64.wrap y = ((y.toNat : Nat) : Int) := by rw [wrap_u64_id (by omega) (by omega)]; omega
  rw [ex, ey]
  have dx := digitsL_len10 (n := x.toNat) (by omega)
  have dy := digitsL_len10 (n := y.toNat) (by omega)
  refine (wire_Number_ok (c := 1) [2] hl1 x.toNat (by omega) (by simp)).mono ?_
  rintro _ w4 ⟨_, rfl, a4, c4, rfl, h4⟩
  have S := stAddB S h4
  refine ⟨_, _, _, rfl, (wire_Number_ok _ h4.rd y.toNat (by omega) (by simp only [List.length_append, List.length_cons, List.length_nil]; omega)).mono ?_⟩
  rintro _ w5 ⟨_, rfl, a5, c5, rfl, h5⟩
  have S := stAddB S h5
  obtain ⟨l5, hl5⟩ : ∃ l5, l5 = [2] ++ digitsL x.toNat ++ digitsL y.toNat := ⟨_, rfl⟩
  rw [← hl5] at h5 S ⊢
  have hl5l : l5.length ≤ 21 := by rw [hl5]; simp only [List.length_append, List.length_cons, List.length_nil]; omega
  refine ⟨_, _, _, rfl, (schema_Lay_ok (l := l5) h5.rd (by omega) (hcs.grown S.bel) hn hq).mono ?_⟩
  rintro _ w6 ⟨_, rfl, h6⟩
  have bad5 : ∀ (e : Int), segE cs (rws ps) = e → e ≠ 0 → ∀ {wx : World}, Below w1.heap.size w1 wx → Value.tuple #[.string ⟨#[]⟩, .int .i64 e] = ingV x y cs (rws ps) ∧ Below w1.heap.size w1 wx := fun e he h0 wx B => by
    have e2 : ingE x y cs (rws ps) = e := by rw [ingE, if_neg hno, he, if_pos h0]
    refine ⟨?_, B⟩
    rw [ingV, e2, if_neg h0]
    rfl
  rcases h6 with ⟨hR, rfl, B6⟩ | ⟨hR, a6, c6, rfl, h6⟩
  · refine ⟨_, _, _, _, rfl, fun s wx => s = [.slice none 0 0, .int .i64 50] ∧ wx = w6, IFB_eq (fun h => by cases h) (fun _ => ⟨rfl, rfl⟩), ?_⟩
    rintro _ _ _ _ wx ⟨hs, rfl⟩
    cases hs
    exact IFB_ne (fun _ => bad5 50 (by rw [segE, if_pos hR]) (by decide) (below_trans S.bel B6)) (fun h => by cases h)
  · have S := stAddB S h6
    have hsl := schL_len hR
    obtain ⟨l6, hl6⟩ : ∃ l6, l6 = l5 ++ schL cs := ⟨_, rfl⟩
    rw [← hl6] at h6 S ⊢
    have hl6l : l6.length ≤ 10000 := by rw [hl6, List.length_append]; omega
    refine ⟨_, _, _, _, rfl, fun s wx => Below w1.heap.size w1 wx ∧ ((segE cs (rws ps) ≠ 0 ∧ s = [.slice none 0 0, .int .i64 (segE cs (rws ps))]) ∨ (SegOk cs (rws ps) ∧ ∃ a c, s = [.slice a (l6 ++ rowsL (rws ps)).length c, .int .i64 0] ∧ Rd wx a ((l6 ++ rowsL (rws ps)).map byteV))),
      IFB_eq (fun _ => ?_) (fun h => absurd rfl h), ?_⟩
    · refine (schema_LayRows_ok (c := c6) (c2 := c) (c3 := c2) h6.rd (by omega) (hcs.grown S.bel) hn hq (hr.grown S.bel) hm hv).mono ?_
      rintro _ w7 ⟨_, rfl, h7⟩
      rcases h7 with ⟨_, rfl, h0, B7⟩ | ⟨hok, a7, c7, rfl, h7⟩
      · exact ⟨_, _, _, _, rfl, below_trans S.bel B7, .inl ⟨h0, rfl⟩⟩
      · exact ⟨_, _, _, _, rfl, below_trans S.bel h7.bel, .inr ⟨hok, a7, c7, rfl, h7.rd⟩⟩
    · rintro _ _ _ _ wx ⟨B, hs⟩
      rcases hs with ⟨h0, hs⟩ | ⟨hok, a7, c7, hs, hrd⟩
      · cases hs
        exact IFB_ne (fun _ => bad5 _ rfl h0 B) (fun h => absurd h h0)
      · cases hs
        have h0 : segE cs (rws ps) = 0 := by
          by_cases h : segE cs (rws ps) = 0
          · exact h
          · exact absurd hok (segE_bad h)
        refine IFB_ne (fun h => absurd rfl h) (fun _ => (bounded_ok hrd).mono ?_)
        rintro _ w9 ⟨_, rfl, rfl, rfl⟩
        have e : l6 ++ rowsL (rws ps) = ingL x.toNat y.toNat cs (rws ps) := by rw [hl6, hl5, ingL]; simp
        rw [e]
        by_cases hb : 262144 < (ingL x.toNat y.toNat cs (rws ps)).length
        · rw [if_pos hb]
          refine ⟨_, _, rfl, ?_, B⟩
          have e2 : ingE x y cs (rws ps) = 130 := by rw [ingE, if_neg hno, if_neg (by rw [h0]; decide), if_pos hb]
          rw [ingV, e2, if_neg (by decide)]
        · rw [if_neg hb]
          refine ⟨_, _, rfl, ?_, B⟩
          have e2 : ingE x y cs (rws ps) = 0 := by rw [ingE, if_neg hno, if_neg (by rw [h0]; decide), if_neg hb]
          rw [ingV, e2, if_pos rfl]
theorem New_ok (w : World) : Calls Tryz.prog f.catalog_New #[] w (Ret fun v w' => ∃ bc bm, v = .pointer (some ⟨bc, 0, none⟩) ∧ ST w w' (catH bc none 0 none 0 bm 0 ⟨[], [], []⟩)) := by
  apply R.catalog_New_calls
  unfold R.catalog_New
  refine (ST.start w).newMapI (k := ty.int64) ty.map_int64_catalog_client (fun bm w1 S hb => ⟨_, rfl, S.newB fun b3 w2 _ _ S => ⟨b3, bm, rfl, ?_⟩⟩) rfl
  have S : ST w w2 (It.cells b3 #[.slice none 0 0, .slice none 0 0, .map (some bm)] ty.catalog_Catalog :: It.mapI Tryz.prog ty.int64 bm 0 (gOf []) :: []) := by
    rw [gOf_nil]
    exact S
  have S := (S.nil ty.api_Part 2).nil ty.api_Column 3
  exact S.pull 2 rfl
end
section
variable {w0 w : World} {H : List It} {a a2 a3 : Option Addr} {c c2 c3 : Nat} {l : List UInt8} {cs : List Col} {ps : List RowP}
end
theorem prts_one (ps : List Prt) : ∀ u ∈ prtsL ps, u.oneCell' = true := by
  intro u hu
  obtain ⟨v, _, hv⟩ := List.mem_flatMap.1 hu
  simp only [prtC, List.mem_cons, List.not_mem_nil, or_false] at hv
  rcases hv with rfl | rfl <;> rfl
theorem CloneP_ok {w : World} {a : Option Addr} {c : Nat} {vs : List Prt} (h : Rd w a (prtsL vs)) (hl : vs.length ≤ 100000) : Calls Tryz.prog f.slices_Clone_api_Part_api_Part #[.slice a vs.length c] w (Ret fun v w' => ∃ a' c', v = .slice a' vs.length c' ∧ ST w w' [prtsI a' c' vs]) := by
  apply R.slices_Clone_api_Part_api_Part_calls
  unfold R.slices_Clone_api_Part_api_Part
  cases a with
  | none =>
    have := rd_none (k := 1) (fun _ => rfl) h
    subst this
    exact IFB_true ⟨none, 0, rfl, (ST.start w).nil _ _⟩
  | some q =>
    refine IFB_false ((ST.start w).newB fun b2 w1 _ B1 S => ?_)
    have S := S.chg 0 rfl (.refl _ _) (It.row ty.api_Part 2 (some ⟨b2, 0, none⟩) 0 0 []) (row_empty (S.blk 0 rfl)) (fun k hk => .inl hk)
    refine S.app 0 rfl tPrts rfl (by omega) (by omega) (h.grown B1) (mm := vs.length) (prts_len vs) (prts_one vs) (by omega) fun a' c' w' S => ⟨_, _, _, rfl, a', c', by rw [Nat.zero_add], ?_⟩
    simp only [Nat.zero_add, List.nil_append] at S
    exact S
section
variable {w0 w : World} {H : List It} {bc bm n N cc pc : Nat} {ca pa : Option Addr} {C : CatS}
theorem Parts_ok (S : ST w0 w (catH bc ca cc pa pc bm n C ++ H)) (hC : C.parts.length ≤ 256) : Calls Tryz.prog f.catalog_Catalog_Parts #[.pointer (some ⟨bc, 0, none⟩)] w (Ret fun v w' => ∃ a' c', v = .slice a' C.parts.length c' ∧ ST w w' [prtsI a' c' C.parts]) := by
  apply R.catalog_Catalog_Parts_calls
  unfold R.catalog_Catalog_Parts
  refine IFB_false ⟨_, _, _, S.cell 0 rfl rfl, (CloneP_ok (S.rd 2 rfl) (by omega)).mono ?_⟩
  rintro _ w1 ⟨_, rfl, a', c', rfl, T⟩
  exact ⟨_, _, _, rfl, a', c', rfl, T⟩
theorem apply_create (S : ST w0 w (catH bc ca cc pa pc bm n C ++ H)) (hca : ca = none ↔ C.cols = []) (hN : n ≤ N) (s : ByteArray) (h1 : (sget s 0).toNat = 1) (h0 : 0 < s.size) (hle : s.size ≤ 262144) :
    Calls Tryz.prog f.catalog_Catalog_Apply #[.pointer (some ⟨bc, 0, none⟩), .string s] w (Ret (Did w0 H bc bm (N + 1) (Cmd1 C (bl s)))) := by
  have hbl := bl_length s
  refine apply_core S hca hN s (fun h => by omega) (fun rf hsel _ _ H' b a c wx hc S => ?_)
  rcases hsel with ⟨_, rfl⟩ | ⟨h, _⟩ | ⟨h, _⟩
  · exact create_ok S hc (by omega) hca hN
  · omega
  · omega
theorem apply_ingest (T : Tabs w0) (S : ST w0 w (catH bc ca cc pa pc bm n C ++ H)) (hC : CatOK C) (hca : ca = none ↔ C.cols = []) (hN : n ≤ N) (hN2 : N < 1000000) (s : ByteArray) (h1 : (sget s 0).toNat = 2) (h0 : 0 < s.size) (hle : s.size ≤ 262144) :
    Calls Tryz.prog f.catalog_Catalog_Apply #[.pointer (some ⟨bc, 0, none⟩), .string s] w (Ret (Did w0 H bc bm (N + 1) (Cmd2 C (bl s)))) := by
  have hbl := bl_length s
  refine apply_core S hca hN s (fun h => by omega) (fun rf hsel _ _ H' b a c wx hc S => ?_)
  rcases hsel with ⟨h, _⟩ | ⟨_, rfl⟩ | ⟨h, _⟩
  · omega
  · exact ingest_ok T S hc (by omega) hC hca hN hN2
  · omega
end
theorem column_ok (w : World) : Calls Tryz.prog f.law22_column #[] w (Ret fun v w' => ∃ b, v = .slice (some ⟨b, 0, none⟩) 1 1 ∧ ST w w' [It.cells b #[.string ⟨#[97]⟩, .int .i64 1, .bool false] ty.api_Column]) := by
  apply R.law22_column_calls
  unfold R.law22_column
  exact (ST.start w).newB fun b w1 _ _ S => ⟨b, rfl, S⟩
theorem num_ok (x : Int) (w : World) : Calls Tryz.prog f.law22_num #[.int .i64 x] w (Ret fun v w' => ∃ b, v = .slice (some ⟨b, 0, none⟩) 1 1 ∧ ST w w' [It.cells b #[.int .i64 1, .int .i64 x, .string ⟨#[]⟩] ty.api_Value]) := by
  apply R.law22_num_calls
  unfold R.law22_num
  exact (ST.start w).newB fun b w1 _ _ S => ⟨b, rfl, S⟩
def cs0 : List Col := [(⟨#[97]⟩, 1, false)]
def rows0 : List (List Val) := [[(1, 5, ⟨#[]⟩)], [(1, 6, ⟨#[]⟩)]]
theorem right0 : rightCols cs0 = true := by kernel_rfl
theorem ok0 : SegOk cs0 rows0 where
  right := right0
  len := by decide
  fits := fun r hr => by
    simp only [rows0, List.mem_cons, List.not_mem_nil, or_false] at hr
    rcases hr with rfl | rfl <;> kernel_rfl
  ok := fun r hr v hv => by
    simp only [rows0, List.mem_cons, List.not_mem_nil, or_false] at hr
    rcases hr with rfl | rfl
    · rw [List.mem_singleton.1 hv]; exact ⟨by decide, by decide⟩
    · rw [List.mem_singleton.1 hv]; exact ⟨by decide, by decide⟩
theorem seg0 : segE cs0 rows0 = 0 := by
  by_cases h : segE cs0 rows0 = 0
  · exact h
  · exact absurd ok0 (segE_bad h)
theorem len0 : (ingL 7 1 cs0 rows0).length ≤ 40000 := by
  have h1 := digitsL_len10 (n := 7) (by omega)
  have h2 := digitsL_len10 (n := 1) (by omega)
  have h3 := schL_len right0
  have h4 := digitsL_len10 (n := 2) (by omega)
  have h5 := row_len ok0 (r := [(1, 5, ⟨#[]⟩)]) (by simp [rows0])
  have h6 := row_len ok0 (r := [(1, 6, ⟨#[]⟩)]) (by simp [rows0])
  have e : rowsL rows0 = digitsL 2 ++ (rowL [(1, 5, ⟨#[]⟩)] ++ (rowL [(1, 6, ⟨#[]⟩)] ++ [])) := rfl
  simp only [ingL, List.length_cons, List.length_append, e, List.length_nil]
  omega
theorem ingE0 : ingE 7 1 cs0 rows0 = 0 := by
  have h1 : ¬ (argBad 7 1 ∨ rows0 = []) := by
    rintro (h | h)
    · unfold argBad at h; omega
    · cases h
  have h2 := len0
  rw [ingE, if_neg h1, if_neg (by rw [seg0]; decide), if_neg]
  show ¬ 262144 < (ingL 7 1 cs0 rows0).length
  omega
theorem cre_back {cs : List Col} (hR : rightCols cs = true) : takeSch (creL cs) 1 = some (cs, (creL cs).length) := by
  have := takeSch_drop hR (l := creL cs) (at_ := 1) (r := []) (by simp [creL])
  rw [show ((1 : Nat) : Int) = 1 from rfl] at this
  rw [this]
  simp [creL]
  omega
theorem ing_back {x y : Nat} {cs : List Col} {rows : List (List Val)} (hx : x ≤ greatN) (hy1 : 1 ≤ y) (hy : y ≤ greatN) (hs : SegOk cs rows) (hne : rows ≠ []) : ingR (ingL x y cs rows) 1 = some ((x, y, cs, rows), (ingL x y cs rows).length) := by
  have gx : x < 18446744073709551616 := by unfold greatN at hx; omega
  have gy : y < 18446744073709551616 := by unfold greatN at hy; omega
  have h1 := takeN_drop (l := ingL x y cs rows) (at_ := 1) (r := digitsL y ++ (schL cs ++ rowsL rows)) gx (by simp [ingL])
  have d1 : (ingL x y cs rows).drop (1 + (digitsL x).length) = digitsL y ++ (schL cs ++ rowsL rows) := by
    rw [← List.drop_drop]
    simp [ingL]
  have h2 := takeN_drop gy d1
  have d2 : (ingL x y cs rows).drop (1 + (digitsL x).length + (digitsL y).length) = schL cs ++ rowsL rows := drop_app d1
  have h3 := takeSch_drop hs.right d2
  have d3 : (ingL x y cs rows).drop (1 + (digitsL x).length + (digitsL y).length + (schL cs).length) = rowsL rows ++ [] := by rw [drop_app d2, List.append_nil]
  have h4 := takeRows_drop hs d3
  unfold ingR numR
  rw [h1, Option.bind_some, if_pos ⟨by simp only; omega, hx⟩, Option.bind_some]
  simp only
  rw [h2, Option.bind_some, if_pos ⟨hy1, hy⟩, Option.bind_some]
  simp only
  rw [h3, Option.bind_some]
  simp only
  rw [h4, Option.bind_some, if_neg hne]
  simp only [ingL, List.length_cons, List.length_append, Option.some.injEq, Prod.mk.injEq, true_and]
  omega
theorem ing_len (x y : Nat) (cs : List Col) (rows : List (List Val)) : 0 < (ingL x y cs rows).length := by simp [ingL]
theorem cmd1_one {C : CatS} {cs : List Col} (hR : rightCols cs = true) {d : Nat × Nat} {fs : List Fil} {C' : CatS} (h : Cmd1 C (creL cs) d fs C') : CreR C cs d fs C' := by
  have hb := cre_back hR
  rcases h with ⟨cs', h1, h2⟩ | ⟨h1, _⟩
  · rw [hb] at h1
    obtain ⟨rfl, _⟩ := Prod.mk.inj (Option.some.inj h1)
    exact h2
  · exact absurd hb (h1 cs)
theorem cmd2_one {C : CatS} {x y : Nat} {cs : List Col} {rows : List (List Val)} (hx : x ≤ greatN) (hy1 : 1 ≤ y) (hy : y ≤ greatN) (hs : SegOk cs rows) (hne : rows ≠ []) {d : Nat × Nat} {fs : List Fil} {C' : CatS} (h : Cmd2 C (ingL x y cs rows) d fs C') : IngR C x y cs rows d fs C' := by
  have hb := ing_back hx hy1 hy hs hne
  rcases h with ⟨z, h1, h2⟩ | ⟨h1, _⟩
  · rw [hb] at h1
    obtain ⟨rfl, _⟩ := Prod.mk.inj (Option.some.inj h1)
    exact h2
  · exact absurd hb (h1 _)
theorem ing_first {d : Nat × Nat} {fs : List Fil} {C' : CatS} (h : IngR ⟨cs0, [], []⟩ 7 1 cs0 rows0 d fs C') : ∃ nm dt, d = (0, 2) ∧ fs = [(nm, dt)] ∧ nm.size = 64 ∧ C' = ⟨cs0, [(nm, 2)], [(7, 1, 0, 2)]⟩ := by
  rcases h with ⟨t, ht, _⟩ | ⟨t, ht, _⟩ | ⟨_, h, _⟩ | ⟨_, _, C1, hA, rfl⟩
  · cases ht
  · cases ht
  · cases h
  · rcases hA with ⟨h, _⟩ | ⟨_, h, _⟩ | ⟨_, _, b, hb, rfl, rfl, rfl⟩
    · exact absurd rfl h
    · cases h
    · exact ⟨_, _, rfl, rfl, nameS_size _, rfl⟩
theorem ing_again {nm : ByteArray} {d : Nat × Nat} {fs : List Fil} {C' : CatS} (h : IngR ⟨cs0, [(nm, 2)], [(7, 1, 0, 2)]⟩ 7 1 cs0 rows0 d fs C') : d = (0, 2) ∧ fs = [] ∧ C' = ⟨cs0, [(nm, 2)], [(7, 1, 0, 2)]⟩ := by
  have hm : mapOf [(7, 1, 0, 2)] 7 = some (1, 0, 2) := by decide
  rcases h with ⟨t, ht, _, rfl, rfl, rfl⟩ | ⟨t, ht, h, _⟩ | ⟨h, _⟩ | ⟨h, _⟩
  · have ht : mapOf [(7, 1, 0, 2)] 7 = some t := ht
    rw [hm] at ht
    cases ht
    exact ⟨rfl, rfl, rfl⟩
  · have ht : mapOf [(7, 1, 0, 2)] 7 = some t := ht
    rw [hm] at ht
    cases ht
    exact absurd h (by decide)
  · have h : mapOf [(7, 1, 0, 2)] 7 = none := h
    rw [hm] at h
    cases h
  · have := h _ hm
    exact absurd this (by decide)
set_option maxHeartbeats 2000000 in
theorem shown_ok {w : World} (T : Tabs w) : Calls Tryz.prog f.law22_shown #[] w (Ret fun v w' => v = .bool true ∧ Below w.heap.size w w') := by
  apply R.law22_shown_calls
  unfold R.law22_shown
  refine (New_ok w).mono ?_
  rintro _ w1 ⟨_, rfl, bc, bm, rfl, S⟩
  refine ⟨_, rfl, (column_ok w1).mono ?_⟩
  rintro _ w2 ⟨_, rfl, q1, rfl, P⟩
  have S := S.join P
  have hq0 : ∀ c ∈ cs0, c.1.size ≤ 9223372036854775807 := fun c hc => by rw [List.mem_singleton.1 hc]; decide
  refine ⟨_, _, _, rfl, (Create_ok (c := 1) (cs := cs0) (S.rdc 0 rfl) (by decide) hq0).mono ?_⟩
  rintro _ w3 ⟨_, rfl, rfl, B3⟩
  have S := S.grown B3
  have e1 : creV cs0 = .tuple #[.string (sof (creL cs0)), .int .i64 0] := if_pos right0
  rw [e1]
  refine ⟨_, _, rfl, (column_ok w3).mono ?_⟩
  rintro _ w4 ⟨_, rfl, q2, rfl, P⟩
  have S := S.join P
  refine ⟨_, _, _, rfl, (num_ok 5 w4).mono ?_⟩
  rintro _ w5 ⟨_, rfl, q3, rfl, P⟩
  have S := S.join P
  refine ⟨_, _, _, rfl, (num_ok 6 w5).mono ?_⟩
  rintro _ w6 ⟨_, rfl, q4, rfl, P⟩
  have S := S.join P
  refine ⟨_, _, _, rfl, S.newB fun b14 w7 _ _ S => ?_⟩
  have hr : RowsAt w7 (some ⟨b14, 0, none⟩) [(some ⟨q3, 0, none⟩, 1, [(1, 5, ⟨#[]⟩)]), (some ⟨q4, 0, none⟩, 1, [(1, 6, ⟨#[]⟩)])] := ⟨S.rdc 0 rfl, fun p hp => by
    simp only [List.mem_cons, List.not_mem_nil, or_false] at hp
    rcases hp with rfl | rfl
    · exact S.rdc 2 rfl
    · exact S.rdc 1 rfl⟩
  refine (Ingest_ok (c := 1) (c2 := 2) (cs := cs0) 7 1 (S.rdc 3 rfl) (by decide) hq0 hr (by simp) ok0.ok).mono ?_
  rintro _ w8 ⟨_, rfl, rfl, B8⟩
  have S := S.grown B8
  obtain ⟨l2, hl2⟩ : ∃ l2, l2 = ingL 7 1 cs0 rows0 := ⟨_, rfl⟩
  have e2 : ingV 7 1 cs0 (rws [((some ⟨q3, 0, none⟩ : Option Addr), 1, [((1 : Int), (5 : Int), (⟨#[]⟩ : ByteArray))]), (some ⟨q4, 0, none⟩, 1, [(1, 6, ⟨#[]⟩)])]) = .tuple #[.string (sof l2), .int .i64 0] := by
    rw [hl2]
    exact if_pos ingE0
  rw [e2]
  have hlen := len0
  have hpos := ing_len 7 1 cs0 rows0
  rw [← hl2] at hlen hpos
  have S : ST w w8 (catH bc none 0 none 0 bm 0 ⟨[], [], []⟩ ++ []) := S.drop 5
  have hcl : (creL cs0).length ≤ 601 := by have := schL_len right0; simp only [creL, List.length_cons]; omega
  have hcp : 0 < (creL cs0).length := by simp [creL]
  refine ⟨_, _, rfl, (apply_create (N := 0) S ⟨fun _ => rfl, fun _ => rfl⟩ (Nat.le_refl _) (sof (creL cs0)) (by rw [sget_eq, bl_sof]; rfl) (by rw [size_sof]; exact hcp) (by rw [size_sof]; omega)).mono ?_⟩
  clear S
  rintro _ w9 ⟨_, rfl, d, fs, C1, fa, ca, cc, pa, pc, n1, hQ, rfl, hca, hn, S⟩
  rw [bl_sof] at hQ
  rcases cmd1_one right0 hQ with ⟨h, _⟩ | ⟨_, rfl, rfl, rfl⟩
  · exact absurd rfl h
  refine ⟨_, _, _, _, _, rfl, S.newB fun b22 w10 _ _ S => S.sto 0 rfl (cs' := #[.int .i64 0, .int .i64 0]) (by simp) rfl fun w11 S => S.sto 0 rfl (cs' := #[.int .i64 0, .int .i64 0]) (by simp) rfl fun w12 S => ?_⟩
  have S : ST w w12 ([It.cells b22 #[.int .i64 0, .int .i64 0] ty.api_Done, It.rd fa (filesL [])] ++ (catH bc ca cc pa pc bm n1 ⟨cs0, [], []⟩ ++ [])) := S
  have S := ST.mid (catH bc ca cc pa pc bm n1 ⟨cs0, [], []⟩) S
  have hC0 : CatOK ⟨cs0, [], []⟩ := ⟨by decide, by simp, by simp, .inr right0⟩
  have hing : (sget (sof l2) 0).toNat = 2 := by rw [sget_eq, bl_sof, hl2]; rfl
  refine (apply_ingest (N := 1) T S hC0 hca hn (by decide) (sof l2) hing (by rw [size_sof]; exact hpos) (by rw [size_sof]; omega)).mono ?_
  clear S
  rintro _ w13 ⟨_, rfl, d, fs, C2, fa2, ca2, cc2, pa2, pc2, n2, hQ, rfl, hca2, hn2, S⟩
  rw [bl_sof, hl2] at hQ
  obtain ⟨nm, dt, rfl, rfl, hnm, rfl⟩ := ing_first (cmd2_one (by decide) (by decide) (by decide) ok0 (by simp [rows0]) hQ)
  refine ⟨_, _, _, _, _, rfl, S.newB fun b27 w14 _ _ S => S.sto 0 rfl (cs' := #[.int .i64 0, .int .i64 0]) (by simp) rfl fun w15 S => S.sto 0 rfl (cs' := #[.int .i64 0, .int .i64 2]) (by simp) rfl fun w16 S => ?_⟩
  have S : ST w w16 ([It.cells b27 #[.int .i64 0, .int .i64 2] ty.api_Done, It.rd fa2 (filesL [(nm, dt)])] ++ (catH bc ca2 cc2 pa2 pc2 bm n2 ⟨cs0, [(nm, 2)], [(7, 1, 0, 2)]⟩ ++ ([It.cells b22 #[.int .i64 0, .int .i64 0] ty.api_Done, It.rd fa (filesL [])] ++ []))) := S
  have S := ST.mid (catH bc ca2 cc2 pa2 pc2 bm n2 ⟨cs0, [(nm, 2)], [(7, 1, 0, 2)]⟩) S
  have hC2 : CatOK ⟨cs0, [(nm, 2)], [(7, 1, 0, 2)]⟩ := ⟨by simp, fun p hp => by rw [List.mem_singleton.1 hp]; exact ⟨hnm, by simp, by simp⟩, fun c hc => by rw [List.mem_singleton.1 hc]; exact ⟨by decide, ⟨by decide, by decide⟩, by decide, by decide⟩, .inr right0⟩
  refine (apply_ingest (N := 2) T S hC2 hca2 hn2 (by decide) (sof l2) hing (by rw [size_sof]; exact hpos) (by rw [size_sof]; omega)).mono ?_
  clear S
  rintro _ w17 ⟨_, rfl, d, fs, C3, fa3, ca3, cc3, pa3, pc3, n3, hQ, rfl, hca3, hn3, S⟩
  rw [bl_sof, hl2] at hQ
  obtain ⟨rfl, rfl, rfl⟩ := ing_again (cmd2_one (by decide) (by decide) (by decide) ok0 (by simp [rows0]) hQ)
  refine ⟨_, _, _, _, _, rfl, S.newB fun b32 w18 _ _ S => S.sto 0 rfl (cs' := #[.int .i64 0, .int .i64 0]) (by simp) rfl fun w19 S => S.sto 0 rfl (cs' := #[.int .i64 0, .int .i64 2]) (by simp) rfl fun w20 S => ?_⟩
  refine IFB_eq (fun _ => ?_) (fun h => absurd rfl h)
  refine IFB_eq (fun _ => ?_) (fun h => absurd rfl h)
  refine ⟨_, S.cell 8 rfl rfl, _, S.cell 8 rfl rfl, IFB_of (fun _ => ?_) (fun h => absurd h (by decide))⟩
  refine ⟨_, S.cell 6 rfl rfl, _, S.cell 6 rfl rfl, IFB_of (fun _ => ?_) (fun h => absurd h (by decide))⟩
  refine IFB_eq (fun _ => ?_) (fun h => absurd rfl h)
  refine ⟨_, S.cell 0 rfl rfl, _, S.cell 0 rfl rfl, _, S.cell 6 rfl rfl, _, S.cell 6 rfl rfl, IFB_of (fun _ => ?_) (fun h => absurd h (by decide))⟩
  refine IFB_eq (fun _ => ?_) (fun h => absurd rfl h)
  have S := S.drop 2
  refine (Parts_ok (H := _) S hC2.np).mono ?_
  rintro _ w21 ⟨_, rfl, a', c', rfl, P⟩
  exact ⟨_, _, _, rfl, rfl, below_trans S.bel P.bel⟩
def mrgBad (ns : List ByteArray) (s : ByteArray) : Prop := ns.length < 2 ∨ 256 < ns.length ∨ 262144 < s.size ∨ ∃ x ∈ ns, x.size ≠ 64
instance (ns : List ByteArray) (s : ByteArray) : Decidable (mrgBad ns s) := by unfold mrgBad; infer_instance
theorem text_len {s : ByteArray} (h : s.size ≤ 262144) : (textL s).length ≤ 262154 := by
  have := digitsL_len10 (n := s.size) (by omega)
  simp only [textL, List.length_append, bl_length]
  omega
section
variable {w0 w : World} {H : List It} {a : Option Addr} {c : Nat} {ns : List ByteArray}
end
theorem sortedIds_ok {w : World} {bm n : Nat} {k : List Cli} (h : MapI Tryz.prog ty.int64 w bm n (gOf k)) (hn : n ≤ 1000000) {K : Option Addr → Nat → Nat → World → Prop}
    (hk : ∀ (a : Option Addr) (c : Nat) (ids : List Nat) (w' : World), ids.Pairwise (· < ·) → (∀ i, i ∈ ids ↔ (mapOf k i).isSome = true) → Row w' ty.int64 1 a ids.length c (ids.map fun i : Nat => Value.int .i64 (i : Int)) → (∀ b, rowB a = some b → w.heap.size ≤ b) → Below w.heap.size w w' → K a ids.length c w') :
    Calls Tryz.prog f.maps_Keys_map_int64_catalog_client_int64_catalog_client #[.map (some bm)] w (fun e w1 => ∃ (fn : FuncId) (fi ca : Array Value), e = .returned (.func (.func fn) fi ca) ∧
      Calls Tryz.prog f.slices_Sorted_int64 #[.func (.func fn) fi ca] w1 (fun e w2 => ∃ (a : Option Addr) (l c : Nat), e = .returned (.slice a l c) ∧ K a l c w2)) := by
  obtain ⟨D, hD, hsz, hl, hnd, hmem⟩ := h.keys und_i64
  refine (callsIn_wide.1 (Tryz.maps_Keys_60 (some bm) w)).mono ?_
  rintro _ w1 ⟨rfl, rfl⟩
  refine ⟨_, _, _, rfl, (callsIn_wide.1 (Tryz.slices_Sorted_keys_59_60 bm n D triE w hD (Nat.le_trans (Nat.le_trans hsz hn) (by decide)) (by omega))).mono ?_⟩
  rintro _ w2 ⟨v, ss, rfl, hperm, hrow, _, hb⟩
  obtain ⟨a, c, rfl, hR, hnew⟩ := row_of_owns hrow
  obtain ⟨h1, h2⟩ := sort_rise (ss := ss) (hperm.nodup_iff.2 hnd)
  obtain ⟨ids, e, h3, h4⟩ := keys_nat (k := k) h1 (fun x => (h2 x).trans ((hperm.mem_iff).trans (hmem x)))
  have hlen : ids.length = ss.length := by
    have := congrArg List.length e
    rw [List.length_mergeSort, List.length_map] at this
    exact this.symm
  have sz : w.heap.size ≤ (w.alloc (.cells #[.map (some bm)] ty.map_int64_catalog_client)).heap.size := by simp
  refine ⟨_, _, _, rfl, ?_⟩
  have hR' : Row w2 ty.int64 1 a ids.length c (ids.map fun i : Nat => Value.int .i64 (i : Int)) := by
    have hR := hR
    rw [show (ss.mergeSort fun x y => decide (x ≤ y)) = ids.map (fun i : Nat => (i : Int)) from e, List.map_map] at hR
    rw [hlen]
    exact hR
  have := hk a c ids w2 h3 h4 hR' (fun k hk => Nat.le_trans sz (hnew k hk)) (((Below.refl _ w).alloc (Nat.le_refl _) _).trans (hb.mono sz))
  rwa [hlen] at this
theorem encP_len {p : Prt} (h : PrtOk p) : (encP p).length ≤ 100 := by
  obtain ⟨h1, h2, h3⟩ := h
  have d1 := digitsL_len10 (n := p.1.size) (by omega)
  have d2 := digitsL_len10 (n := p.2) (by omega)
  simp only [encP, textL, List.length_append, bl_length]
  omega
theorem encPs_len {ps : List Prt} (h : ∀ p ∈ ps, PrtOk p) : (ps.flatMap encP).length ≤ ps.length * 100 := by
  induction ps with
  | nil => simp
  | cons p ps ih =>
    have h1 := encP_len (h p (by simp))
    have h2 := ih fun x hx => h x (by simp [hx])
    rw [List.flatMap_cons, List.length_append, List.length_cons]
    omega
theorem encC_len {c : Cli} (h : CliOk c) : (encC c).length ≤ 40 := by
  obtain ⟨h1, h2, h3, h4⟩ := h
  unfold greatN at h1 h2 h4
  have d1 := digitsL_len10 (n := c.1) (by omega)
  have d2 := digitsL_len10 (n := c.2.1) (by omega)
  have d3 := digitsL_len10 (n := c.2.2.1) (by omega)
  have d4 := digitsL_len10 (n := c.2.2.2) (by omega)
  simp only [encC, List.length_append]
  omega
theorem encCs_len {ks : List Cli} (h : ∀ c ∈ ks, CliOk c) : (ks.flatMap encC).length ≤ ks.length * 40 := by
  induction ks with
  | nil => simp
  | cons p ps ih =>
    have h1 := encC_len (h p (by simp))
    have h2 := ih fun x hx => h x (by simp [hx])
    rw [List.flatMap_cons, List.length_append, List.length_cons]
    omega
theorem hasL_len {cs : List Col} (h : cs = [] ∨ rightCols cs = true) : (hasL cs).length ≤ 700 := by
  rcases h with rfl | h
  · have := digitsL_len10 (n := 0) (by omega)
    simp only [hasL, if_pos]
    omega
  · have h1 := schL_len h
    have h2 := digitsL_len10 (n := 1) (by omega)
    rw [hasL, if_neg (right_ne h), List.length_append]
    omega
section
variable {w0 w : World} {H : List It} {bc bm n N cc pc : Nat} {ca pa : Option Addr} {C : CatS}
theorem ids_cnt {k : List Cli} {ids : List Nat} (h : ids.Pairwise (· < ·)) (hm : ∀ i, i ∈ ids ↔ (mapOf k i).isSome = true) : cntC k = ids.length := by
  have hnd : ids.Nodup := h.imp fun {a b} hab e => by omega
  exact ((List.perm_ext_iff_of_nodup (idsOf_nodup k) hnd).2 fun i => ((idsOf_mem k i).trans mapOf_some.symm).trans (hm i).symm).length_eq
set_option maxHeartbeats 2000000 in
theorem Snapshot_ok (S : ST w0 w (catH bc ca cc pa pc bm n C ++ H)) (hC : CatOK C) (hca : ca = none ↔ C.cols = []) (hn : n ≤ 1000000) (hcnt : cntC C.k ≤ 100000) :
    Calls Tryz.prog f.catalog_Catalog_Snapshot #[.pointer (some ⟨bc, 0, none⟩)] w (Ret fun v w' => ∃ ids, ids.Pairwise (· < ·) ∧ (∀ i, i ∈ ids ↔ (mapOf C.k i).isSome = true) ∧ v = .string (sof (snapL C.cols C.parts (cliOf (mapOf C.k) ids))) ∧ Below w.heap.size w w') := by
  apply R.catalog_Catalog_Snapshot_calls
  unfold R.catalog_Catalog_Snapshot
  have hnp := hC.np
  refine IFB_false ?_
  have d0 := digitsL_len10 (n := 0) (by omega)
  have d1 := digitsL_len10 (n := 1) (by omega)
  refine (wire_Number_ok (a := none) (c := 0) [] (Rd.nil _ _) 0 (by omega) (by simp)).mono ?_
  rintro _ w1 ⟨_, rfl, a1, c1, rfl, h1⟩
  rw [List.nil_append] at h1 ⊢
  have hS0 := S
  have hc0 : ∀ {wx : World}, Below w.heap.size w wx → ST w wx [] := fun B => (ST.start w).grown B
  have S := S.grown h1.bel
  have P := stAddB (ST.start w) h1
  refine ⟨_, _, _, rfl, fun s wx => ∃ a c, s = [.slice a (hasL C.cols).length c] ∧ ST w wx [bytesI a c (hasL C.cols)], ⟨_, _, _, S.cell 0 rfl rfl, IFB_not (IFB_of (fun hb => ?_) (fun hb => ?_))⟩, ?_⟩
  · have hn0 : C.cols = [] := hca.1 (by simpa using hb)
    refine ⟨a1, c1, ?_, ?_⟩
    · rw [hasL, if_pos hn0]
    · rw [hasL, if_pos hn0]; exact P
  · have hne : C.cols ≠ [] := fun e => by rw [hca.2 e] at hb; cases hb
    have hR : rightCols C.cols = true := by
      rcases hC.cols with h | h
      · exact absurd h hne
      · exact h
    have hcl := right_len hR
    have hq : ∀ c ∈ C.cols, c.1.size ≤ 9223372036854775807 := fun c hc => by have := (right_col hR hc).2.2.2; omega
    refine S.draw fun w2 B2 S => ⟨_, _, _, S.cell 0 rfl rfl, (wire_Number_ok (a := none) (c := 0) [] (Rd.nil _ _) 1 (by omega) (by simp)).mono ?_⟩
    rintro _ w3 ⟨_, rfl, a3, c3, rfl, h3⟩
    rw [List.nil_append] at h3 ⊢
    have S := S.grown h3.bel
    have P := stAddB (P.grown B2) h3
    refine ⟨_, _, _, rfl, S.cell 0 rfl rfl, (schema_Lay_ok (l := digitsL 1) (c := c3) h3.rd (by omega) (S.rd 1 rfl) (by omega) hq).mono ?_⟩
    rintro _ w4 ⟨_, rfl, h4⟩
    rcases h4 with ⟨h, _⟩ | ⟨_, a4, c4, rfl, h4⟩
    · rw [hR] at h; cases h
    refine ⟨_, _, _, _, rfl, a4, c4, ?_, ?_⟩
    · rw [hasL, if_neg hne]
    · rw [hasL, if_neg hne]; exact (stAddB P h4).sub (.cons_cons _ (List.nil_sublist _))
  rintro a5 _ c5 w5 ⟨_, _, hs, P⟩
  cases hs
  have hl5 := hasL_len hC.cols
  have S := hS0.grown P.bel
  have dp := digitsL_len10 (n := C.parts.length) (by omega)
  refine ⟨_, _, _, S.cell 0 rfl rfl, ?_⟩
  rw [wrap_u64_id (by omega) (by omega)]
  refine (wire_Number_ok (hasL C.cols) (stRdB P 0 rfl) C.parts.length (by omega) (by omega)).mono ?_
  rintro _ w6 ⟨_, rfl, a6, c6, rfl, h6⟩
  have P := (stAddB P h6).keep 1
  have S := hS0.grown P.bel
  refine ⟨_, _, _, rfl, _, _, _, S.cell 0 rfl rfl, ?_⟩
  refine ⟨fun s wx => ∃ (i : Nat) (out : List UInt8) (oa : Option Addr) (oc : Nat), s = [.slice oa out.length oc, .int .i64 (i : Int)] ∧ i ≤ C.parts.length ∧ out = hasL C.cols ++ digitsL C.parts.length ++ (C.parts.take i).flatMap encP ∧ ST w wx [bytesI oa oc out], fun s _ => match s with
    | [_, .int _ i] => C.parts.length - i.toNat
    | _ => 0, ⟨0, _, a6, c6, rfl, by omega, by simp, P⟩, ?_⟩
  clear S P h6
  rintro oa _ oc _ w7 ⟨i, out, _, _, hst, hi, hout, P⟩
  cases hst
  have hol : out.length ≤ 30000 := by
    have := encPs_len (ps := C.parts.take i) fun p hp => hC.parts p (List.mem_of_mem_take hp)
    rw [List.length_take] at this
    rw [hout]
    simp only [List.length_append]
    omega
  have S := hS0.grown P.bel
  refine IFB_dec (fun hlt => ?_) (fun hge => ?_)
  · have hil : i < C.parts.length := by omega
    have hpo := hC.parts _ (List.getElem_mem hil)
    obtain ⟨p, hp, e0, e1⟩ := prt_at (S.rd 2 rfl) hil
    rw [hp]
    refine ⟨⟨by omega, by omega⟩, _, by rw [Int.toNat_natCast]; exact e0, _, by rw [Int.toNat_natCast]; exact e1, P.newB fun b27 w8 _ _ P => P.sto 0 rfl (cs' := #[.string C.parts[i].1, .int .i64 0]) (by simp) rfl fun w9 P => P.sto 0 rfl (cs' := #[.string C.parts[i].1, .int .i64 (C.parts[i].2 : Int)]) (by simp) rfl fun w10 P => ⟨_, P.cell 0 rfl rfl, ?_⟩⟩
    have hp64 := hpo.1
    have hp24 := hpo.2
    refine (wire_Text_ok out (stRdB P 1 rfl) C.parts[i].1 (by omega) (by omega)).mono ?_
    rintro _ w11 ⟨_, rfl, a11, c11, rfl, h11⟩
    have dt := text_len (s := C.parts[i].1) (by omega)
    have P := stAddB P h11
    refine ⟨_, _, _, _, rfl, _, P.cell 1 rfl rfl, ?_⟩
    rw [wrap_u64_id (n := ((C.parts[i].2 : Nat) : Int)) (by omega) (by omega)]
    refine (wire_Number_ok _ (stRdB P 0 rfl) C.parts[i].2 (by omega) (by rw [List.length_append]; omega)).mono ?_
    rintro _ w12 ⟨_, rfl, a12, c12, rfl, h12⟩
    have P := (stAddB P h12).keep 3
    rw [wrap_succ (by omega)]
    refine ⟨_, _, _, rfl, ⟨i + 1, _, a12, c12, rfl, by omega, ?_, P⟩, by simp only [Int.toNat_natCast]; omega⟩
    rw [hout, List.take_succ_eq_append_getElem hil, List.flatMap_append]
    simp [encP]
  · obtain rfl : i = C.parts.length := by omega
    rw [List.take_length] at hout
    have hmid : out = midL C.cols C.parts := hout
    refine ⟨_, S.cell 0 rfl rfl, len_ok (S.get 3 rfl) ⟨_, rfl, ?_⟩⟩
    rw [wrap_u64_id (by omega) (by omega)]
    have dc := digitsL_len10 (n := cntC C.k) (by omega)
    refine (wire_Number_ok out (stRdB P 0 rfl) (cntC C.k) (by omega) (by omega)).mono ?_
    rintro _ w14 ⟨_, rfl, a14, c14, rfl, h14⟩
    have P := (stAddB P h14).keep 1
    have S := hS0.grown P.bel
    refine ⟨_, _, _, rfl, _, S.cell 0 rfl rfl, sortedIds_ok (S.get 3 rfl) hn fun ka kc ids w16 hup hmem hrow hnew B16 => ?_⟩
    have hids := ids_cnt hup hmem
    have hok : ∀ c ∈ cliOf (mapOf C.k) ids, CliOk c := fun c hc => hC.clis c (cliOf_mem hmem hc)
    have hkl : (cliOf (mapOf C.k) ids).length = ids.length := by simp [cliOf]
    have P := P.add B16 (It.row ty.int64 1 ka ids.length kc (ids.map fun i : Nat => Value.int .i64 (i : Int))) hrow hnew
    refine ⟨fun s wx => ∃ (i : Nat) (out2 : List UInt8) (oa : Option Addr) (oc : Nat), s = [.slice oa out2.length oc, .int .i64 (i : Int)] ∧ i ≤ ids.length ∧ out2 = out ++ digitsL ids.length ++ ((cliOf (mapOf C.k) ids).take i).flatMap encC ∧ ST w wx [It.row ty.int64 1 ka ids.length kc (ids.map fun i : Nat => Value.int .i64 (i : Int)), bytesI oa oc out2], fun s _ => match s with
      | [_, .int _ i] => ids.length - i.toNat
      | _ => 0, ⟨0, _, a14, c14, rfl, by omega, by simp [hids], P⟩, ?_⟩
    clear S P h14
    rintro oa _ oc _ w17 ⟨i, out2, _, _, hst, hi, hout2, P⟩
    cases hst
    have hol2 : out2.length ≤ 30010 + 4000000 := by
      have h1 := encCs_len (ks := (cliOf (mapOf C.k) ids).take i) fun c hc => hok c (List.mem_of_mem_take hc)
      rw [List.length_take] at h1
      rw [hout2]
      simp only [List.length_append]
      rw [hids] at dc
      omega
    have S := hS0.grown P.bel
    refine IFB_dec (fun hlt => ?_) (fun hge => ?_)
    · have hil : i < ids.length := by omega
      have hilc : i < (cliOf (mapOf C.k) ids).length := by omega
      obtain ⟨p, rfl, e0⟩ := nat_at (P.rd 0 rfl) hil
      have hci := hok _ (List.getElem_mem hilc)
      obtain ⟨x, hx⟩ := Option.isSome_iff_exists.1 ((hmem ids[i]).1 (List.getElem_mem hil))
      obtain ⟨x1, x2, x3⟩ := x
      have eci : (cliOf (mapOf C.k) ids)[i] = (ids[i], x1, x2, x3) := by simp [cliOf, hx]
      rw [eci] at hci
      obtain ⟨g1, ⟨_, g2⟩, g3, g4⟩ := hci
      simp only [greatN] at g1 g2 g3 g4
      refine ⟨⟨by omega, by omega⟩, _, by rw [Int.toNat_natCast]; exact e0, _, S.cell 0 rfl rfl, ?_⟩
      refine S.mgetI 3 rfl und_i64 und_cmap (zero_cli _) (by omega) ?_
      rw [gOf_nat, hx]
      refine ⟨_, _, _, rfl, P.newB fun b60 w20 _ _ P => P.sto 0 rfl (cs' := #[.int .i64 (x1 : Int), .int .i64 0, .int .i64 0]) (by simp) rfl fun w21 P => P.sto 0 rfl (cs' := #[.int .i64 (x1 : Int), .int .i64 (x2 : Int), .int .i64 0]) (by simp) rfl fun w22 P => P.sto 0 rfl (cs' := #[.int .i64 (x1 : Int), .int .i64 (x2 : Int), .int .i64 (x3 : Int)]) (by simp) rfl fun w23 P =>
        ⟨_, P.cell 0 rfl rfl, _, P.cell 0 rfl rfl, _, P.cell 0 rfl rfl, P.newB fun b64 w24 _ _ P => ?_⟩⟩
      obtain ⟨ns, hns⟩ : ∃ ns : List Nat, ns = [ids[i], x1, x2, x3] := ⟨_, rfl⟩
      have hnl : ns.length = 4 := by rw [hns]; rfl
      have hnb : ∀ x ∈ ns, x < 18446744073709551616 := fun x hx => by
        rw [hns] at hx
        simp only [List.mem_cons, List.not_mem_nil, or_false] at hx
        rcases hx with rfl | rfl | rfl | rfl <;> omega
      have hd10 : ∀ j, ((ns.take j).flatMap digitsL).length ≤ 40 := fun j => by
        have key : ∀ (l : List Nat), (∀ x ∈ l, x < 18446744073709551616) → (l.flatMap digitsL).length ≤ l.length * 10 := by
          intro l
          induction l with
          | nil => intro _; simp
          | cons x l ih =>
            intro h
            have h1 := digitsL_len10 (h x (by simp))
            have h2 := ih fun y hy => h y (by simp [hy])
            rw [List.flatMap_cons, List.length_append, List.length_cons]
            omega
        have h1 := key (ns.take j) fun x hx => hnb x (List.mem_of_mem_take hx)
        have h2 : (ns.take j).length ≤ 4 := by rw [List.length_take]; omega
        omega
      have P : ST w w24 (It.rd (some ⟨b64, 0, none⟩) (ns.map fun n : Nat => Value.int .i64 (n : Int)) :: [It.row ty.int64 1 (some p) ids.length kc (ids.map fun i : Nat => Value.int .i64 (i : Int)), bytesI oa oc out2]) := by
        have P := P.chg 0 rfl (.refl _ _) (It.rd (some ⟨b64, 0, none⟩) (ns.map fun n : Nat => Value.int .i64 (n : Int))) (by rw [hns]; exact P.rdc 0 rfl) (fun k hk => by rw [hns] at hk; exact .inl hk)
        exact P.keep 1
      refine ⟨fun s wx => ∃ (j : Nat) (out3 : List UInt8) (oa : Option Addr) (oc : Nat), s = [.slice oa out3.length oc, .int .i64 (j : Int)] ∧ j ≤ 4 ∧ out3 = out2 ++ (ns.take j).flatMap digitsL ∧ ST w wx [It.rd (some ⟨b64, 0, none⟩) (ns.map fun n : Nat => Value.int .i64 (n : Int)), It.row ty.int64 1 (some p) ids.length kc (ids.map fun i : Nat => Value.int .i64 (i : Int)), bytesI oa oc out3], fun s _ => match s with
        | [_, .int _ j] => 4 - j.toNat
        | _ => 0, ⟨0, out2, _, _, rfl, by omega, by simp, P⟩, ?_⟩
      clear P S
      rintro oa _ oc _ w25 ⟨j, out3, _, _, hst, hj, hout3, P⟩
      cases hst
      refine IFB_dec (fun hlt3 => ?_) (fun hge3 => ?_)
      · have hjn : j < ns.length := by omega
        obtain ⟨p4, hp4, e4⟩ := nat_at (P.get 0 rfl) hjn
        cases hp4
        have hb := hnb _ (List.getElem_mem hjn)
        have hdl := hd10 j
        refine ⟨⟨by omega, by omega⟩, _, by rw [Int.toNat_natCast]; exact e4, ?_⟩
        rw [wrap_u64_id (n := ((ns[j] : Nat) : Int)) (by omega) (by omega)]
        refine (wire_Number_ok out3 (stRdB P 2 rfl) ns[j] hb (by rw [hout3, List.length_append]; omega)).mono ?_
        rintro _ w26 ⟨_, rfl, a26, c26, rfl, h26⟩
        have P := stAddB P h26
        rw [wrap_succ (by omega)]
        refine ⟨_, _, _, rfl, ⟨j + 1, _, a26, c26, rfl, by omega, ?_, ?_⟩, by simp only [Int.toNat_natCast]; omega⟩
        · rw [hout3, List.take_succ_eq_append_getElem hjn, List.flatMap_append]
          simp
        · exact ((P.pull 2 rfl).pull 2 rfl).sub (.cons_cons _ (.cons_cons _ (.cons_cons _ (List.nil_sublist _))))
      · obtain rfl : j = 4 := by omega
        rw [wrap_succ (by omega)]
        refine ⟨⟨i + 1, out3, _, _, rfl, by omega, ?_, P.drop 1⟩, by simp only [Int.toNat_natCast]; omega⟩
        rw [hout3, hout2, List.take_succ_eq_append_getElem hilc, List.flatMap_append, eci, hns]
        simp [encC]
    · obtain rfl : i = ids.length := by omega
      rw [List.take_of_length_le (by omega)] at hout2
      refine string_of_bytes tbytes rfl (stRdB P 1 rfl) ⟨_, rfl, ids, hup, hmem, ?_, P.bel⟩
      rw [hout2, hmid, snapL, hkl]
end
section
variable {w0 w : World} {H : List It} {b : Nat} {a : Option Addr} {c at_ : Nat} {bad : Bool} {l : List UInt8}
theorem rtext_ok (S : ST w0 w H) (n m : Nat) (hn : H[n]? = some (rdrI b a l.length c at_ bad)) (hm : H[m]? = some (It.rd a (l.map byteV))) (hc : l.length ≤ c) (hs : l.length ≤ 140737488355328) (most : Nat) :
    Calls Tryz.prog f.catalog_reader_text #[.pointer (some ⟨b, 0, none⟩), .int .i64 (most : Int)] w (Ret fun v w' => ∃ (s : List UInt8) (at' : Nat) (bad' : Bool), v = .string (sof s) ∧ ST w0 w' (H.set n (rdrI b a l.length c at' bad')) ∧ Got bad bad' (takeT l (at_ : Int) most) (s, at')) := by
  apply R.catalog_reader_text_calls
  unfold R.catalog_reader_text
  refine S.draw fun w1 B1 S => ⟨_, _, _, S.cell n hn rfl, _, S.cell n hn rfl, ?_⟩
  refine (wire_TakeText_any (S.get m hm) hc (by omega) (at_ : Int) most).mono ?_
  rintro _ w2 ⟨_, rfl, rfl, rfl⟩
  have fail : ∀ {X : Prop}, (bad = true ∨ takeT l (at_ : Int) most = none) → STO (Addr.add ⟨b, 0, none⟩ 2) (.bool true) (fun w' => ∃ (s : List UInt8) (at' : Nat) (bad' : Bool), Value.string ⟨#[]⟩ = .string (sof s) ∧ ST w0 w' (H.set n (rdrI b a l.length c at' bad')) ∧ Got bad bad' (takeT l (at_ : Int) most) (s, at')) w2 := fun h =>
    S.sto n hn (i := 2) (cs' := #[.slice a l.length c, .int .i64 (at_ : Int), .bool true]) (by simp) rfl fun w3 S => ⟨[], at_, true, rfl, S, .inr ⟨rfl, h⟩⟩
  cases ho : takeT l (at_ : Int) most with
  | none =>
    rw [ho] at fail
    exact ⟨_, _, _, rfl, _, S.cell n hn rfl, IFB_of (fun hb => fail (X := True) (.inl hb)) (fun hb => IFB_ne (fun h => fail (X := True) (.inr rfl)) (fun h => by cases h))⟩
  | some x =>
    rw [ho] at fail
    refine ⟨_, _, _, rfl, _, S.cell n hn rfl, IFB_of (fun hb => fail (X := True) (.inl hb)) (fun hb => ?_)⟩
    subst hb
    exact IFB_ne (fun h => absurd rfl h) (fun h => S.sto n hn (i := 1) (cs' := #[.slice a l.length c, .int .i64 (x.2 : Int), .bool false]) (by simp) rfl fun w3 S => ⟨x.1, x.2, false, rfl, S, .inl ⟨rfl, rfl, rfl⟩⟩)
theorem rname_ok (S : ST w0 w H) (n m : Nat) (hn : H[n]? = some (rdrI b a l.length c at_ bad)) (hm : H[m]? = some (It.rd a (l.map byteV))) (hc : l.length ≤ c) (hs : l.length ≤ 140737488355328) :
    Calls Tryz.prog f.catalog_reader_name #[.pointer (some ⟨b, 0, none⟩)] w (Ret fun v w' => ∃ (s : ByteArray) (at' : Nat) (bad' : Bool), v = .string s ∧ ST w0 w' (H.set n (rdrI b a l.length c at' bad')) ∧ Got bad bad' (nameR l at_) (s, at')) := by
  apply R.catalog_reader_name_calls
  unfold R.catalog_reader_name
  have hlt := (List.getElem?_eq_some_iff.1 hn).1
  refine (rtext_ok S n m hn hm hc hs 64).mono ?_
  rintro _ w1 ⟨_, rfl, s, at1, b1, rfl, S, G⟩
  have hn1 : (H.set n (rdrI b a l.length c at1 b1))[n]? = some (rdrI b a l.length c at1 b1) := List.getElem?_set_self hlt
  refine ⟨_, rfl, _, S.cell n hn1 rfl, IFB_of (fun hb => ?_) (fun hb => ?_)⟩
  · subst hb
    refine S.sto n hn1 (i := 2) (cs' := #[.slice a l.length c, .int .i64 (at1 : Int), .bool true]) (by simp) rfl fun w3 S => ⟨_, at1, true, rfl, ?_, ?_⟩
    · rw [List.set_set] at S; exact S
    · refine .inr ⟨rfl, ?_⟩
      rcases G.no with h | h
      · exact .inl h
      · exact .inr (by rw [nameR, h]; rfl)
  · subst hb
    obtain ⟨rfl, h2⟩ := G.ok
    refine S.sto n hn1 (i := 2) (cs' := #[.slice a l.length c, .int .i64 (at1 : Int), .bool (((sof s).size : Int) != 64)]) (by simp) rfl fun w3 S => ⟨_, at1, (((sof s).size : Int) != 64), rfl, ?_, ?_⟩
    · rw [List.set_set] at S; exact S
    · have e : nameR l at_ = if s.length = 64 then some (sof s, at1) else none := by rw [nameR, h2, Option.bind_some]
      rw [size_sof]
      by_cases h : s.length = 64
      · refine .inl ⟨?_, rfl, by rw [e, if_pos h]⟩
        simp [h]
      · refine .inr ⟨?_, .inr (by rw [e, if_neg h])⟩
        have : ¬ (s.length : Int) = 64 := by omega
        simp [this]
end
theorem num_le {l : List UInt8} {b b' : Bool} {lo hi at_ z at' : Nat} (h : Got b b' (numR l lo hi at_) (z, at')) (hz : b' = true → z = 0) : z ≤ hi := by
  cases b' with
  | true => rw [hz rfl]; exact Nat.zero_le _
  | false => exact (numR_seg h.ok.2).2.2
theorem Got.same {α : Type} (b : Bool) (x : α) : Got b b (Option.some x) x := by
  cases b with
  | false => exact .inl ⟨rfl, rfl, rfl⟩
  | true => exact .inr ⟨rfl, .inl rfl⟩
structure GoodL (l : List UInt8) (c : Cat) : Prop where
  read : catR l = some (c, l.length)
  empty : c.cols = [] → c.parts = []
  rise : Rising c.clis
def catS (c : Cat) : CatS := ⟨c.cols, c.parts, c.clis⟩
theorem catS_ok {c : Cat} (h : CatOk c) : CatOK (catS c) := ⟨h.np, h.parts, h.clis, h.cols⟩
theorem idsOf_le : ∀ k : List Cli, (idsOf k).length ≤ k.length
  | [] => by simp [idsOf]
  | c :: k => by
    have := idsOf_le k
    unfold idsOf
    split
    · rw [List.length_cons]; omega
    · rw [List.length_cons, List.length_cons]; omega
def LoadV (l : List UInt8) (w w' : World) (v : Value) : Prop :=
  (∃ c bc ca cc pa pc bm n, GoodL l c ∧ v = .tuple #[.pointer (some ⟨bc, 0, none⟩), .int .i64 0] ∧ n ≤ 64 ∧ (ca = none ↔ c.cols = []) ∧ ST w w' (catH bc ca cc pa pc bm n (catS c))) ∨
    ((∀ c, ¬ GoodL l c) ∧ v = .tuple #[.pointer none, .int .i64 220] ∧ Below w.heap.size w w')
section
variable {w : World}
set_option maxHeartbeats 2000000 in
theorem Load_ok (s : ByteArray) (hs : s.size ≤ 140737488355328) : Calls Tryz.prog f.catalog_Load #[.string s] w (Ret fun v w' => LoadV (bl s) w w' v) := by
  apply R.catalog_Load_calls
  unfold R.catalog_Load
  have hbl := bl_length s
  refine (New_ok w).mono ?_
  rintro _ w1 ⟨_, rfl, bc, bm, rfl, S⟩
  refine ⟨_, rfl, bytes_of_string tbytes s w1 fun b0 c0 cells e0 w2 hb0 B2 hg2 hcs hsc htk => ?_⟩
  have hr : Rd w2 (some ⟨b0, 0, none⟩) ((bl s).map byteV) := by
    have := (Rd.of_block0 hg2).take s.size
    rw [htk] at this
    exact this
  have S := stAddRd S B2 (⟨hr, fun k hk => by cases hk; exact Nat.le_of_eq hb0.symm⟩ : RdN w1 w2 _ _)
  obtain ⟨l, hl⟩ : ∃ l, l = bl s := ⟨_, rfl⟩
  rw [← hl] at hbl S ⊢
  have hll : l.length ≤ c0 := by omega
  have hl9 : l.length ≤ 140737488355328 := by omega
  clear hr htk
  let L : Nat → Nat → Bool → Option Addr → Nat → Option Addr → Nat → Nat → CatS → List It := fun b at_ bad ca cc pa pc n C => rdrI b (some ⟨b0, 0, none⟩) l.length c0 at_ bad :: It.rd (some ⟨b0, 0, none⟩) (l.map byteV) :: catH bc ca cc pa pc bm n C
  refine ⟨_, _, _, rfl, S.newB fun b w3 _ _ S => ?_⟩
  have S : ST w w3 (L b 0 false none 0 none 0 0 ⟨[], [], []⟩) := by
    rw [← hbl] at S
    exact S
  refine ⟨fun st wx => st = [] ∧ ∃ at_ bad ca cc cs, ST w wx (L b at_ bad ca cc none 0 0 ⟨cs, [], []⟩) ∧ (ca = none ↔ cs = []) ∧ Got false bad (colsR l 0) (cs, at_), ?_, ?_⟩
  · refine (rnumber_ok S 0 1 rfl rfl hll hl9 0 1 (by decide)).mono ?_
    rintro _ w4 ⟨_, rfl, z, at1, b1, rfl, S, G1, _⟩
    refine ⟨_, rfl, IFB_eq (fun hz => ?_) (fun hz => ⟨rfl, at1, b1, none, 0, [], S, ⟨fun _ => rfl, fun _ => rfl⟩, ?_⟩)⟩
    · refine (rschema_ok S 0 1 rfl rfl hll hl9).mono ?_
      rintro _ w5 ⟨_, rfl, sa, sc, cs, at2, b2, rfl, S, G2, hb2⟩
      refine ⟨_, _, _, rfl, S.sto 3 rfl (i := 0) (cs' := #[.slice sa cs.length sc, .slice none 0 0, .map (some bm)]) (by simp) rfl fun w6 S => ⟨rfl, at2, b2, sa, sc, cs, ?_, ?_, ?_⟩⟩
      · -- the new columns stand ahead; the old ones, which are none, go
        have S := ((S.pull 3 rfl).pull 3 rfl).pull 3 rfl
        exact S.sub (.cons_cons _ (.cons_cons _ (.cons_cons _ (.cons_cons _ (.cons _ (List.Sublist.refl _))))))
      · constructor
        · intro h
          subst h
          have hrd : Rd w6 none (colsL cs) := S.rd 0 rfl
          exact rd_none (k := 2) (fun _ => rfl) hrd
        · intro h
          cases hbb : b2 with
          | true => exact (hb2 hbb).1
          | false =>
            rw [hbb] at G2
            obtain ⟨_, h2⟩ := G2.ok
            have := takeSch_right h2
            exact absurd h (right_ne this)
      · have := G1.bind (g := fun x => if x.1 = 1 then takeSch l (x.2 : Int) else some ([], x.2)) (y := (cs, at2)) (b2 := b2) (by
          simp only
          rw [if_pos (by omega)]
          exact G2)
        exact this
    · refine G1.bind (g := fun x => if x.1 = 1 then takeSch l (x.2 : Int) else some ([], x.2)) (y := (([] : List Col), at1)) (b2 := b1) ?_
      simp only
      rw [if_neg (by omega)]
      cases b1 with
      | false => exact .inl ⟨rfl, rfl, rfl⟩
      | true => exact .inr ⟨rfl, .inl rfl⟩
  clear S
  rintro w7 ⟨_, at1, b1, ca, cc, cs, S, hca, G0⟩
  refine (rnumber_ok S 0 1 rfl rfl hll hl9 0 256 (by decide)).mono ?_
  rintro _ w8 ⟨_, rfl, np, at2, b2, rfl, S, G1, hz1⟩
  have hnp := num_le G1 hz1
  refine ⟨_, rfl, fun st wx => ∃ (i at_ : Nat) (bad : Bool) (pa : Option Addr) (pc : Nat) (ps : List Prt), st = [.int .i64 (i : Int)] ∧ i ≤ np ∧ ps.length = i ∧ ST w wx (L b at_ bad ca cc pa pc 0 ⟨cs, ps, []⟩) ∧ Got b2 bad (manyR (partR l) i at2) (ps, at_), fun st _ => match st with
    | [.int _ i] => np - i.toNat
    | _ => 0, ⟨0, at2, b2, none, 0, [], rfl, by omega, rfl, S, Got.same _ _⟩, ?_⟩
  clear S
  rintro _ w9 ⟨i, at3, b3, pa, pc, ps, hst, hi, hpl, S, G2⟩
  cases hst
  refine IFB_dec (fun hlt => ?_) (fun hge => ?_)
  · refine S.draw fun w10 _ S => ⟨_, _, _, S.cell 2 rfl rfl, (rname_ok S 0 1 rfl rfl hll hl9).mono ?_⟩
    rintro _ w11 ⟨_, rfl, nm, at4, b4, rfl, S, G3⟩
    refine ⟨_, rfl, S.cell 2 rfl rfl, (rnumber_ok S 0 1 rfl rfl hll hl9 1 1024 (by decide)).mono ?_⟩
    rintro _ w12 ⟨_, rfl, r, at5, b5, rfl, S, G4, _⟩
    refine ⟨_, rfl, S.cell 2 rfl rfl, S.newB fun b23 w13 _ _ S => ⟨S.cell 3 rfl rfl, ?_⟩⟩
    simp only [PTR]
    refine stAppQ S (n := 5) (ps := ps) rfl (p := (nm, r)) (S.rdc 0 rfl) (by omega) fun a' c' w14 S => ⟨_, _, _, rfl, ?_⟩
    refine S.sto 3 rfl (i := 1) (cs' := #[.slice ca cs.length cc, .slice a' (ps ++ [(nm, r)]).length c', .map (some bm)]) (by simp) rfl fun w15 S => ?_
    rw [wrap_succ (by omega)]
    have G5 : Got b3 b5 (partR l at3) ((nm, r), at5) := G3.bind (g := fun x => (numR l 1 1024 x.2).map fun y => ((x.1, y.1), y.2)) (G4.map (fun y => ((nm, y.1), y.2)))
    have G6 : Got b2 b5 (manyR (partR l) (i + 1) at2) (ps ++ [(nm, r)], at5) := G2.bind (g := fun q => (partR l q.2).map fun x => (q.1 ++ [x.1], x.2)) (G5.map (fun x => (ps ++ [x.1], x.2)))
    exact ⟨⟨i + 1, at5, b5, a', c', ps ++ [(nm, r)], rfl, by omega, by simp [hpl], S.drop 1, G6⟩, by simp only [Int.toNat_natCast]; omega⟩
  obtain rfl : i = np := by omega
  refine (rnumber_ok S 0 1 rfl rfl hll hl9 0 64 (by decide)).mono ?_
  rintro _ w16 ⟨_, rfl, nc, at4, b4, rfl, S, G3, hz3⟩
  have hnc := num_le G3 hz3
  refine ⟨_, rfl, fun st wx => ∃ (j at_ : Nat) (bad : Bool) (k : List Cli), st = [.int .i64 (j : Int)] ∧ j ≤ nc ∧ ST w wx (L b at_ bad ca cc pa pc j ⟨cs, ps, k⟩) ∧ Got b4 bad (manyR (cliR l) j at4) (k, at_), fun st _ => match st with
    | [.int _ i] => nc - i.toNat
    | _ => 0, ⟨0, at4, b4, [], rfl, by omega, S, Got.same _ _⟩, ?_⟩
  clear S
  rintro _ w17 ⟨j, at5, b5, k, hst, hj, S, G4⟩
  cases hst
  refine IFB_dec (fun hlt => ?_) (fun hge => ?_)
  · refine (rnumber_ok S 0 1 rfl rfl hll hl9 0 greatN (by decide)).mono ?_
    rintro _ w18 ⟨_, rfl, y1, q1, d1, rfl, S, E1, z1⟩
    have l1 := num_le E1 z1
    refine ⟨_, rfl, (rnumber_ok S 0 1 rfl rfl hll hl9 1 greatN (by decide)).mono ?_⟩
    rintro _ w19 ⟨_, rfl, y2, q2, d2, rfl, S, E2, _⟩
    refine ⟨_, rfl, S.draw fun w20 _ S => ⟨_, S.cell 2 rfl rfl, (rnumber_ok S 0 1 rfl rfl hll hl9 0 1000 (by decide)).mono ?_⟩⟩
    rintro _ w21 ⟨_, rfl, y3, q3, d3, rfl, S, E3, _⟩
    refine ⟨_, rfl, S.cell 2 rfl rfl, (rnumber_ok S 0 1 rfl rfl hll hl9 0 greatN (by decide)).mono ?_⟩
    rintro _ w22 ⟨_, rfl, y4, q4, d4, rfl, S, E4, _⟩
    unfold greatN at l1
    refine ⟨_, rfl, S.cell 2 rfl rfl, S.mputI 5 rfl und_i64 und_cmap (by unfold maxLen; omega) (by omega) ((y2 : Int), (y3 : Int), (y4 : Int)) fun w23 S => ?_⟩
    have eg : (fun y => if y = (y1 : Int) then some ((y2 : Int), (y3 : Int), (y4 : Int)) else gOf k y) = gOf (k ++ [(y1, y2, y3, y4)]) := (gOf_snoc k (y1, y2, y3, y4)).symm
    have S : ST w w23 (L b q4 d4 ca cc pa pc (j + 1) ⟨cs, ps, k ++ [(y1, y2, y3, y4)]⟩) := by
      rw [eg] at S
      exact S
    rw [wrap_succ (by omega)]
    have F1 : Got b5 d4 (cliR l at5) ((y1, y2, y3, y4), q4) := E1.bind (g := fun x => (numR l 1 greatN x.2).bind fun y => (numR l 0 1000 y.2).bind fun z => (numR l 0 greatN z.2).map fun u => ((x.1, y.1, z.1, u.1), u.2))
      (E2.bind (g := fun y => (numR l 0 1000 y.2).bind fun z => (numR l 0 greatN z.2).map fun u => ((y1, y.1, z.1, u.1), u.2)) (E3.bind (g := fun z => (numR l 0 greatN z.2).map fun u => ((y1, y2, z.1, u.1), u.2)) (E4.map (fun u => ((y1, y2, y3, u.1), u.2)))))
    have F2 : Got b4 d4 (manyR (cliR l) (j + 1) at4) (k ++ [(y1, y2, y3, y4)], q4) := G4.bind (g := fun q => (cliR l q.2).map fun x => (q.1 ++ [x.1], x.2)) (F1.map (fun x => (k ++ [x.1], x.2)))
    exact ⟨⟨j + 1, q4, d4, _, rfl, by omega, S, F2⟩, by simp only [Int.toNat_natCast]; omega⟩
  obtain rfl : j = nc := by omega
  have GC : Got false b5 (catR l) ((⟨cs, ps, k⟩ : Cat), at5) := G0.bind (g := fun c => (numR l 0 256 c.2).bind fun n => (manyR (partR l) n.1 n.2).bind fun p => (numR l 0 64 p.2).bind fun m => (manyR (cliR l) m.1 m.2).map fun k => ((⟨c.1, p.1, k.1⟩ : Cat), k.2))
    (G1.bind (g := fun n => (manyR (partR l) n.1 n.2).bind fun p => (numR l 0 64 p.2).bind fun m => (manyR (cliR l) m.1 m.2).map fun k => ((⟨cs, p.1, k.1⟩ : Cat), k.2)) (G2.bind (g := fun p => (numR l 0 64 p.2).bind fun m => (manyR (cliR l) m.1 m.2).map fun k => ((⟨cs, p.1, k.1⟩ : Cat), k.2))
      (G3.bind (g := fun m => (manyR (cliR l) m.1 m.2).map fun k => ((⟨cs, ps, k.1⟩ : Cat), k.2)) (G4.map (fun k => ((⟨cs, ps, k.1⟩ : Cat), k.2))))))
  have hone : ∀ c, GoodL l c → b5 = false ∧ c = ⟨cs, ps, k⟩ ∧ at5 = l.length := fun c hG => by
    obtain ⟨h1, h2⟩ := GC.some hG.read
    obtain ⟨h3, h4⟩ := Prod.mk.inj h2
    exact ⟨h1, h3.symm, h4⟩
  refine (rwhole_ok S 0 rfl).mono ?_
  clear S
  rintro _ w24 ⟨_, rfl, rfl, S⟩
  refine ⟨_, rfl, IFB_not (IFB_of (fun hw => ?_) (fun hw => .inr ⟨fun c hG => ?_, rfl, S.bel⟩))⟩
  rotate_left
  · obtain ⟨h1, _, h3⟩ := hone c hG
    rw [h1, h3] at hw
    simp at hw
  simp only [Bool.and_eq_true, Bool.not_eq_true', decide_eq_true_eq] at hw
  obtain ⟨rfl, rfl⟩ := hw
  obtain ⟨_, hread⟩ := GC.ok
  obtain ⟨hseg, hcok⟩ := catR_seg hread
  have hlall := hseg.all rfl
  simp only at hlall
  have S : ST w w24 (catH bc ca cc pa pc bm j ⟨cs, ps, k⟩ ++ []) := S.drop 2
  have hCS : CatOK ⟨cs, ps, k⟩ := catS_ok hcok
  have hcn : cntC k ≤ 100000 := by have := idsOf_le k; have := hcok.nc; simp only [cntC] at *; omega
  have snap : (cs = [] → ps = []) → Calls Tryz.prog f.catalog_Catalog_Snapshot #[.pointer (some ⟨bc, 0, none⟩)] w24 (fun e w25 => ∃ t : ByteArray, e = .returned (.string t) ∧ IFB (!bytesEq t s) (LoadV l w w25 (.tuple #[.pointer none, .int .i64 220])) (LoadV l w w25 (.tuple #[.pointer (some ⟨bc, 0, none⟩), .int .i64 0]))) := fun hemp => by
    refine (Snapshot_ok S hCS hca (by omega) hcn).mono ?_
    rintro _ w25 ⟨_, rfl, ids, hup, hmem, rfl, B⟩
    have S := S.grown B
    refine ⟨_, rfl, ?_⟩
    rw [bytesEq_iff]
    refine IFB_not (IFB_dec (fun h => .inl ⟨⟨cs, ps, k⟩, bc, ca, cc, pa, pc, bm, j, ⟨hread, hemp, ?_⟩, rfl, hnc, hca, S⟩) (fun h => .inr ⟨fun c hG => h ?_, rfl, S.bel⟩))
    · have h2 := congrArg bl h
      rw [bl_sof, ← hl, hlall] at h2
      have hk2 : ∀ c ∈ cliOf (mapOf k) ids, CliOk c := fun c hc => hcok.clis c (cliOf_mem hmem hc)
      have hkl : (cliOf (mapOf k) ids).length ≤ 64 := by
        have h3 := ids_cnt hup hmem
        have h4 := idsOf_le k
        have h5 := hcok.nc
        simp only [cliOf, List.length_map, cntC] at *
        omega
      exact (cliOf_rise hup hmem).1 (snap_cut hk2 hcok.clis hkl hcok.nc h2)
    · obtain ⟨_, rfl, _⟩ := hone c hG
      have h3 := (cliOf_rise hup hmem).2 hG.rise
      show sof (snapL cs ps (cliOf (mapOf k) ids)) = s
      rw [h3, ← hlall, hl, sof_bl]
  refine ⟨_, _, _, S.cell 0 rfl rfl, IFB_of (fun hb => ?_) (fun hb => snap fun h => ?_)⟩
  · refine ⟨_, _, _, S.cell 0 rfl rfl, IFB_dec (fun h => .inr ⟨fun c hG => ?_, rfl, S.bel⟩) (fun h => snap fun _ => ?_)⟩
    · obtain ⟨_, rfl, _⟩ := hone c hG
      have hc0 : cs = [] := hca.1 (by simpa using hb)
      have : ps = [] := hG.empty hc0
      rw [this] at h
      simp at h
    · have : ps.length = 0 := by simp only at h; omega
      exact List.length_eq_zero_iff.1 this
  · rw [hca.2 h] at hb
    cases hb
end
end Go.Proofs.YtpnaifmmggnimaaGreatDoor
