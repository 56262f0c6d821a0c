/-
  Texts of this claim, laid one behind the other by a program of mine (install.py): Dn.Ld, P.Uses, P.Uses2, P.Name, P.Fits, P.Fits2, P.Fits3, Dn.Sh3, P.RShow, P.Txt, P.Txt2, P.Txt3.
-/
import Derived.Test.YtbpdfpfgijhokaaGreatDoorM4
import Derived.Test.YtbpdfpfgijhokaaGreatDoorM3
namespace Go.Dn
set_option linter.unusedVariables false
set_option maxRecDepth 100000
open Go.RowKit (Below)
section
variable {w0 w : World} {H : List It} {P : Program} {f : FuncId} {args : Array Value} {Q : Ending → World → Prop}
theorem ST.call (S : ST w0 w H) {v : Value} (h : Calls P f args w (Ret fun r w' => r = v ∧ Below w.heap.size w w')) (hk : ∀ w', Below w.heap.size w w' → ST w0 w' H → Q (.returned v) w') : Calls P f args w Q :=
  h.mono (by rintro _ w' ⟨_, rfl, rfl, B⟩; exact hk w' B (S.grown B))
theorem ST.call0 (S : ST w0 w H) {v : Value} (h : Calls P f args w (Ret fun r w' => r = v ∧ w' = w)) (hk : Q (.returned v) w) : Calls P f args w Q :=
  h.mono (by rintro _ w' ⟨_, rfl, rfl, rfl⟩; exact hk)
theorem ST.one {x : It} (S : ST w0 w (x :: H)) : ST w0 w [x] := S.sub (List.Sublist.cons_cons x (List.nil_sublist H))
theorem below_j {w w1 w2 : World} (h : Below w.heap.size w w1) (h' : Below w1.heap.size w1 w2) : Below w.heap.size w w2 := h.trans (h'.mono h.size)
end
theorem PTR_i {a : Addr} {k : Addr → Prop} (h : k a) : PTR (some a) k := h
theorem i64_succ {i n : Nat} (h : i < n) (hn : n ≤ 9223372036854775807) : IntKind.i64.wrap ((i : Int) + 1) = ((i + 1 : Nat) : Int) := wrap_succ (by omega)
theorem forUp {w : World} {B : (List Value → World → Prop) → (List Value → World → Nat) → Int → World → Prop} (n : Nat) (Inv : Nat → World → Prop) (hn : n ≤ 9223372036854775807) (h0 : Inv 0 w)
    (hb : ∀ (I : List Value → World → Prop) (M : List Value → World → Nat) (i : Nat) (w2 : World), i ≤ n → Inv i w2 → (∀ w', i < n → Inv (i + 1) w' → I [.int .i64 (IntKind.i64.wrap ((i : Int) + 1))] w' ∧ M [.int .i64 (IntKind.i64.wrap ((i : Int) + 1))] w' < M [.int .i64 (i : Int)] w2) → B I M (i : Int) w2) :
    ∃ (I : List Value → World → Prop) (M : List Value → World → Nat), I [.int .i64 0] w ∧ ∀ (i : Int) (w2 : World), I [.int .i64 i] w2 → B I M i w2 := by
  refine ⟨fun st w => ∃ i : Nat, st = [.int .i64 (i : Int)] ∧ i ≤ n ∧ Inv i w, fun st _ => match st with | [.int _ t] => n - t.toNat | _ => 0, ⟨0, rfl, Nat.zero_le _, h0⟩, ?_⟩
  rintro t w2 ⟨i, hst, hi, hI⟩
  cases hst
  refine hb _ _ i w2 hi hI fun w' hlt h => ?_
  rw [i64_succ hlt hn]
  exact ⟨⟨i + 1, rfl, hlt, h⟩, by simp only [Int.toNat_natCast]; omega⟩
section
variable {w0 w : World} {H : List It}
theorem ST.sto8 (S : ST w0 w H) (n : Nat) {b : Nat} {x0 x1 x2 x3 x4 x5 x6 x7 v0 v1 v2 v3 v4 v5 v6 v7 : Value} {t : TypeId} (hn : H[n]? = some (It.cells b #[x0, x1, x2, x3, x4, x5, x6, x7] t)) {k : World → Prop} (hk : ∀ w', ST w0 w' (H.set n (It.cells b #[v0, v1, v2, v3, v4, v5, v6, v7] t)) → k w') :
    STO ⟨b, 0, none⟩ v0 (fun w => STO ⟨b, 1, none⟩ v1 (fun w => STO ⟨b, 2, none⟩ v2 (fun w => STO ⟨b, 3, none⟩ v3 (fun w => STO ⟨b, 4, none⟩ v4 (fun w => STO ⟨b, 5, none⟩ v5 (fun w => STO ⟨b, 6, none⟩ v6 (fun w => STO ⟨b, 7, none⟩ v7 k w) w) w) w) w) w) w) w := by
  have hlt := (List.getElem?_eq_some_iff.1 hn).1
  refine S.sto n hn (cs' := #[v0, x1, x2, x3, x4, x5, x6, x7]) (by simp) rfl fun w1 S1 => ?_
  refine S1.sto n (List.getElem?_set_self hlt) (cs' := #[v0, v1, x2, x3, x4, x5, x6, x7]) (by simp) rfl fun w2 S2 => ?_
  rw [List.set_set] at S2
  refine S2.sto n (List.getElem?_set_self hlt) (cs' := #[v0, v1, v2, x3, x4, x5, x6, x7]) (by simp) rfl fun w3 S3 => ?_
  rw [List.set_set] at S3
  refine S3.sto n (List.getElem?_set_self hlt) (cs' := #[v0, v1, v2, v3, x4, x5, x6, x7]) (by simp) rfl fun w4 S4 => ?_
  rw [List.set_set] at S4
  refine S4.sto n (List.getElem?_set_self hlt) (cs' := #[v0, v1, v2, v3, v4, x5, x6, x7]) (by simp) rfl fun w5 S5 => ?_
  rw [List.set_set] at S5
  refine S5.sto n (List.getElem?_set_self hlt) (cs' := #[v0, v1, v2, v3, v4, v5, x6, x7]) (by simp) rfl fun w6 S6 => ?_
  rw [List.set_set] at S6
  refine S6.sto n (List.getElem?_set_self hlt) (cs' := #[v0, v1, v2, v3, v4, v5, v6, x7]) (by simp) rfl fun w7 S7 => ?_
  rw [List.set_set] at S7
  refine S7.sto n (List.getElem?_set_self hlt) (cs' := #[v0, v1, v2, v3, v4, v5, v6, v7]) (by simp) rfl fun w8 S8 => ?_
  rw [List.set_set] at S8
  exact hk w8 S8
theorem ST.sto3 (S : ST w0 w H) (n : Nat) {b : Nat} {x0 x1 x2 v0 v1 v2 : Value} {t : TypeId} (hn : H[n]? = some (It.cells b #[x0, x1, x2] t)) {k : World → Prop} (hk : ∀ w', ST w0 w' (H.set n (It.cells b #[v0, v1, v2] t)) → k w') :
    STO ⟨b, 0, none⟩ v0 (fun w => STO ⟨b, 1, none⟩ v1 (fun w => STO ⟨b, 2, none⟩ v2 k w) w) w := by
  have hlt := (List.getElem?_eq_some_iff.1 hn).1
  refine S.sto n hn (cs' := #[v0, x1, x2]) (by simp) rfl fun w1 S1 => ?_
  refine S1.sto n (List.getElem?_set_self hlt) (cs' := #[v0, v1, x2]) (by simp) rfl fun w2 S2 => ?_
  rw [List.set_set] at S2
  refine S2.sto n (List.getElem?_set_self hlt) (cs' := #[v0, v1, v2]) (by simp) rfl fun w3 S3 => ?_
  rw [List.set_set] at S3
  exact hk w3 S3
theorem ST.stoR (S : ST w0 w H) (n : Nat) {e : TypeId} {sz g m c : Nat} {xs : List Value} (hn : H[n]? = some (It.row e sz (some ⟨g, 0, none⟩) m c xs)) {j : Nat} (hj : j < m * sz) {v : Value} {k : World → Prop}
    (hk : ∀ w', ST w0 w' (H.set n (It.row e sz (some ⟨g, 0, none⟩) m c (xs.set j v))) → k w') : STO ⟨g, j, none⟩ v k w :=
  (S.rw n hn).sto hj fun w' hr K => hk w' (S.chg n hn (K.mono fun k _ h => by subst h; rfl) _ hr (fun k hk => .inl hk))
theorem ST.toRd (S : ST w0 w H) (n : Nat) {e : TypeId} {sz : Nat} {a : Option Addr} {m c : Nat} {xs : List Value} (hn : H[n]? = some (It.row e sz a m c xs)) : ST w0 w (H.set n (It.rd a xs)) :=
  S.chg n hn (Keeps.refl _ w) _ (S.rd n hn) fun k hk => by
    cases xs with
    | nil => cases hk
    | cons x xs => exact .inl hk
theorem ST.sto5 (S : ST w0 w H) (n : Nat) {b : Nat} {x0 x1 x2 x3 x4 v0 v1 v2 v3 v4 : Value} {t : TypeId} (hn : H[n]? = some (It.cells b #[x0, x1, x2, x3, x4] t)) {k : World → Prop} (hk : ∀ w', ST w0 w' (H.set n (It.cells b #[v0, v1, v2, v3, v4] t)) → k w') :
    STO ⟨b, 0, none⟩ v0 (fun w => STO ⟨b, 1, none⟩ v1 (fun w => STO ⟨b, 2, none⟩ v2 (fun w => STO ⟨b, 3, none⟩ v3 (fun w => STO ⟨b, 4, none⟩ v4 k w) w) w) w) w := by
  have hlt := (List.getElem?_eq_some_iff.1 hn).1
  refine S.sto n hn (cs' := #[v0, x1, x2, x3, x4]) (by simp) rfl fun w1 S1 => ?_
  refine S1.sto n (List.getElem?_set_self hlt) (cs' := #[v0, v1, x2, x3, x4]) (by simp) rfl fun w2 S2 => ?_
  rw [List.set_set] at S2
  refine S2.sto n (List.getElem?_set_self hlt) (cs' := #[v0, v1, v2, x3, x4]) (by simp) rfl fun w3 S3 => ?_
  rw [List.set_set] at S3
  refine S3.sto n (List.getElem?_set_self hlt) (cs' := #[v0, v1, v2, v3, x4]) (by simp) rfl fun w4 S4 => ?_
  rw [List.set_set] at S4
  refine S4.sto n (List.getElem?_set_self hlt) (cs' := #[v0, v1, v2, v3, v4]) (by simp) rfl fun w5 S5 => ?_
  rw [List.set_set] at S5
  exact hk w5 S5
end
end Go.Dn
namespace Go.Proofs.YtbpdfpfgijhokaaGreatDoor
set_option maxRecDepth 100000
open Go.Dn Go.Proofs
open Go.RowKit (Below)
set_option linter.unusedVariables false
def usesL (x : Ex) : List (List UInt8) := if x.formed then x.names.map bl else []
def UsesV (x : Ex) (w w' : World) (v : Value) : Prop := ∃ (a : Option Addr) (c : Nat) (t : List ByteArray), v = .slice a t.length c ∧ IsRise (usesL x) (t.map bl) ∧ Rd w' a (t.map Value.string) ∧ t.length ≤ 1000000 ∧ Below w.heap.size w w'
def nmsOf (l : List (Nat × Ex)) : List ByteArray := (l.filter fun p => decide (p.2.op = 1)).map fun p => p.2.nm
theorem nmsOf_len (l : List (Nat × Ex)) : (nmsOf l).length ≤ l.length := by
  unfold nmsOf
  rw [List.length_map]
  exact List.length_filter_le _ _
theorem nmsOf_snoc (l : List (Nat × Ex)) (p : Nat × Ex) : nmsOf (l ++ [p]) = nmsOf l ++ if p.2.op = 1 then [p.2.nm] else [] := by
  unfold nmsOf
  rw [List.filter_append, List.map_append]
  congr 1
  by_cases h : p.2.op = 1
  · rw [if_pos h, List.filter_cons_of_pos (by simpa using h)]; rfl
  · rw [if_neg h, List.filter_cons_of_neg (by simpa using h)]; rfl
theorem expr_Uses_st {w : World} (E : Env w) {x : Ex} {a : Option Addr} {cap : Nat} (hx : XC w x (exHead x a cap)) : Calls Tryz.prog f.expr_Uses #[.agg ⟨exHead x a cap⟩] w (Ret fun v w' => ∃ (a : Option Addr) (c : Nat) (t : List ByteArray), v = .slice a t.length c ∧ IsRise (usesL x) (t.map bl) ∧ t.length ≤ 1000000 ∧ ST w w' [strsI a c t]) := by
  apply R.expr_Uses_calls
  unfold R.expr_Uses
  refine (ST.start w).newB fun b7 w1 _ _ S1 => ⟨_, S1.cell 0 rfl rfl, _, S1.cell 0 rfl rfl, _, S1.cell 0 rfl rfl, _, S1.cell 0 rfl rfl, _, S1.cell 0 rfl rfl, _, _, _, S1.cell 0 rfl rfl, (expr_formed_ok (E.grown S1.bel) (hx.grown S1.bel)).mono ?_⟩
  rintro _ w2 ⟨_, rfl, rfl, B2⟩
  have S2 := S1.grown B2
  refine ⟨_, rfl, IFB_not (IFB_of (fun hf => ?_) (fun hf => ⟨none, 0, [], rfl, ?_, by simp, (S2.nil ty.string 1).one⟩))⟩
  rotate_left
  · unfold usesL
    rw [if_neg (by rw [hf]; decide)]
    exact ⟨.nil, fun _ => Iff.rfl⟩
  have hlen : (x.nodes 1).length ≤ 400 := ((formed_nodes x).1 hf).2
  refine S2.newB fun b16 w3 _ _ S3 => ⟨_, S3.cell 1 rfl rfl, _, S3.cell 1 rfl rfl, _, S3.cell 1 rfl rfl, _, S3.cell 1 rfl rfl, _, S3.cell 1 rfl rfl, _, _, _, S3.cell 1 rfl rfl, (expr_nodes_ok (x := x) (a := a) (cap := cap) 1).mono ?_⟩
  rintro _ w4 ⟨_, rfl, bd, bx, rfl, P4⟩
  have S4 := (S3.nil ty.string 1).join P4
  refine ⟨_, _, _, rfl, by kernel_rfl, fun rr hst hpe hy => ?_⟩
  have S6 := S4.range rr
  obtain ⟨L, hL⟩ : ∃ L, L = w4.heap.size + 1 := ⟨_, rfl⟩
  obtain ⟨m, hm⟩ : ∃ m, m = w4.heap.size := ⟨_, rfl⟩
  rw [← hL] at S6 hy ⊢
  rw [← hm] at S6 ⊢
  have S7 := (((S6.pull 6 rfl).pull 2 rfl).pull 4 rfl).pull 4 rfl
  refine (nodes_c1_ok x 1 (by omega) L (x.nodes 1) (fun done B => ∃ sa sc, B = [It.obj L (.loop rr), strsI sa sc (nmsOf done), It.cells b16 #[.slice sa (nmsOf done).length sc] ty.L_string]) (fun B => False) ?_ a cap (hx) [] []
    [It.obj m (.deferred (some [])), It.cells b7 ⟨exHead x a cap⟩ ty.api_Expr] _ _ bd bx (by simp) ⟨none, 0, rfl⟩ S7).mono ?_
  · rintro done ⟨yd, yx⟩ rest vs HN _ w6 htot ⟨sa, sc, rfl⟩ S ⟨cs2, rfl, hx2⟩
    change XC w yx cs2 at hx2
    obtain ⟨a4, cap4, _, rfl, _⟩ := ExC.open hx2
    have hdl : done.length ≤ 400 := by have := congrArg List.length htot; simp at this; omega
    have hnl := nmsOf_len done
    have S := ST.mid (B := []) [It.obj L (.loop rr), strsI sa sc (nmsOf done), It.cells b16 #[.slice sa (nmsOf done).length sc] ty.L_string] S
    refine hy _ _ _ _ _ _ _ _ _ _ w6 (S.get 0 rfl) ?_
    refine S.lit6 fun b33 w12 _ S => S.begr 1 rfl fun w13 S => ⟨_, S.cell 0 rfl rfl, IFB_eq (fun h1 => ⟨_, _, _, S.cell 3 rfl rfl, _, S.cell 0 rfl rfl, S.newB fun b37 w14 _ _ S => ?_⟩) (fun h1 => S.endr0 1 hst hpe rfl fun w' S => ?_)⟩
    · refine stAppS S 3 rfl (ys := [yx.nm]) (mm := 1) rfl (S.rdc 0 rfl) (by omega) fun a' c' w15 S => ⟨_, _, _, rfl, S.sto 4 rfl (cs' := #[.slice a' (nmsOf done ++ [yx.nm]).length c']) (by simp) rfl fun w16 S => S.endr0 2 hst hpe rfl fun w' S => ?_⟩
      refine ⟨_, ST.unmid (B := []) [It.obj L (.loop rr), strsI a' c' (nmsOf done ++ [yx.nm]), It.cells b16 #[.slice a' (nmsOf done ++ [yx.nm]).length c'] ty.L_string] (S.drop 2), .inl ⟨rfl, a', c', ?_⟩⟩
      rw [nmsOf_snoc, if_pos h1]
      rfl
    · refine ⟨_, ST.unmid (B := []) [It.obj L (.loop rr), strsI sa sc (nmsOf done), It.cells b16 #[.slice sa (nmsOf done).length sc] ty.L_string] (S.drop 1), .inl ⟨rfl, sa, sc, ?_⟩⟩
      have e : nmsOf (done ++ [(yd, yx)]) = nmsOf done := by rw [nmsOf_snoc, if_neg h1, List.append_nil]
      rw [e]
      rfl
  · rintro _ w17 ⟨_, rfl, B5, S26, ⟨sa, sc, rfl⟩ | h⟩
    rotate_left
    · exact h.elim
    refine ⟨⟨_, rfl⟩, ?_⟩
    rw [List.nil_append] at S26
    have hnl := nmsOf_len (x.nodes 1)
    have S27 := ST.mid (B := []) [It.obj L (.loop rr), strsI sa sc (nmsOf (x.nodes 1)), It.cells b16 #[.slice sa (nmsOf (x.nodes 1)).length sc] ty.L_string] S26
    refine S27.endl0 0 hst hpe rfl fun w18 S => ⟨rfl, _, _, _, S.cell 2 rfl rfl, (sortS_ok S 1 rfl (by omega)).mono ?_⟩
    rintro _ w19 ⟨_, rfl, rfl, ys, hyl, hys, S⟩
    refine ⟨rfl, _, _, _, S.cell 2 rfl rfl, ?_⟩
    rw [← hyl]
    refine (compactS_ok S 1 rfl (by omega)).mono ?_
    rintro _ w20 ⟨_, rfl, zs, rfl, hzl, hzs, S⟩
    refine ⟨_, _, _, rfl, S.get 3 rfl, sa, sc, zs, rfl, ?_, by omega, ((S.put 3 rfl (.deferred none)).pull 1 rfl).one⟩
    rw [hzs, hys]
    unfold usesL
    rw [if_pos hf]
    have e : nmsOf (x.nodes 1) = x.names := nodes_names x 1 (formed_okA hf)
    rw [e]
    exact rise_compact _
theorem expr_Uses_ok {w : World} (E : Env w) {x : Ex} {a : Option Addr} {cap : Nat} (hx : XC w x (exHead x a cap)) : Calls Tryz.prog f.expr_Uses #[.agg ⟨exHead x a cap⟩] w (Ret fun v w' => UsesV x w w' v) := by
  refine (expr_Uses_st E hx).mono ?_
  rintro _ w' ⟨v, rfl, a, c, t, rfl, h1, h2, S⟩
  exact ⟨_, rfl, a, c, t, rfl, h1, S.rd 0 rfl, h2, S.bel⟩
theorem bytesLt_bl (a b : ByteArray) : bytesLt a b = decide (bl a < bl b) := by
  unfold bytesLt
  rw [ByteArray.toList_eq, ByteArray.toList_eq, bytesLess_eq]
  rfl
section
variable {ls T : List (List UInt8)}
theorem rise_ins (h : IsRise ls T) {n : List UInt8} {i : Nat} (h1 : ∀ x ∈ T.take i, x < n) (h2 : ∀ x ∈ T.drop i, n < x) : IsRise (ls ++ [n]) (T.take i ++ [n] ++ T.drop i) where
  up := by
    have hu := h.up
    rw [← List.take_append_drop i T, List.pairwise_append] at hu
    refine List.pairwise_append.2 ⟨List.pairwise_append.2 ⟨hu.1, by simp, fun a ha b hb => ?_⟩, hu.2.1, fun a ha b hb => ?_⟩
    · rw [List.mem_singleton.1 hb]; exact h1 a ha
    · rcases List.mem_append.1 ha with ha | ha
      · exact hu.2.2 a ha b hb
      · rw [List.mem_singleton.1 ha]; exact h2 b hb
  mem := fun x => by
    have := h.mem x
    rw [← List.take_append_drop i T, List.mem_append] at this
    simp only [List.mem_append, List.mem_singleton]
    rw [← this]
    constructor
    · rintro ((h | h) | h)
      · exact .inl (.inl h)
      · exact .inr h
      · exact .inl (.inr h)
    · rintro ((h | h) | h)
      · exact .inl (.inl h)
      · exact .inr h
      · exact .inl (.inr h)
theorem rise_has (h : IsRise ls T) {n : List UInt8} (hn : n ∈ T) : IsRise (ls ++ [n]) T where
  up := h.up
  mem := fun x => by
    rw [h.mem, List.mem_append, List.mem_singleton]
    constructor
    · exact .inl
    · rintro (h' | rfl)
      · exact h'
      · exact (h.mem _).1 hn
end
theorem namesL_append (l m : List Ex) : Ex.namesL (l ++ m) = Ex.namesL l ++ Ex.namesL m := by
  induction l with
  | nil => rfl
  | cons x l ih => simp only [List.cons_append, Ex.namesL, ih, List.append_assoc]
theorem sizeL_take {l : List Ex} (i : Nat) : Ex.sizeL (l.take i) ≤ Ex.sizeL l := by
  have := sizeL_append (l.take i) (l.drop i)
  rw [List.take_append_drop] at this
  omega
theorem strs_at {w : World} {a : Option Addr} {l : List ByteArray} (h : Rd w a (l.map Value.string)) {i : Nat} (hi : i < l.length) : ∃ p, a = some p ∧ w.cell? (p.add i) = some (.string l[i]) := by
  obtain ⟨p, hp, hc⟩ := h i (.string l[i]) (by simp [hi])
  exact ⟨p, hp, hc⟩
theorem ref10_names_ok : ∀ (x : Ex) (d : Nat) (w : World) (a : Option Addr) (cap : Nat) (oa : Option Addr) (oc : Nat) (t : List ByteArray) (ls : List (List UInt8)), x.okA d = true → XC w x (exHead x a cap) → Rd w oa (t.map Value.string) → t.length ≤ oc → IsRise ls (t.map bl) → t.length + x.size ≤ 900000 →
    Calls Tryz.prog f.ref10_names #[.slice oa t.length oc, .agg ⟨exHead x a cap⟩] w (Ret fun v w' => ∃ (a' : Option Addr) (c' : Nat) (t' : List ByteArray), v = .slice a' t'.length c' ∧ Rd w' a' (t'.map Value.string) ∧ t'.length ≤ c' ∧ IsRise (ls ++ x.names.map bl) (t'.map bl) ∧ t'.length ≤ t.length + x.size ∧ Below w.heap.size w w') := by
  intro x
  induction x using Ex.ind with
  | h op nm v ks ih =>
    intro d w a cap oa oc t ls hok hx ho hoc hr hsz
    obtain ⟨rs, hrd, hkids, hbig⟩ := exHead_inj hx
    change ExL _ _ ks rs at hkids
    change ks.length ≤ _ at hbig
    have hs1 : (Ex.mk op nm v ks).size = Ex.sizeL ks + 1 := by simp [Ex.size]
    cases d with
    | zero => simp [Ex.okA] at hok
    | succ d =>
    obtain ⟨hoN, hkd⟩ := formed_kid hok
    apply R.ref10_names_calls
    unfold R.ref10_names
    refine (ST.start w).newB fun b8 w1 _ _ S1 => ?_
    refine ⟨fun st w13 => ∃ (a2 : Option Addr) (c2 : Nat) (t2 : List ByteArray), st = [.slice a2 t2.length c2] ∧ Rd w13 a2 (t2.map Value.string) ∧ t2.length ≤ c2 ∧ IsRise (ls ++ (if op = 1 then [nm] else []).map bl) (t2.map bl) ∧ t2.length ≤ t.length + 1 ∧ ST w w13 [exI b8 (exHead (.mk op nm v ks) a cap)], ?_, ?_⟩
    · refine ⟨_, S1.cell 0 rfl rfl, IFB_eq (fun h1 => ?_) (fun h1 => ⟨oa, oc, t, rfl, ho.grown S1.bel, hoc, by change ¬ op = 1 at h1; rw [if_neg h1]; simpa using hr, by omega, S1⟩)⟩
      change op = 1 at h1
      rw [if_pos h1]
      refine ⟨fun st w4 => ∃ i : Nat, st = [.int .i64 (i : Int)] ∧ i ≤ t.length ∧ (∀ s ∈ t.take i, bl s < bl nm) ∧ (∀ h : i < t.length, ¬ bl t[i] < bl nm) ∧ ST w w4 [exI b8 (exHead (.mk op nm v ks) a cap)], ?_, ?_⟩
      · refine ⟨fun st w2 => ∃ i : Nat, st = [.int .i64 (i : Int)] ∧ i ≤ t.length ∧ (∀ s ∈ t.take i, bl s < bl nm) ∧ ST w w2 [exI b8 (exHead (.mk op nm v ks) a cap)], fun st _ => match st with | [.int _ q] => t.length - q.toNat | _ => 0, ⟨0, rfl, by omega, by simp, S1⟩, ?_⟩
        rintro q w2 ⟨i, hst, hi, hall, S2⟩
        cases hst
        refine S2.draw fun w3 _ S3 => IFB_dec (fun hlt => ⟨⟨by omega, hlt⟩, ?_⟩) (fun hge => ⟨i, rfl, hi, hall, fun h => by omega, S3⟩)
        have hil : i < t.length := by omega
        obtain ⟨p, rfl, hc⟩ := strs_at (ho.grown S3.bel) hil
        refine ⟨_, by rw [Int.toNat_natCast, Nat.mul_one]; exact hc, _, S3.cell 0 rfl rfl, ?_⟩
        rw [bytesLt_bl]
        refine IFB_dec (fun h => ?_) (fun h => ⟨i, rfl, hi, hall, fun _ => h, S3⟩)
        rw [wrap_succ (by omega)]
        refine ⟨⟨i + 1, rfl, by omega, fun s hs => ?_, S3⟩, ?_⟩
        · rw [List.take_succ_eq_append_getElem hil] at hs
          rcases List.mem_append.1 hs with hs | hs
          · exact hall s hs
          · rw [List.mem_singleton.1 hs]; exact h
        · show t.length - ((i + 1 : Nat) : Int).toNat < t.length - ((i : Nat) : Int).toNat
          simp only [Int.toNat_natCast]
          omega
      rintro q w4 ⟨i, hst, hi, hall, hnl, S4⟩
      cases hst
      refine ⟨fun st w6 => st = [.bool (decide (∀ h : i < t.length, t[i] ≠ nm))] ∧ ST w w6 [exI b8 (exHead (.mk op nm v ks) a cap)], ?_, ?_⟩
      · refine S4.draw fun w5 _ S5 => IFB_eq (fun he => ⟨?_, S5⟩) (fun hne => ⟨⟨by omega, by omega⟩, ?_⟩)
        · rw [decide_eq_true (fun h => by omega)]
        · have hil : i < t.length := by omega
          obtain ⟨p, rfl, hc⟩ := strs_at (ho.grown S5.bel) hil
          refine ⟨_, by rw [Int.toNat_natCast, Nat.mul_one]; exact hc, _, S5.cell 0 rfl rfl, ?_, S5⟩
          rw [bytesEq_iff]
          congr 2
          rw [Bool.eq_iff_iff]
          simp only [Bool.not_eq_true', decide_eq_false_iff_not, decide_eq_true_eq]
          exact ⟨fun h _ => h, fun h => h hil⟩
      rintro q w6 ⟨hq, S6⟩
      obtain rfl : q = decide (∀ h : i < t.length, t[i] ≠ nm) := by simpa using hq
      refine IFB_dec (fun hne => ?_) (fun hhas => ?_)
      · have hins : IsRise (ls ++ [nm].map bl) ((t.take i ++ [nm] ++ t.drop i).map bl) := by
          have := rise_ins hr (n := bl nm) (i := i) (fun y hy => by
            rw [← List.map_take] at hy
            obtain ⟨s, hs, rfl⟩ := List.mem_map.1 hy
            exact hall s hs) (fun y hy => by
            have hlt : i < t.length := by
              apply Classical.byContradiction
              intro h
              rw [List.drop_eq_nil_of_le (by simp; omega)] at hy
              cases hy
            have hi1 : bl nm < bl t[i] := by
              rcases Decidable.em (bl nm < bl t[i]) with h | h
              · exact h
              · exact absurd (bl_inj (List.le_antisymm (List.not_lt.1 h) (List.not_lt.1 (hnl hlt)))) (hne hlt)
            have hup := hr.up
            rw [← List.take_append_drop i (t.map bl), List.pairwise_append] at hup
            have hd : (t.map bl).drop i = bl t[i] :: (t.map bl).drop (i + 1) := by
              rw [List.drop_eq_getElem_cons (by simpa using hlt)]
              simp
            rw [hd] at hy hup
            rcases List.mem_cons.1 hy with rfl | hy
            · exact hi1
            · exact List.lt_trans hi1 ((List.pairwise_cons.1 hup.2.1).1 y hy))
          simpa [List.map_take, List.map_drop] using this
        refine S6.draw fun w7 _ S7 => ⟨⟨by omega, by omega, by omega⟩, ?_⟩
        rw [show ((t.length : Int) + 1) = ((t.length + 1 : Nat) : Int) by omega, wrap_i64 (by omega) (by omega)]
        refine make_row0 tStrs (by omega) (by omega) fun bm w8 hbm B8 hrow => ⟨_, _, _, rfl, ?_⟩
        have S8 := S7.add B8 (strsI (some ⟨bm, 0, none⟩) (t.length + 1) []) hrow (fun k hk => by cases hk; exact hbm)
        have ho8 := ho.grown S8.bel
        have h1r := ho8.sla 0 i oc 1 (by omega)
        rw [Nat.zero_mul, List.drop_zero, Nat.mul_one, Nat.sub_zero, ← List.map_take] at h1r
        have ei : ((i : Nat) : Int).toNat - 0 = i := by simp
        rw [ei]
        refine stAppS S8 0 rfl (ys := t.take i) (mm := i) (by simp; omega) h1r (by simp; omega) fun a9 c9 w9 S9 => ⟨_, _, _, rfl, _, S9.cell 1 rfl rfl, S9.newB fun b27 w10 _ _ S10 => ?_⟩
        refine stAppS S10 1 rfl (ys := [nm]) (mm := 1) rfl (S10.rdc 0 rfl) (by simp; omega) fun a11 c11 w11 S11 => ⟨_, _, _, rfl, ⟨by omega, by omega, by omega⟩, ?_⟩
        have ho11 := ho.grown S11.bel
        have h2r := ho11.sla i t.length oc 1 (by omega)
        rw [Nat.mul_one, Nat.mul_one, ← List.map_drop, ← List.map_take] at h2r
        have et : (t.drop i).take (t.length - i) = t.drop i := by rw [List.take_of_length_le (by simp)]
        rw [et] at h2r
        have ei2 : ((i : Nat) : Int).toNat = i := by simp
        rw [ei2]
        refine stAppS S11 1 rfl (ys := t.drop i) (mm := t.length - i) (by simp) h2r (by simp; omega) fun a12 c12 w12 S12 => ⟨_, _, _, rfl, a12, c12, _, rfl, S12.rd 1 rfl, ?_, by simpa [List.append_assoc] using hins, ?_, S12.drop 2⟩
        · have := S12.rw 1 rfl
          rcases this.2 with ⟨_, h, h'⟩ | ⟨_, _, _, _, h, _⟩
          · omega
          · exact h
        · simp; omega
      · have hlt : ∃ h : i < t.length, t[i] = nm := by
          apply Classical.byContradiction
          intro hn
          exact hhas fun h he => hn ⟨h, he⟩
        obtain ⟨hlt, he⟩ := hlt
        refine ⟨oa, oc, t, rfl, ho.grown S6.bel, hoc, rise_has hr (List.mem_map.2 ⟨t[i], List.getElem_mem _, by rw [he]⟩), by omega, S6⟩
    rintro a2 l2 c2 w13 ⟨a2', c2', t2, hst, hrd2, hlc2, hrise2, hl2, S13⟩
    cases hst
    refine ⟨fun st w14 => ∃ (i : Nat) (a3 : Option Addr) (c3 : Nat) (t3 : List ByteArray), st = [.slice a3 t3.length c3, .int .i64 (i : Int)] ∧ i ≤ ks.length ∧ Rd w14 a3 (t3.map Value.string) ∧ t3.length ≤ c3 ∧ IsRise (ls ++ ((if op = 1 then [nm] else []) ++ Ex.namesL (ks.take i)).map bl) (t3.map bl) ∧ t3.length ≤ t.length + 1 + Ex.sizeL (ks.take i) ∧ ST w w14 [exI b8 (exHead (.mk op nm v ks) a cap)],
      fun st _ => match st with | [_, .int _ q] => ks.length - q.toNat | _ => 0, ⟨0, _, _, t2, rfl, by omega, hrd2, hlc2, by simpa [Ex.namesL] using hrise2, by simp [Ex.sizeL]; omega, S13⟩, ?_⟩
    rintro a3 l3 c3 q w14 ⟨i, a3', c3', t3, hst, hi, hrd3, hlc3, hrise3, hl3, S14⟩
    cases hst
    refine ⟨_, _, _, S14.cell 0 rfl rfl, IFB_dec (fun hlt => ⟨_, _, _, S14.cell 0 rfl rfl, ⟨by omega, hlt⟩, ?_⟩) (fun hge => ?_)⟩
    · have hil : i < ks.length := by change (i : Int) < (ks.length : Int) at hlt; omega
      obtain ⟨p, a5, cap5, rfl, hxk, c0, c1', c2', c3', c4, c5⟩ := ex_at (hrd.grown S14.bel) hkids hil
      refine ⟨_, by rw [Int.toNat_natCast]; exact c0, _, by rw [Int.toNat_natCast]; exact c1', _, by rw [Int.toNat_natCast]; exact c2', _, by rw [Int.toNat_natCast]; exact c3', _, by rw [Int.toNat_natCast]; exact c4, _, _, _, by rw [Int.toNat_natCast]; exact c5, ?_⟩
      have hsn : Ex.sizeL (ks.take (i + 1)) = Ex.sizeL (ks.take i) + ks[i].size := by rw [List.take_succ_eq_append_getElem hil, sizeL_append]; simp [Ex.sizeL]
      have hle := sizeL_take (l := ks) (i + 1)
      refine (ih ks[i] (List.getElem_mem hil) d w14 a5 cap5 a3 c3 t3 _ (hkd _ (List.getElem_mem hil)) (hxk.grown S14.bel) hrd3 hlc3 hrise3 (by omega)).mono ?_
      rintro _ w15 ⟨_, rfl, a6, c6, t6, rfl, hrd6, hlc6, hrise6, hl6, B15⟩
      refine ⟨_, _, _, rfl, ⟨i + 1, a6, c6, t6, by rw [wrap_succ (by omega)], by omega, hrd6, hlc6, ?_, by omega, S14.grown B15⟩, ?_⟩
      · rw [List.take_succ_eq_append_getElem hil, namesL_append]
        simpa [Ex.namesL, List.append_assoc] using hrise6
      · show ks.length - (IntKind.i64.wrap ((i : Int) + 1)).toNat < ks.length - ((i : Nat) : Int).toNat
        rw [wrap_succ (by omega)]
        simp only [Int.toNat_natCast]
        omega
    · obtain rfl : i = ks.length := by change ¬ (i : Int) < (ks.length : Int) at hge; omega
      rw [List.take_length] at hrise3 hl3
      exact ⟨a3, c3, t3, rfl, hrd3, hlc3, by simpa [Ex.names] using hrise3, by omega, S14.bel⟩
theorem ref10_Uses_ok {w : World} {x : Ex} {a : Option Addr} {cap : Nat} (hx : XC w x (exHead x a cap)) : Calls Tryz.prog f.ref10_Uses #[.agg ⟨exHead x a cap⟩] w (Ret fun v w' => UsesV x w w' v) := by
  apply R.ref10_Uses_calls
  unfold R.ref10_Uses
  refine (ST.start w).newB fun b7 w1 _ _ S1 => ⟨_, S1.cell 0 rfl rfl, _, S1.cell 0 rfl rfl, _, S1.cell 0 rfl rfl, _, S1.cell 0 rfl rfl, _, S1.cell 0 rfl rfl, _, _, _, S1.cell 0 rfl rfl, (ref10_Formed_ok (hx.grown S1.bel)).mono ?_⟩
  rintro _ w2 ⟨_, rfl, rfl, B2⟩
  have S2 := S1.grown B2
  refine ⟨_, rfl, IFB_not (IFB_of (fun hf => ?_) (fun hf => ⟨none, 0, [], rfl, ?_, Rd.nil _ _, by simp, S2.bel⟩))⟩
  · have hs : x.size ≤ 400 := by simp only [Ex.formed, Bool.and_eq_true, decide_eq_true_eq] at hf; exact hf.2
    refine ⟨_, S2.cell 0 rfl rfl, _, S2.cell 0 rfl rfl, _, S2.cell 0 rfl rfl, _, S2.cell 0 rfl rfl, _, S2.cell 0 rfl rfl, _, _, _, S2.cell 0 rfl rfl, (ref10_names_ok x 40 w2 a cap none 0 [] [] (formed_okA hf) (hx.grown S2.bel) (Rd.nil _ _) (by simp) ⟨.nil, fun _ => Iff.rfl⟩ (by simp; omega)).mono ?_⟩
    rintro _ w3 ⟨_, rfl, a6, c6, t6, rfl, hrd6, hlc6, hrise6, hl6, B15⟩
    refine ⟨_, _, _, rfl, a6, c6, t6, rfl, ?_, hrd6, by simp at hl6; omega, (S2.grown B15).bel⟩
    unfold usesL
    rw [if_pos hf]
    simpa using hrise6
  · unfold usesL
    rw [if_neg (by rw [hf]; decide)]
    exact ⟨.nil, fun _ => Iff.rfl⟩
theorem LOADC_strs : ∀ (us : List ByteArray) {n : Nat} {a : Addr} {i : Nat} {k : List Value → Prop} {w : World}, us.length = n → (∀ j u, us[j]? = some u → w.cell? (a.add (i + j)) = some (.string u)) →
    k (us.map Value.string) → LOADC (List.replicate n (.string ⟨#[]⟩)) a i k w
  | [], n, a, i, k, w, hn, hc, h => by subst hn; exact h
  | u :: us, n, a, i, k, w, hn, hc, h => by
    subst hn
    exact ⟨u, hc 0 u rfl, LOADC_strs us rfl (fun j x hj => by have := hc (j + 1) x (by simpa using hj); rwa [show i + (j + 1) = i + 1 + j by omega] at this) h⟩
theorem keyCells_eq : keyCells = keyWords.map Value.string := rfl
theorem keyWords_len : keyWords.length = 20 := rfl
theorem isKey_hit {s : ByteArray} {i : Nat} (hi : i < 20) (h : keyWords[i]'(by rw [keyWords_len]; exact hi) = s) : isKeyB s = true := List.any_eq_true.2 ⟨_, List.getElem_mem (by rw [keyWords_len]; exact hi), by simpa using h⟩
theorem isKey_miss {s : ByteArray} (h : ∀ k ∈ keyWords, k ≠ s) : isKeyB s = false := by
  unfold isKeyB
  rw [List.any_eq_false]
  intro k hk
  simpa using h k hk
theorem keyStep {s : ByteArray} {i : Nat} (hi : i < 20) (h : ∀ k ∈ keyWords.take i, k ≠ s) (h2 : keyWords[i]'(by rw [keyWords_len]; exact hi) ≠ s) : ∀ k ∈ keyWords.take (i + 1), k ≠ s := by
  intro k hk
  rw [List.take_succ_eq_append_getElem (by rw [keyWords_len]; exact hi)] at hk
  rcases List.mem_append.1 hk with hk | hk
  · exact h k hk
  · rw [List.mem_singleton.1 hk]; exact h2
section
variable {w : World} (s : ByteArray)
theorem query_isKey_ok (E : Env w) : Calls Tryz.prog f.query_isKey #[.string s] w (Ret fun r w' => r = .bool (isKeyB s) ∧ w' = w) := by
  apply R.query_isKey_calls
  unfold R.query_isKey
  refine LOADC_strs keyWords rfl (fun j u hj => ?_) ?_
  · obtain ⟨p, hp, hc⟩ := E.key j (.string u) (by rw [keyCells_eq, List.getElem?_map, hj]; rfl)
    cases hp
    rw [Nat.zero_add]
    exact hc
  refine ⟨fun st w1 => ∃ i : Nat, st = [.int .i64 (i : Int)] ∧ i ≤ 20 ∧ (∀ k ∈ keyWords.take i, k ≠ s) ∧ w1 = w, fun st _ => match st with | [.int _ q] => 20 - q.toNat | _ => 0, ⟨0, rfl, by omega, by simp, rfl⟩, ?_⟩
  rintro q w1 ⟨i, hst, hi, hall, rfl⟩
  cases hst
  refine IFB_dec (fun hlt => ⟨⟨by omega, hlt⟩, ?_⟩) (fun hge => ?_)
  · have hi2 : i < 20 := by omega
    have hl : i < keyWords.length := by rw [keyWords_len]; exact hi2
    refine ⟨keyWords[i], by rw [Int.toNat_natCast, Nat.mul_one]; simp [hl], ?_⟩
    rw [bytesEq_iff]
    refine IFB_dec (fun h => ⟨by rw [isKey_hit hi2 h], rfl⟩) (fun h => ?_)
    rw [wrap_succ (by omega)]
    refine ⟨⟨i + 1, rfl, by omega, keyStep hi2 hall h, rfl⟩, ?_⟩
    show 20 - ((i + 1 : Nat) : Int).toNat < 20 - ((i : Nat) : Int).toNat
    simp only [Int.toNat_natCast]
    omega
  · rw [List.take_of_length_le (by rw [keyWords_len]; omega)] at hall
    exact ⟨by rw [isKey_miss hall], rfl⟩
theorem ref11_IsKey_ok : Calls Tryz.prog f.ref11_IsKey #[.string s] w (Ret fun r w' => r = .bool (isKeyB s) ∧ Below w.heap.size w w') := by
  apply R.ref11_IsKey_calls
  unfold R.ref11_IsKey
  refine (ST.start w).newB fun b2 w1 _ _ S1 => ⟨fun st w2 => ∃ i : Nat, st = [.int .i64 (i : Int)] ∧ i ≤ 20 ∧ (∀ k ∈ keyWords.take i, k ≠ s) ∧ w2 = w1, fun st _ => match st with | [.int _ q] => 20 - q.toNat | _ => 0, ⟨0, rfl, by omega, by simp, rfl⟩, ?_⟩
  rintro q w2 ⟨i, hst, hi, hall, rfl⟩
  cases hst
  refine IFB_dec (fun hlt => ⟨⟨by omega, hlt⟩, ?_⟩) (fun hge => ?_)
  · have hi2 : i < 20 := by omega
    have hl : i < keyWords.length := by rw [keyWords_len]; exact hi2
    refine ⟨keyWords[i], ?_, ?_⟩
    · rw [addr_add_blk, Int.toNat_natCast, Nat.mul_one, Nat.zero_add]
      refine S1.cell 0 rfl ?_
      show ((keyWords.map Value.string).toArray)[i]? = _
      simp [hl]
    rw [bytesEq_iff]
    refine IFB_dec (fun h => ⟨by rw [isKey_hit hi2 h], S1.bel⟩) (fun h => ?_)
    rw [wrap_succ (by omega)]
    refine ⟨⟨i + 1, rfl, by omega, keyStep hi2 hall h, rfl⟩, ?_⟩
    show 20 - ((i + 1 : Nat) : Int).toNat < 20 - ((i : Nat) : Int).toNat
    simp only [Int.toNat_natCast]
    omega
  · rw [List.take_of_length_le (by rw [keyWords_len]; omega)] at hall
    exact ⟨by rw [isKey_miss hall], S1.bel⟩
theorem query_isName_ok (E : Env w) (hs : s.size ≤ 9223372036854775807) : Calls Tryz.prog f.query_isName #[.string s] w (Ret fun r w' => r = .bool (okName s) ∧ Below w.heap.size w w') := by
  apply R.query_isName_calls
  unfold R.query_isName
  refine (schema_IsName_ok s hs w).mono ?_
  rintro _ w1 ⟨_, rfl, rfl, B1⟩
  refine ⟨_, rfl, IFB_of (fun h => (query_isKey_ok s (E.grown B1)).mono ?_) (fun h => ⟨by simp [okName, h], B1⟩)⟩
  rintro _ w2 ⟨_, rfl, rfl, rfl⟩
  exact ⟨_, rfl, by simp [okName, h], B1⟩
theorem ref11_isName_ok (hs : s.size ≤ 9223372036854775807) : Calls Tryz.prog f.ref11_isName #[.string s] w (Ret fun r w' => r = .bool (okName s) ∧ Below w.heap.size w w') := by
  apply R.ref11_isName_calls
  unfold R.ref11_isName
  refine (ref05_IsName_ok s hs w).mono ?_
  rintro _ w1 ⟨_, rfl, rfl, rfl⟩
  refine ⟨_, rfl, (ref11_IsKey_ok s).mono ?_⟩
  rintro _ w2 ⟨_, rfl, rfl, B2⟩
  exact ⟨_, rfl, IFB_of (fun h => ⟨by simp [okName, h], B2⟩) (fun h => ⟨by simp [okName, h], B2⟩)⟩
end
/-! ### expressions -/
theorem names_fit : ∀ {x : Ex}, x.fit → ∀ s ∈ x.names, s.size ≤ 9223372036854775807 := by
  intro x
  induction x using Ex.ind with
  | h op nm v ks ih =>
    intro h s hs
    unfold Ex.fit at h
    simp only [Ex.names, List.mem_append] at hs
    rcases hs with hs | hs
    · split at hs
      · rw [List.mem_singleton.1 hs]; exact Nat.le_trans h.1.2.2.2.1 (by decide)
      · cases hs
    · have : ∀ (l : List Ex), (∀ k ∈ l, k ∈ ks) → s ∈ Ex.namesL l → ∃ k ∈ l, s ∈ k.names := by
        intro l
        induction l with
        | nil => intro _ h; simp [Ex.namesL] at h
        | cons k l ihl =>
          intro hl h
          simp only [Ex.namesL, List.mem_append] at h
          rcases h with h | h
          · exact ⟨k, by simp, h⟩
          · obtain ⟨k', h1, h2⟩ := ihl (fun y hy => hl y (by simp [hy])) h
            exact ⟨k', by simp [h1], h2⟩
      obtain ⟨k, hk, hsk⟩ := this ks (fun _ h => h) hs
      exact ih k hk (fitL_iff.1 h.2 k hk) s hsk
theorem rise_mem {x : Ex} (hf : x.formed = true) {t : List ByteArray} (h : IsRise (usesL x) (t.map bl)) (s : ByteArray) : s ∈ t ↔ s ∈ x.names := by
  have := h.mem (bl s)
  unfold usesL at this
  rw [if_pos hf] at this
  constructor
  · intro hs
    obtain ⟨s', h1, h2⟩ := List.mem_map.1 (this.1 (List.mem_map.2 ⟨s, hs, rfl⟩))
    rw [← bl_inj h2]
    exact h1
  · intro hs
    obtain ⟨s', h1, h2⟩ := List.mem_map.1 (this.2 (List.mem_map.2 ⟨s, hs, rfl⟩))
    rw [← bl_inj h2]
    exact h1
theorem rise_all {x : Ex} (hf : x.formed = true) {t : List ByteArray} (h : IsRise (usesL x) (t.map bl)) (p : ByteArray → Bool) : t.all p = x.names.all p := by
  rw [Bool.eq_iff_iff, List.all_eq_true, List.all_eq_true]
  exact ⟨fun h1 s hs => h1 s ((rise_mem hf h s).2 hs), fun h1 s hs => h1 s ((rise_mem hf h s).1 hs)⟩
theorem rowsC_strs : ∀ t : List ByteArray, RowsC (fun x c => c = [Value.string x]) t (t.map Value.string)
  | [] => rfl
  | x :: t => ⟨[.string x], t.map Value.string, rfl, rfl, rowsC_strs t⟩
theorem same_refl (x : Ex) : x.same x = true := (same_iff x x).2 rfl
section
variable {w : World} {x : Ex} {a : Option Addr} {cap : Nat}
theorem query_right_ok (E : Env w) (hx : XC w x (exHead x a cap)) : Calls Tryz.prog f.query_right #[.agg ⟨exHead x a cap⟩] w (Ret fun r w' => r = .bool (rightX x) ∧ Below w.heap.size w w') := by
  apply R.query_right_calls
  unfold R.query_right
  refine (ST.start w).newB fun b7 w1 _ _ S1 => ⟨_, S1.cell 0 rfl rfl, _, S1.cell 0 rfl rfl, _, S1.cell 0 rfl rfl, _, S1.cell 0 rfl rfl, _, S1.cell 0 rfl rfl, _, _, _, S1.cell 0 rfl rfl, _, S1.cell 0 rfl rfl, _, S1.cell 0 rfl rfl, _, S1.cell 0 rfl rfl, _, S1.cell 0 rfl rfl, _, S1.cell 0 rfl rfl, _, _, _, S1.cell 0 rfl rfl, (expr_Same_ok (E.grown S1.bel) (hx.grown S1.bel) (hx.grown S1.bel)).mono ?_⟩
  rintro _ w2 ⟨_, rfl, rfl, B2⟩
  have S2 := S1.grown B2
  have hs : sameF x x = x.formed := by unfold sameF; rw [same_refl, Bool.and_true, Bool.and_self]
  rw [hs]
  refine ⟨_, rfl, IFB_of (fun hf => ⟨_, S2.cell 0 rfl rfl, _, S2.cell 0 rfl rfl, _, S2.cell 0 rfl rfl, _, S2.cell 0 rfl rfl, _, S2.cell 0 rfl rfl, _, _, _, S2.cell 0 rfl rfl, (expr_Uses_ok (E.grown S2.bel) (hx.grown S2.bel)).mono ?_⟩) (fun hf => ⟨by simp [rightX, hf], S2.bel⟩)⟩
  rintro _ w3 ⟨_, rfl, a3, c3, t, rfl, hrise, hrd, hlen, B3⟩
  have S3 := S2.grown B3
  refine ⟨_, _, _, rfl, (any_string_ok hrd (rowsC_strs t) (by omega) (by kernel_rfl) (fun s => !okName s) ?_).mono ?_⟩
  · rintro w4 s _ B4 hs rfl
    show Calls Tryz.prog f.query_right_c1 #[.string s] w4 _
    apply R.query_right_c1_calls
    unfold R.query_right_c1
    refine (query_isName_ok s ((E.grown S3.bel).grown B4) (names_fit hx.fit s ((rise_mem hf hrise s).1 hs))).mono ?_
    rintro _ w5 ⟨_, rfl, rfl, B5⟩
    exact ⟨_, rfl, rfl, B5⟩
  · rintro _ w4 ⟨_, rfl, rfl, B4⟩
    refine ⟨_, rfl, ?_, (S3.grown B4).bel⟩
    congr 1
    unfold rightX
    rw [hf, Bool.true_and, ← rise_all hf hrise, List.all_eq_not_any_not]
theorem ref11_isExpr_ok (hx : XC w x (exHead x a cap)) : Calls Tryz.prog f.ref11_isExpr #[.agg ⟨exHead x a cap⟩] w (Ret fun r w' => r = .bool (rightX x) ∧ Below w.heap.size w w') := by
  apply R.ref11_isExpr_calls
  unfold R.ref11_isExpr
  refine (ST.start w).newB fun b7 w1 _ _ S1 => ⟨_, S1.cell 0 rfl rfl, _, S1.cell 0 rfl rfl, _, S1.cell 0 rfl rfl, _, S1.cell 0 rfl rfl, _, S1.cell 0 rfl rfl, _, _, _, S1.cell 0 rfl rfl, (ref10_Formed_ok (hx.grown S1.bel)).mono ?_⟩
  rintro _ w2 ⟨_, rfl, rfl, B2⟩
  have S2 := S1.grown B2
  refine ⟨_, rfl, IFB_not (IFB_of (fun hf => ⟨_, S2.cell 0 rfl rfl, _, S2.cell 0 rfl rfl, _, S2.cell 0 rfl rfl, _, S2.cell 0 rfl rfl, _, S2.cell 0 rfl rfl, _, _, _, S2.cell 0 rfl rfl, (ref10_Uses_ok (hx.grown S2.bel)).mono ?_⟩) (fun hf => ⟨by simp [rightX, hf], S2.bel⟩))⟩
  rintro _ w3 ⟨_, rfl, a3, c3, t, rfl, hrise, hrd, hlen, B3⟩
  have S3 := S2.grown B3
  refine ⟨_, _, _, rfl, fun st w4 => ∃ i : Nat, st = [.int .i64 (i : Int)] ∧ i ≤ t.length ∧ (∀ s ∈ t.take i, okName s = true) ∧ Below w3.heap.size w3 w4, fun st _ => match st with | [.int _ q] => t.length - q.toNat | _ => 0, ⟨0, rfl, by omega, by simp, .refl _ _⟩, ?_⟩
  rintro q w4 ⟨i, hst, hi, hall, B4⟩
  cases hst
  have hR : rightX x = t.all okName := by unfold rightX; rw [hf, Bool.true_and, ← rise_all hf hrise]
  refine IFB_dec (fun hlt => ⟨⟨by omega, hlt⟩, ?_⟩) (fun hge => ?_)
  · have hil : i < t.length := by omega
    obtain ⟨p, rfl, hc⟩ := strs_at (hrd.grown B4) hil
    refine ⟨_, by rw [Int.toNat_natCast, Nat.mul_one]; exact hc, (ref11_isName_ok t[i] (names_fit hx.fit _ ((rise_mem hf hrise _).1 (List.getElem_mem hil)))).mono ?_⟩
    rintro _ w5 ⟨_, rfl, rfl, B5⟩
    refine ⟨_, rfl, IFB_not (IFB_of (fun h => ?_) (fun h => ⟨?_, (S3.grown (below_trans B4 B5)).bel⟩))⟩
    · rw [wrap_succ (by omega)]
      refine ⟨⟨i + 1, rfl, by omega, fun s hs => ?_, below_trans B4 B5⟩, ?_⟩
      · rw [List.take_succ_eq_append_getElem hil] at hs
        rcases List.mem_append.1 hs with hs | hs
        · exact hall s hs
        · rw [List.mem_singleton.1 hs]; exact h
      · show t.length - ((i + 1 : Nat) : Int).toNat < t.length - ((i : Nat) : Int).toNat
        simp only [Int.toNat_natCast]
        omega
    · rw [hR]
      congr 1
      rw [eq_comm, List.all_eq_false]
      exact ⟨_, List.getElem_mem hil, by rw [h]; decide⟩
  · rw [List.take_of_length_le (by omega)] at hall
    refine ⟨?_, (S3.grown B4).bel⟩
    rw [hR, List.all_eq_true.2 hall]
theorem ref11_bare_ok (hx : XC w x (exHead x a cap)) : Calls Tryz.prog f.ref11_bare #[.agg ⟨exHead x a cap⟩] w (Ret fun r w' => r = .bool (bareX x) ∧ Below w.heap.size w w') := by
  apply R.ref11_bare_calls
  unfold R.ref11_bare
  simp only [bytesEq_iff]
  refine (ST.start w).newB fun b7 w1 _ _ S1 => ⟨_, S1.cell 0 rfl rfl, IFB_eq (fun h1 => ⟨_, S1.cell 0 rfl rfl, IFB_dec (fun h2 => ⟨_, S1.cell 0 rfl rfl, _, S1.cell 0 rfl rfl, _, S1.cell 0 rfl rfl, ?_⟩) (fun h2 => ⟨by simp [bareX, h2], S1.bel⟩)⟩) (fun h1 => ⟨by simp [bareX, h1], S1.bel⟩)⟩
  have e := valEq x.v V0
  simp only [V0] at e
  rw [e]
  refine IFB_dec (fun h3 => ⟨_, _, _, S1.cell 0 rfl rfl, ?_, S1.bel⟩) (fun h3 => ⟨by simp [bareX, h3], S1.bel⟩)
  congr 1
  rw [Bool.eq_iff_iff]
  simp [bareX, h1, h2, h3]
end
/-! ### items -/
section
variable {w : World} {a : Option Addr} {c : Nat} {rs : List Value} {l : List Itm}
theorem query_place_ok (hl : Rd w a rs) (hC : RowsC (ItC (fun _ => False) w) l rs) (hn : l.length ≤ 9223372036854775807) (s : ByteArray) : Calls Tryz.prog f.query_place #[.slice a l.length c, .string s] w (Ret fun r w' => r = .int .i64 (idxV (placeOf l s)) ∧ Below w.heap.size w w') := by
  apply R.query_place_calls
  unfold R.query_place
  refine (ST.start w).newB fun b3 w1 _ _ S1 => (idx_api_Item_ok (w0 := w) (hl.grown S1.bel) hC hn (by kernel_rfl) (fun x => decide (x.1 = s)) ?_).mono ?_
  · rintro w2 x cs B2 _ ⟨ce, rfl, hx, hy⟩
    obtain ⟨a9, cap9, _, rfl, _⟩ := ExC.open hx
    show Calls Tryz.prog f.query_place_c1 #[.agg #[.string x.1, .int .i64 x.2.1, .int .i64 x.2.2.op, .string x.2.2.nm, .int .i64 x.2.2.v.1, .int .i64 x.2.2.v.2.1, .string x.2.2.v.2.2, .slice a9 x.2.2.ks.length cap9], .pointer (some ⟨b3, 0, none⟩)] w2 _
    apply R.query_place_c1_calls
    unfold R.query_place_c1
    have S2 := S1.grown B2
    exact (ST.start w2).newB fun b5 w3 _ B3 S3 => ⟨_, S3.cell 0 rfl rfl, _, (S2.grown B3).cell 0 rfl rfl, by rw [bytesEq_iff], S3.bel⟩
  · rintro _ w2 ⟨_, rfl, rfl, B2⟩
    exact ⟨_, rfl, rfl, (S1.grown B2).bel⟩
theorem it_name (hl : Rd w a rs) {w0 : World} (hC : RowsC (ItC (fun _ => False) w0) l rs) {i : Nat} (hi : i < l.length) : ∃ p, a = some p ∧ w.cell? (p.add (i * 8)) = some (.string l[i].1) := by
  obtain ⟨q, cc, rfl, hc, cell⟩ := rows_at (n := 8) (fun x c h => ItC.len h) (by decide) hl hC hi
  obtain ⟨ce, rfl, hx, hy⟩ := hc
  exact ⟨q, rfl, cell 0 _ rfl⟩
theorem ref11_place_ok (hl : Rd w a rs) {w0 : World} (hC : RowsC (ItC (fun _ => False) w0) l rs) (hn : l.length ≤ 9223372036854775807) (s : ByteArray) : Calls Tryz.prog f.ref11_place #[.slice a l.length c, .string s] w (Ret fun r w' => r = .int .i64 (idxV (placeOf l s)) ∧ w' = w) := by
  apply R.ref11_place_calls
  unfold R.ref11_place
  refine ⟨fun st w1 => ∃ i : Nat, st = [.int .i64 (i : Int)] ∧ i ≤ l.length ∧ (∀ x ∈ l.take i, decide (x.1 = s) = false) ∧ w1 = w, fun st _ => match st with | [.int _ q] => l.length - q.toNat | _ => 0, ⟨0, rfl, by omega, by simp, rfl⟩, ?_⟩
  rintro q w1 ⟨i, hst, hi, hall, rfl⟩
  cases hst
  refine IFB_dec (fun hlt => ⟨⟨by omega, hlt⟩, ?_⟩) (fun hge => ?_)
  · have hil : i < l.length := by omega
    obtain ⟨p, rfl, hc⟩ := it_name hl hC hil
    refine ⟨_, by rw [Int.toNat_natCast]; exact hc, ?_⟩
    rw [bytesEq_iff]
    refine IFB_dec (fun h => ⟨?_, rfl⟩) (fun h => ?_)
    · have : placeOf l s = some i := findIdx_at hil hall (by simpa using h)
      rw [this]; rfl
    · rw [wrap_succ (by omega)]
      refine ⟨⟨i + 1, rfl, by omega, fun x hx => ?_, rfl⟩, ?_⟩
      · rw [List.take_succ_eq_append_getElem hil] at hx
        rcases List.mem_append.1 hx with hx | hx
        · exact hall x hx
        · rw [List.mem_singleton.1 hx]; simpa using h
      · show l.length - ((i + 1 : Nat) : Int).toNat < l.length - ((i : Nat) : Int).toNat
        simp only [Int.toNat_natCast]
        omega
  · rw [List.take_of_length_le (by omega)] at hall
    have : placeOf l s = none := findIdx_none hall
    exact ⟨by rw [this]; rfl, rfl⟩
def itHead (i : Itm) (a : Option Addr) (cap : Nat) : List Value := .string i.1 :: .int .i64 i.2.1 :: exHead i.2.2 a cap
theorem ref11_isItem_ok {i : Itm} {a : Option Addr} {cap : Nat} (hx : XC w i.2.2 (exHead i.2.2 a cap)) (hn : i.1.size ≤ maxLen) : Calls Tryz.prog f.ref11_isItem #[.agg ⟨itHead i a cap⟩] w (Ret fun r w' => r = .bool (rightI i) ∧ Below w.heap.size w w') := by
  apply R.ref11_isItem_calls
  unfold R.ref11_isItem
  refine (ST.start w).newB fun b9 w1 _ _ S1 => ⟨_, S1.cell 0 rfl rfl, (ref11_isName_ok i.1 (Nat.le_trans hn (by decide))).mono ?_⟩
  rintro _ w2 ⟨_, rfl, rfl, B2⟩
  have S2 := S1.grown B2
  refine ⟨_, rfl, _, S2.cell 0 rfl rfl, _, S2.cell 0 rfl rfl, _, S2.cell 0 rfl rfl, _, S2.cell 0 rfl rfl, _, S2.cell 0 rfl rfl, _, _, _, S2.cell 0 rfl rfl, (ref11_isExpr_ok (hx.grown S2.bel)).mono ?_⟩
  rintro _ w3 ⟨_, rfl, rfl, B3⟩
  have S3 := S2.grown B3
  refine ⟨_, rfl, _, S3.cell 0 rfl rfl, _, S3.cell 0 rfl rfl, _, S3.cell 0 rfl rfl, _, S3.cell 0 rfl rfl, _, S3.cell 0 rfl rfl, _, _, _, S3.cell 0 rfl rfl, (ref11_bare_ok (hx.grown S3.bel)).mono ?_⟩
  rintro _ w4 ⟨_, rfl, rfl, B4⟩
  have S4 := S3.grown B4
  refine ⟨_, rfl, _, S4.cell 0 rfl rfl, IFB_eq (fun h1 => IFB_of (fun h2 => ⟨?_, S4.bel⟩) (fun h2 => ⟨by simp [rightI, h2], S4.bel⟩)) (fun h1 => IFB_of (fun h2 => IFB_of (fun h3 => ⟨_, S4.cell 0 rfl rfl, IFB_dec (fun h4 => ⟨_, S4.cell 0 rfl rfl, ?_, S4.bel⟩) (fun h4 => ⟨?_, S4.bel⟩)⟩) (fun h3 => ⟨by simp [rightI, h1, h3], S4.bel⟩)) (fun h2 => ⟨by simp [rightI, h2], S4.bel⟩))⟩
  · have : (0 : Int) ≤ i.2.1 ∧ i.2.1 ≤ 5 := by omega
    simp [rightI, h2, h1]
  · congr 1
    rw [Bool.eq_iff_iff]
    simp only [rightI, h2, Bool.true_and, if_neg h1, h3, Bool.and_true, decide_eq_true_eq]
    omega
  · have : ¬ ((0 : Int) ≤ i.2.1 ∧ i.2.1 ≤ 5) := by omega
    simp [rightI, this]
end
end Go.Proofs.YtbpdfpfgijhokaaGreatDoor
namespace Go.Proofs.YtbpdfpfgijhokaaGreatDoor
set_option maxRecDepth 100000
open Go.Dn Go.Proofs
open Go.RowKit (Below)
set_option linter.unusedVariables false
/-! ### lists of expressions -/
def zEx : Value := .agg #[.int .i64 0, .string ⟨#[]⟩, .int .i64 0, .int .i64 0, .string ⟨#[]⟩, .slice none 0 0]
theorem tExs : slT Tryz.prog ty.L_api_Expr = some (ty.api_Expr, 6, 80, zEx) := by kernel_rfl
theorem zEx6 : zEx.cells.size = 6 := rfl
def exsI (a : Option Addr) (n c : Nat) (rs : List Value) : It := It.row ty.api_Expr 6 a n c rs
theorem exC_one {F : Nat → Prop} {w : World} {x : Ex} {cs : List Value} (h : ExC F w x cs) : ∀ u ∈ cs, u.oneCell' = true := by
  obtain ⟨a, cap, _, rfl, _⟩ := h.open
  intro u hu
  simp only [exHead, List.mem_cons, List.not_mem_nil, or_false] at hu
  rcases hu with rfl | rfl | rfl | rfl | rfl | rfl <;> rfl
theorem exL_one {F : Nat → Prop} {w : World} : ∀ {l : List Ex} {cs : List Value}, ExL F w l cs → ∀ u ∈ cs, u.oneCell' = true
  | [], cs, h => by unfold ExL at h; subst h; simp
  | x :: l, cs, h => by
    unfold ExL at h
    obtain ⟨c, r, rfl, h1, h2⟩ := h
    intro u hu
    rcases List.mem_append.1 hu with hu | hu
    · exact exC_one h1 u hu
    · exact exL_one h2 u hu
theorem concatGrow (w : World) (n : Nat) (hn : n ≤ 1000000) : Calls Tryz.prog f.slices_Grow_api_Expr_api_Expr #[.slice none 0 0, .int .i64 (n : Int)] w
    (Ret fun v w' => ∃ a c, v = .slice a 0 c ∧ Row w' ty.api_Expr 6 a 0 c [] ∧ (∀ k, rowB a = some k → w.heap.size ≤ k) ∧ Below w.heap.size w w') := by
  apply R.slices_Grow_api_Expr_api_Expr_calls
  unfold R.slices_Grow_api_Expr_api_Expr
  have e0 : IntKind.i64.wrap (((0 : Nat) : Int) - ((0 : Nat) : Int)) = 0 := by rw [wrap_i64 (by omega) (by omega)]; omega
  have e1 : IntKind.i64.wrap ((n : Int) - 0) = (n : Int) := by rw [wrap_i64 (by omega) (by omega)]; omega
  refine IFB_dec (fun h => by omega) (fun _ => ?_)
  rw [e0, e1]
  refine IFB_dec (fun hp => ⟨⟨by omega, by omega, by omega⟩, ?_⟩) (fun hp => ?_)
  · obtain ⟨c', w', hrun, hrow, hc, hb⟩ := append_zeros (u := ty.int) (ty := ty.L_api_Expr) tExs (show Tryz.prog.underlying ty.int = some (.int .i64) by kernel_rfl) zEx6 (by omega) (by omega) (w := w) (m := n) (by omega) (by omega)
    have hs : SLA none 0 0 6 = none := rfl
    unfold OPR
    rw [hs]
    simp only [Nat.sub_zero, hrun]
    refine ⟨_, _, _, rfl, ⟨by omega, by omega, by omega⟩, some ⟨w.heap.size, 0, none⟩, c', ?_, hrow, fun k hk => by simp [rowB] at hk; omega, hb⟩
    have : SLA (some (⟨w.heap.size, 0, none⟩ : Addr)) 0 c' 6 = some ⟨w.heap.size, 0, none⟩ := by
      unfold SLA
      split
      · rfl
      · simp [addr_add_zero]
    rw [this]
  · have : n = 0 := by omega
    subst this
    exact ⟨none, 0, rfl, Row.nil _ _ _, by simp [rowB], .refl _ _⟩
theorem concatEx_ok {w : World} {b : Nat} {a1 a2 : Option Addr} {n1 n2 c1 c2 : Nat} {r1 r2 : List Value} {t : TypeId} (hb : w.heap[b]? = some (.cells #[.slice a1 n1 c1, .slice a2 n2 c2] t (0, 0))) (h1 : Rd w a1 r1) (h2 : Rd w a2 r2) (l1 : r1.length = n1 * 6) (l2 : r2.length = n2 * 6)
    (o1 : ∀ u ∈ r1, u.oneCell' = true) (o2 : ∀ u ∈ r2, u.oneCell' = true) (hn : n1 + n2 ≤ 1000) :
    Calls Tryz.prog f.slices_Concat_api_Expr_api_Expr #[.slice (some ⟨b, 0, none⟩) 2 2] w (Ret fun v w' => ∃ a c, v = .slice a (n1 + n2) c ∧ Rd w' a (r1 ++ r2) ∧ Below w.heap.size w w') := by
  apply R.slices_Concat_api_Expr_api_Expr_calls
  unfold R.slices_Concat_api_Expr_api_Expr
  have cell : ∀ {w' : World}, Below w.heap.size w w' → ∀ (i : Nat) (v : Value), (#[Value.slice a1 n1 c1, .slice a2 n2 c2] : Array Value)[i]? = some v → w'.cell? ((⟨b, 0, none⟩ : Addr).add (((i : Nat) : Int).toNat * 1)) = some v := by
    intro w' B i v hv
    rw [addr_one]
    have : w.cell? ⟨b, i, none⟩ = some v := by simp only [World.cell?, hb]; simpa using hv
    exact (Keeps.of_below (F := fun _ => False) B).cell this (by simp)
  refine ⟨fun s w1 => w1 = w ∧ (s = [.int .i64 0, .int .i64 ((0 : Nat) : Int)] ∨ s = [.int .i64 (n1 : Int), .int .i64 ((1 : Nat) : Int)] ∨ s = [.int .i64 ((n1 + n2 : Nat) : Int), .int .i64 ((2 : Nat) : Int)]), fun s _ => match s with
      | [_, .int _ i] => 2 - i.toNat
      | _ => 0, ⟨rfl, .inl rfl⟩, ?_⟩
  rintro _ _ w1 ⟨rfl, hs | hs | hs⟩
  · cases hs
    refine IFB_dec (fun hlt => ⟨⟨by omega, hlt⟩, _, _, _, cell (.refl _ _) 0 _ rfl, ?_⟩) (fun hge => absurd (show ((0 : Nat) : Int) < ((2 : Nat) : Int) by decide) hge)
    have e : IntKind.i64.wrap ((0 : Int) + (n1 : Int)) = (n1 : Int) := by rw [wrap_i64 (by omega) (by omega)]; omega
    rw [e]
    exact IFB_dec (fun h => by omega) (fun _ => ⟨⟨rfl, .inr (.inl rfl)⟩, show 1 < 2 by decide⟩)
  · cases hs
    refine IFB_dec (fun hlt => ⟨⟨by omega, hlt⟩, _, _, _, cell (.refl _ _) 1 _ rfl, ?_⟩) (fun hge => absurd (show ((1 : Nat) : Int) < ((2 : Nat) : Int) by decide) hge)
    have e : IntKind.i64.wrap ((n1 : Int) + (n2 : Int)) = ((n1 + n2 : Nat) : Int) := by rw [wrap_i64 (by omega) (by omega)]; omega
    rw [e]
    exact IFB_dec (fun h => by omega) (fun _ => ⟨⟨rfl, .inr (.inr rfl)⟩, show 0 < 1 by decide⟩)
  · cases hs
    refine IFB_dec (fun hlt => absurd hlt (by decide)) (fun hge => (concatGrow w1 (n1 + n2) (by omega)).mono ?_)
    rintro _ w2 ⟨_, rfl, a3, c3, rfl, R3, N3, B3⟩
    have S2 := (ST.start w1).add B3 (exsI a3 0 c3 []) R3 N3
    refine ⟨_, _, _, rfl, fun s w3 => ∃ (a4 : Option Addr) (c4 : Nat), (s = [.slice a4 0 c4, .int .i64 ((0 : Nat) : Int)] ∧ ST w1 w3 [exsI a4 0 c4 []]) ∨ (s = [.slice a4 n1 c4, .int .i64 ((1 : Nat) : Int)] ∧ ST w1 w3 [exsI a4 n1 c4 r1]) ∨ (s = [.slice a4 (n1 + n2) c4, .int .i64 ((2 : Nat) : Int)] ∧ ST w1 w3 [exsI a4 (n1 + n2) c4 (r1 ++ r2)]),
      fun s _ => match s with
        | [_, .int _ i] => 2 - i.toNat
        | _ => 0, ⟨a3, c3, .inl ⟨rfl, S2⟩⟩, ?_⟩
    rintro a4 q4 c4 _ w3 ⟨a5, c5, ⟨hs, S⟩ | ⟨hs, S⟩ | ⟨hs, S⟩⟩
    · cases hs
      refine IFB_dec (fun hlt => ⟨⟨by omega, hlt⟩, _, _, _, cell S.bel 0 _ rfl, ?_⟩) (fun hge => absurd (show ((0 : Nat) : Int) < ((2 : Nat) : Int) by decide) hge)
      refine S.app 0 rfl tExs zEx6 (by omega) (by omega) (h1.grown S.bel) (mm := n1) l1 o1 (by omega) fun a' c' w4 S4 => ⟨_, _, _, rfl, ⟨a', c', .inr (.inl ⟨by rw [Nat.zero_add]; rfl, ?_⟩)⟩, show 1 < 2 by decide⟩
      rw [Nat.zero_add, List.nil_append] at S4
      exact S4
    · cases hs
      refine IFB_dec (fun hlt => ⟨⟨by omega, hlt⟩, _, _, _, cell S.bel 1 _ rfl, ?_⟩) (fun hge => absurd (show ((1 : Nat) : Int) < ((2 : Nat) : Int) by decide) hge)
      exact S.app 0 rfl tExs zEx6 (by omega) (by omega) (h2.grown S.bel) (mm := n2) l2 o2 (by omega) fun a' c' w4 S4 => ⟨_, _, _, rfl, ⟨a', c', .inr (.inr ⟨rfl, S4⟩)⟩, show 0 < 1 by decide⟩
    · cases hs
      exact IFB_dec (fun hlt => absurd hlt (by decide)) (fun hge => ⟨_, _, rfl, S.rd 0 rfl, S.bel⟩)
/-! ### a query's value -/
structure QAt (w : World) (q : Qu) (ai aw ag ao : Option Addr) : Prop where
  it : ∃ rs, Rd w ai rs ∧ RowsC (ItC (fun _ => False) w) q.it rs
  wh : ∃ rs, Rd w aw rs ∧ RowsC (ExC (fun _ => False) w) q.wh rs
  gr : ∃ rs, Rd w ag rs ∧ RowsC (ExC (fun _ => False) w) q.gr rs
  od : ∃ rs, Rd w ao rs ∧ RowsC keyC q.od rs
  nit : q.it.length ≤ 9223372036854775807
  nwh : q.wh.length ≤ 9223372036854775807
  ngr : q.gr.length ≤ 9223372036854775807
  nod : q.od.length ≤ 9223372036854775807
  lim : i64 q.lim
def quL (q : Qu) (ai aw ag ao : Option Addr) (ci cw cg co : Nat) : List Value := [.slice ai q.it.length ci, .slice aw q.wh.length cw, .slice ag q.gr.length cg, .slice ao q.od.length co, .int .i64 q.lim]
theorem QAt.grown {w w' : World} {q : Qu} {ai aw ag ao : Option Addr} (h : QAt w q ai aw ag ao) (hk : Below w.heap.size w w') : QAt w' q ai aw ag ao := by
  obtain ⟨⟨r1, h1, h1'⟩, ⟨r2, h2, h2'⟩, ⟨r3, h3, h3'⟩, ⟨r4, h4, h4'⟩, n1, n2, n3, n4, hl⟩ := h
  exact ⟨⟨r1, h1.grown hk, h1'.mono fun _ _ h => h.grown hk⟩, ⟨r2, h2.grown hk, h2'.mono fun _ _ h => h.grown hk⟩, ⟨r3, h3.grown hk, h3'.mono fun _ _ h => h.grown hk⟩, ⟨r4, h4.grown hk, h4'⟩, n1, n2, n3, n4, hl⟩
theorem QuC.at {w : World} {q : Qu} {vs : List Value} (h : QuC (fun _ => False) w q vs) : ∃ ai aw ag ao ci cw cg co, vs = quL q ai aw ag ao ci cw cg co ∧ QAt w q ai aw ag ao ∧ q.it.length ≤ ci ∧ q.wh.length ≤ cw ∧ q.gr.length ≤ cg ∧ q.od.length ≤ co := by
  obtain ⟨vi, vw, vg, vo, rfl, h1, h2, h3, h4, h5⟩ := h.ex
  obtain ⟨ai, ci, ri, rfl, i1, _, i2, i3, _, i4⟩ := h1.ex
  obtain ⟨aw, cw, rw, rfl, w1, _, w2, w3, _, w4⟩ := h2.ex
  obtain ⟨ag, cg, rg, rfl, g1, _, g2, g3, _, g4⟩ := h3.ex
  obtain ⟨ao, co, ro, rfl, o1, _, o2, o3, _, o4⟩ := h4.ex
  exact ⟨ai, aw, ag, ao, ci, cw, cg, co, rfl, ⟨⟨ri, i1, i4⟩, ⟨rw, w1, w4⟩, ⟨rg, g1, g4⟩, ⟨ro, o1, o4⟩, Nat.le_trans i2 (Nat.le_trans i3 (by decide)), Nat.le_trans w2 (Nat.le_trans w3 (by decide)), Nat.le_trans g2 (Nat.le_trans g3 (by decide)), Nat.le_trans o2 (Nat.le_trans o3 (by decide)), h5⟩, i2, w2, g2, o2⟩
theorem item_at {w0 w : World} {a : Option Addr} {rs : List Value} {l : List Itm} (hl : Rd w a rs) (hC : RowsC (ItC (fun _ => False) w0) l rs) {i : Nat} (hi : i < l.length) : ∃ p a' cap', a = some p ∧ XC w0 l[i].2.2 (exHead l[i].2.2 a' cap') ∧ l[i].1.size ≤ maxLen ∧
    ∀ j v, (itHead l[i] a' cap')[j]? = some v → w.cell? ((p.add (i * 8)).add j) = some v := by
  obtain ⟨q, cc, rfl, hc, cell⟩ := rows_at (n := 8) (fun x c h => ItC.len h) (by decide) hl hC hi
  obtain ⟨ce, rfl, hx, hy, _⟩ := hc
  obtain ⟨a9, cap9, _, rfl, _⟩ := ExC.open hx
  exact ⟨q, a9, cap9, rfl, hx, hy, cell⟩
theorem exs_at {w0 w : World} {a : Option Addr} {rs : List Value} {l : List Ex} (hl : Rd w a rs) (hC : RowsC (ExC (fun _ => False) w0) l rs) {i : Nat} (hi : i < l.length) : ∃ p a' cap', a = some p ∧ XC w0 l[i] (exHead l[i] a' cap') ∧
    ∀ j v, (exHead l[i] a' cap')[j]? = some v → w.cell? ((p.add (i * 6)).add j) = some v := by
  obtain ⟨q, cc, rfl, hc, cell⟩ := rows_at (n := 6) (fun x c h => ExC.len h) (by decide) hl hC hi
  obtain ⟨a9, cap9, _, rfl, _⟩ := ExC.open hc
  exact ⟨q, a9, cap9, rfl, hc, cell⟩
theorem key_at {w : World} {a : Option Addr} {rs : List Value} {l : List (Int × Bool)} (hl : Rd w a rs) (hC : RowsC keyC l rs) {i : Nat} (hi : i < l.length) : ∃ p, a = some p ∧ w.cell? (p.add (i * 2)) = some (.int .i64 l[i].1) ∧ w.cell? ((p.add (i * 2)).add 1) = some (.bool l[i].2) ∧ i64 l[i].1 := by
  obtain ⟨q, cc, rfl, hc, cell⟩ := rows_at (n := 2) (fun x c h => keyC_len h) (by decide) hl hC hi
  obtain ⟨rfl, hb⟩ := hc
  exact ⟨q, rfl, cell 0 _ rfl, cell 1 _ rfl, hb⟩
theorem all_snoc {α : Type} {p : α → Bool} {l : List α} {i : Nat} (hi : i < l.length) (h : ∀ x ∈ l.take i, p x = true) (h2 : p l[i] = true) : ∀ x ∈ l.take (i + 1), p x = true := by
  intro x hx
  rw [List.take_succ_eq_append_getElem hi] at hx
  rcases List.mem_append.1 hx with hx | hx
  · exact h x hx
  · rw [List.mem_singleton.1 hx]; exact h2
theorem small_no {q : Qu} (h : ¬ ((1 ≤ q.it.length ∧ q.it.length ≤ 16 ∧ q.wh.length ≤ 1 ∧ q.gr.length ≤ 4 ∧ q.od.length ≤ 4 ∧ -1 ≤ q.lim ∧ q.lim ≤ 4096) ∧ (∀ i ∈ q.it, rightI i = true) ∧ (∀ x ∈ q.wh ++ q.gr, rightX x = true) ∧ ∀ k ∈ q.od, rightK q.it k.1 = true)) : smallQ q = false := by
  rw [Bool.eq_false_iff, Ne, smallQ_iff]
  rintro ⟨h1, h2, h3, h4, h5⟩
  exact h ⟨h1, h2, fun x hx => (List.mem_append.1 hx).elim (h3 x) (h4 x), h5⟩
theorem small_yes {q : Qu} (h1 : 1 ≤ q.it.length ∧ q.it.length ≤ 16 ∧ q.wh.length ≤ 1 ∧ q.gr.length ≤ 4 ∧ q.od.length ≤ 4 ∧ -1 ≤ q.lim ∧ q.lim ≤ 4096) (h2 : ∀ i ∈ q.it, rightI i = true) (h3 : ∀ x ∈ q.wh ++ q.gr, rightX x = true) (h4 : ∀ k ∈ q.od, rightK q.it k.1 = true) : smallQ q = true :=
  smallQ_iff.2 ⟨h1, h2, fun x hx => h3 x (List.mem_append_left _ hx), fun x hx => h3 x (List.mem_append_right _ hx), h4⟩
theorem placeOf_eq {l : List Itm} {i : Nat} {s : ByteArray} : (idxV (placeOf l s) = (i : Int)) ↔ placeOf l s = some i := by
  cases placeOf l s with
  | none => simp [idxV]
  | some j => simp only [idxV, Option.some.injEq]; omega
theorem rightK_iff {l : List Itm} {k : Int} : rightK l k = true ↔ ∃ (i : Nat) (hi : i < l.length), k = i ∧ placeOf l l[i].1 = some i := by
  unfold rightK
  simp only [Bool.and_eq_true, decide_eq_true_eq]
  constructor
  · rintro ⟨⟨h0, h1⟩, h2⟩
    have hi : k.toNat < l.length := by omega
    rw [List.getD_eq_getElem?_getD, List.getElem?_eq_getElem hi, Option.getD_some] at h2
    exact ⟨k.toNat, hi, by omega, h2⟩
  · rintro ⟨i, hi, rfl, h⟩
    rw [Int.toNat_natCast, List.getD_eq_getElem?_getD, List.getElem?_eq_getElem hi, Option.getD_some]
    exact ⟨⟨by omega, by omega⟩, h⟩
end Go.Proofs.YtbpdfpfgijhokaaGreatDoor
namespace Go.Proofs.YtbpdfpfgijhokaaGreatDoor
set_option maxRecDepth 100000
open Go.Dn Go.Proofs
open Go.RowKit (Below)
set_option linter.unusedVariables false
def quI (b : Nat) (q : Qu) (ai aw ag ao : Option Addr) (ci cw cg co : Nat) : It := It.cells b ⟨quL q ai aw ag ao ci cw cg co⟩ ty.api_Query
def itI (b : Nat) (i : Itm) (a : Option Addr) (cap : Nat) : It := It.cells b ⟨itHead i a cap⟩ ty.api_Item
section
variable {w : World} {q : Qu} {ai aw ag ao : Option Addr} {ci cw cg co : Nat}
theorem fits_key_ok {w0 : World} {H : List It} {b : Nat} (n : Nat) (Q : QAt w q ai aw ag ao) (S : ST w0 w H) (hn : H[n]? = some (quI b q ai aw ag ao ci cw cg co)) (k : Int × Bool) :
    Calls Tryz.prog f.query_fits_c1 #[.agg #[.int .i64 k.1, .bool k.2], .pointer (some ⟨b, 0, none⟩)] w (Ret fun r w' => r = .bool (!rightK q.it k.1) ∧ Below w.heap.size w w') := by
  apply R.query_fits_c1_calls
  unfold R.query_fits_c1
  obtain ⟨rs, hrd, hC⟩ := Q.it
  refine (ST.start w).newB fun b4 w1 _ B1 S1 => S1.draw fun w2 B2 S2 => ⟨_, S2.cell 0 rfl rfl, ?_⟩
  have T2 := S.grown S2.bel
  have no : ¬ (∃ (i : Nat) (hi : i < q.it.length), k.1 = i ∧ placeOf q.it q.it[i].1 = some i) → Value.bool true = .bool (!rightK q.it k.1) ∧ Below w.heap.size w w2 := fun h => ⟨by rw [show rightK q.it k.1 = false from Bool.eq_false_iff.2 fun h2 => h (rightK_iff.1 h2)]; rfl, S2.bel⟩
  refine IFB_dec (fun h => no ?_) (fun h1 => ⟨_, S2.cell 0 rfl rfl, _, _, _, T2.cell n hn rfl, IFB_dec (fun h => no ?_) (fun h2 => ⟨_, _, _, T2.cell n hn rfl, _, _, _, T2.cell n hn rfl, _, S2.cell 0 rfl rfl, ⟨by omega, by omega⟩, ?_⟩)⟩)
  · rintro ⟨i, hi, he, _⟩; omega
  · rintro ⟨i, hi, he, _⟩; omega
  obtain ⟨i, hi⟩ : ∃ i : Nat, k.1 = i := ⟨k.1.toNat, by omega⟩
  have hil : i < q.it.length := by omega
  obtain ⟨p, rfl, hc⟩ := it_name (hrd.grown S2.bel) hC hil
  refine ⟨_, by rw [hi, Int.toNat_natCast]; exact hc, _, S2.cell 0 rfl rfl, (query_place_ok (hrd.grown S2.bel) (hC.mono fun _ _ h => h.grown S2.bel) Q.nit _).mono ?_⟩
  rintro _ w3 ⟨_, rfl, rfl, B3⟩
  have S3 := S2.grown B3
  refine ⟨_, rfl, S3.cell 0 rfl rfl, ?_, S3.bel⟩
  congr 1
  rw [Bool.eq_iff_iff, bne_iff_ne, Bool.not_eq_true', Bool.eq_false_iff, Ne, Ne]
  refine not_congr ?_
  rw [rightK_iff, hi, placeOf_eq]
  constructor
  · intro h; exact ⟨i, hil, rfl, h⟩
  · rintro ⟨j, hj, he, h⟩
    obtain rfl : i = j := by omega
    exact h
theorem query_fits_ok (E : Env w) (Q : QAt w q ai aw ag ao) : Calls Tryz.prog f.query_fits #[.agg ⟨quL q ai aw ag ao ci cw cg co⟩] w (Ret fun r w' => r = .bool (smallQ q) ∧ Below w.heap.size w w') := by
  apply R.query_fits_calls
  unfold R.query_fits
  obtain ⟨ri, hri, hCi⟩ := Q.it
  obtain ⟨rw_, hrw, hCw⟩ := Q.wh
  obtain ⟨rg, hrg, hCg⟩ := Q.gr
  obtain ⟨ro, hro, hCo⟩ := Q.od
  refine (ST.start w).newB fun b6 w1 _ _ S1 => ?_
  have no : ∀ w', ST w w' [quI b6 q ai aw ag ao ci cw cg co] → ¬ ((1 ≤ q.it.length ∧ q.it.length ≤ 16 ∧ q.wh.length ≤ 1 ∧ q.gr.length ≤ 4 ∧ q.od.length ≤ 4 ∧ -1 ≤ q.lim ∧ q.lim ≤ 4096) ∧ (∀ i ∈ q.it, rightI i = true) ∧ (∀ x ∈ q.wh ++ q.gr, rightX x = true) ∧ ∀ k ∈ q.od, rightK q.it k.1 = true) → Value.bool false = .bool (smallQ q) ∧ Below w.heap.size w w' := fun w' S h => ⟨by rw [small_no h], S.bel⟩
  have S1 : ST w w1 [quI b6 q ai aw ag ao ci cw cg co] := S1
  refine ⟨_, _, _, S1.cell 0 rfl rfl, IFB_dec (fun h => no _ S1 (by omega)) (fun g1 => ⟨_, _, _, S1.cell 0 rfl rfl, IFB_dec (fun h => no _ S1 (by omega)) (fun g2 => ⟨_, _, _, S1.cell 0 rfl rfl, IFB_dec (fun h => no _ S1 (by omega)) (fun g3 => ⟨_, _, _, S1.cell 0 rfl rfl, IFB_dec (fun h => no _ S1 (by omega)) (fun g4 => ⟨_, _, _, S1.cell 0 rfl rfl, IFB_dec (fun h => no _ S1 (by omega)) (fun g5 => ⟨_, S1.cell 0 rfl rfl, IFB_dec (fun h => no _ S1 (by omega)) (fun g6 => ⟨_, S1.cell 0 rfl rfl, IFB_dec (fun h => no _ S1 (by omega)) (fun g7 => ?_)⟩)⟩)⟩)⟩)⟩)⟩)⟩
  have nums : 1 ≤ q.it.length ∧ q.it.length ≤ 16 ∧ q.wh.length ≤ 1 ∧ q.gr.length ≤ 4 ∧ q.od.length ≤ 4 ∧ -1 ≤ q.lim ∧ q.lim ≤ 4096 := ⟨by omega, by omega, by omega, by omega, by omega, by omega, by omega⟩
  clear g1 g2 g3 g4 g5 g6 g7
  refine ⟨_, _, _, S1.cell 0 rfl rfl, fun st w2 => ∃ i : Nat, st = [.int .i64 (i : Int)] ∧ i ≤ q.it.length ∧ (∀ x ∈ q.it.take i, rightI x = true) ∧ ST w w2 [quI b6 q ai aw ag ao ci cw cg co], fun st _ => match st with | [.int _ t] => q.it.length - t.toNat | _ => 0, ⟨0, rfl, by omega, by simp, S1⟩, ?_⟩
  rintro t w2 ⟨i, hst, hi, hall, S2⟩
  cases hst
  refine IFB_dec (fun hlt => ⟨⟨by omega, hlt⟩, ?_⟩) (fun hge => ?_)
  · have hil : i < q.it.length := by omega
    obtain ⟨p, a3, cap3, rfl, hxk, hsz, cell⟩ := item_at (hri.grown S2.bel) hCi hil
    refine ⟨_, by rw [Int.toNat_natCast]; exact cell 0 _ rfl, _, by rw [Int.toNat_natCast]; exact cell 1 _ rfl, _, by rw [Int.toNat_natCast]; exact cell 2 _ rfl, _, by rw [Int.toNat_natCast]; exact cell 3 _ rfl, _, by rw [Int.toNat_natCast]; exact cell 4 _ rfl, _, by rw [Int.toNat_natCast]; exact cell 5 _ rfl, _, by rw [Int.toNat_natCast]; exact cell 6 _ rfl, _, _, _, by rw [Int.toNat_natCast]; exact cell 7 _ rfl, S2.lit8 fun b26 w11 _ S11 => ?_⟩
    have S11 : ST w w11 [itI b26 q.it[i] a3 cap3, quI b6 q (some p) aw ag ao ci cw cg co] := S11
    refine ⟨fun st w12 => st = [.bool (bareX q.it[i].2.2)] ∧ w12 = w11, ?_, ?_⟩
    · simp only [bytesEq_iff]
      refine ⟨_, S11.cell 0 rfl rfl, IFB_eq (fun h1 => ⟨_, S11.cell 0 rfl rfl, IFB_dec (fun h2 => ⟨_, S11.cell 0 rfl rfl, _, S11.cell 0 rfl rfl, _, S11.cell 0 rfl rfl, ?_⟩) (fun h2 => ⟨by simp [bareX, h2], trivial⟩)⟩) (fun h1 => ⟨by simp [bareX, h1], trivial⟩)⟩
      have e := valEq q.it[i].2.2.v V0
      simp only [V0] at e
      rw [e]
      refine IFB_dec (fun h3 => ⟨_, _, _, S11.cell 0 rfl rfl, ?_, trivial⟩) (fun h3 => ⟨by simp [bareX, h3], trivial⟩)
      congr 2
      rw [Bool.eq_iff_iff]
      simp [bareX, h1, h2, h3]
    · rintro em w12 ⟨he, rfl⟩
      obtain rfl : em = bareX q.it[i].2.2 := by simpa using he
      have bad : ∀ w', ST w w' [itI b26 q.it[i] a3 cap3, quI b6 q (some p) aw ag ao ci cw cg co] → rightI q.it[i] = false → Value.bool false = .bool (smallQ q) ∧ Below w.heap.size w w' := fun w' S h => no w' (S.drop 1) fun hh => by rw [hh.2.1 _ (List.getElem_mem hil)] at h; cases h
      have good : ∀ w', ST w w' [itI b26 q.it[i] a3 cap3, quI b6 q (some p) aw ag ao ci cw cg co] → rightI q.it[i] = true → (∃ j : Nat, [Value.int .i64 (IntKind.i64.wrap ((i : Int) + 1))] = [.int .i64 (j : Int)] ∧ j ≤ q.it.length ∧ (∀ x ∈ q.it.take j, rightI x = true) ∧ ST w w' [quI b6 q (some p) aw ag ao ci cw cg co]) ∧ q.it.length - (IntKind.i64.wrap ((i : Int) + 1)).toNat < q.it.length - ((i : Nat) : Int).toNat := by
        intro w' S h
        rw [wrap_succ (by omega)]
        refine ⟨⟨i + 1, rfl, by omega, all_snoc hil hall h, S.drop 1⟩, ?_⟩
        simp only [Int.toNat_natCast]
        omega
      refine ⟨_, S11.cell 0 rfl rfl, (query_isName_ok q.it[i].1 (E.grown S11.bel) (Nat.le_trans hsz (by decide))).mono ?_⟩
      rintro _ w13 ⟨_, rfl, rfl, B13⟩
      have S13 := S11.grown B13
      refine ⟨_, rfl, IFB_not (IFB_of (fun h1 => ⟨_, S13.cell 0 rfl rfl, IFB_dec (fun h => bad _ S13 ?_) (fun h2 => ⟨_, S13.cell 0 rfl rfl, IFB_dec (fun h => bad _ S13 ?_) (fun h3 => ⟨_, S13.cell 0 rfl rfl, IFB_eq (fun h4 => ?_) (fun h4 => ?_)⟩)⟩)⟩) (fun h1 => bad _ S13 (by simp [rightI, h1])))⟩
      · have : ¬ ((0 : Int) ≤ q.it[i].2.1 ∧ q.it[i].2.1 ≤ 5) := by omega
        simp [rightI, this]
      · have : ¬ ((0 : Int) ≤ q.it[i].2.1 ∧ q.it[i].2.1 ≤ 5) := by omega
        simp [rightI, this]
      · refine IFB_not (IFB_of (fun h5 => ⟨_, S13.cell 0 rfl rfl, IFB_ne (fun h => absurd h4 h) (fun _ => good _ S13 (by simp [rightI, h1, h4, h5]))⟩) (fun h5 => bad _ S13 (by simp [rightI, h4, h5])))
      · have hr : ((0 : Int) ≤ q.it[i].2.1 ∧ q.it[i].2.1 ≤ 5) := by omega
        refine ⟨_, S13.cell 0 rfl rfl, IFB_ne (fun _ => ⟨_, S13.cell 0 rfl rfl, _, S13.cell 0 rfl rfl, _, S13.cell 0 rfl rfl, _, S13.cell 0 rfl rfl, _, S13.cell 0 rfl rfl, _, _, _, S13.cell 0 rfl rfl, (query_right_ok (E.grown S13.bel) (hxk.grown S13.bel)).mono ?_⟩) (fun h => absurd h h4)⟩
        rintro _ w14 ⟨_, rfl, rfl, B14⟩
        have S14 := S13.grown B14
        refine ⟨_, rfl, IFB_not (IFB_of (fun h5 => good _ S14 ?_) (fun h5 => bad _ S14 ?_))⟩
        · simp only [rightI, h1, if_neg h4, h5, decide_eq_true hr, Bool.and_self]
        · simp only [rightI, if_neg h4, h5, Bool.and_false]
  have hits : ∀ x ∈ q.it, rightI x = true := by rwa [List.take_of_length_le (by omega)] at hall
  refine ⟨_, _, _, S2.cell 0 rfl rfl, _, _, _, S2.cell 0 rfl rfl, S2.newB fun b61 w16 _ _ S16 => (concatEx_ok (S16.blk 0 rfl) (hrw.grown S16.bel) (hrg.grown S16.bel) (hCw.len fun x c h => ExC.len h) (hCg.len fun x c h => ExC.len h) (exL_one (rowsC_exL.1 hCw)) (exL_one (rowsC_exL.1 hCg)) (by omega)).mono ?_⟩
  rintro _ w17 ⟨_, rfl, a3, c3, rfl, hr3, B17⟩
  have S17 := (S16.drop 1).grown B17
  have hC3 := RowsC.append hCw hCg
  have hlen : (q.wh ++ q.gr).length = q.wh.length + q.gr.length := List.length_append
  refine ⟨_, _, _, rfl, fun st w18 => ∃ i : Nat, st = [.int .i64 (i : Int)] ∧ i ≤ (q.wh ++ q.gr).length ∧ (∀ x ∈ (q.wh ++ q.gr).take i, rightX x = true) ∧ Below w17.heap.size w17 w18 ∧ ST w w18 [quI b6 q ai aw ag ao ci cw cg co], fun st _ => match st with | [.int _ t] => (q.wh ++ q.gr).length - t.toNat | _ => 0, ⟨0, rfl, by omega, by simp, .refl _ _, S17⟩, ?_⟩
  rintro t w18 ⟨j, hst, hj, hallx, B18, S18⟩
  cases hst
  rw [← hlen]
  refine IFB_dec (fun hlt => ⟨⟨by omega, hlt⟩, ?_⟩) (fun hge => ?_)
  · have hil : j < (q.wh ++ q.gr).length := by omega
    obtain ⟨p, a5, cap5, rfl, hxk, cell⟩ := exs_at (hr3.grown B18) hC3 hil
    refine ⟨_, by rw [Int.toNat_natCast]; exact cell 0 _ rfl, _, by rw [Int.toNat_natCast]; exact cell 1 _ rfl, _, by rw [Int.toNat_natCast]; exact cell 2 _ rfl, _, by rw [Int.toNat_natCast]; exact cell 3 _ rfl, _, by rw [Int.toNat_natCast]; exact cell 4 _ rfl, _, _, _, by rw [Int.toNat_natCast]; exact cell 5 _ rfl, (ST.start w18).lit6 fun b76 w26 _ S26 => ?_⟩
    have T26 := S18.grown S26.bel
    refine ⟨_, S26.cell 0 rfl rfl, _, S26.cell 0 rfl rfl, _, S26.cell 0 rfl rfl, _, S26.cell 0 rfl rfl, _, S26.cell 0 rfl rfl, _, _, _, S26.cell 0 rfl rfl, (query_right_ok (E.grown T26.bel) (hxk.grown T26.bel)).mono ?_⟩
    rintro _ w27 ⟨_, rfl, rfl, B27⟩
    have T27 := T26.grown B27
    refine ⟨_, rfl, IFB_not (IFB_of (fun h => ?_) (fun h => no _ T27 fun hh => by rw [hh.2.2.1 _ (List.getElem_mem hil)] at h; cases h))⟩
    rw [wrap_succ (by omega)]
    refine ⟨⟨j + 1, rfl, by omega, all_snoc hil hallx h, below_trans (below_trans B18 S26.bel) B27, T27⟩, ?_⟩
    show (q.wh ++ q.gr).length - ((j + 1 : Nat) : Int).toNat < (q.wh ++ q.gr).length - ((j : Nat) : Int).toNat
    simp only [Int.toNat_natCast]
    omega
  · have hexs : ∀ x ∈ q.wh ++ q.gr, rightX x = true := by rwa [List.take_of_length_le (by omega)] at hallx
    refine ⟨_, _, _, S18.cell 0 rfl rfl, (any_api_Key_ok (hro.grown S18.bel) hCo Q.nod (by kernel_rfl) (fun k => !rightK q.it k.1) ?_).mono ?_⟩
    · rintro w19 k cc B19 _ ⟨rfl, _⟩
      exact fits_key_ok 0 ((Q.grown S18.bel).grown B19) (S18.grown B19) rfl k
    · rintro _ w19 ⟨_, rfl, rfl, B19⟩
      have S19 := S18.grown B19
      refine ⟨_, rfl, ?_, S19.bel⟩
      congr 1
      by_cases hk : ∀ k ∈ q.od, rightK q.it k.1 = true
      · rw [small_yes nums hits hexs hk, ← List.all_eq_not_any_not, List.all_eq_true]
        exact hk
      · rw [small_no fun hh => hk hh.2.2.2, ← List.all_eq_not_any_not, List.all_eq_false]
        simp only [Classical.not_forall] at hk
        obtain ⟨k, h1, h2⟩ := hk
        exact ⟨k, h1, h2⟩
end
section
variable {w : World} {q : Qu} {ai aw ag ao : Option Addr} {ci cw cg co : Nat}
theorem ref11_small_ok (Q : QAt w q ai aw ag ao) : Calls Tryz.prog f.ref11_small #[.agg ⟨quL q ai aw ag ao ci cw cg co⟩] w (Ret fun r w' => r = .bool (smallQ q) ∧ Below w.heap.size w w') := by
  apply R.ref11_small_calls
  unfold R.ref11_small
  obtain ⟨ri, hri, hCi⟩ := Q.it
  obtain ⟨rw_, hrw, hCw⟩ := Q.wh
  obtain ⟨rg, hrg, hCg⟩ := Q.gr
  obtain ⟨ro, hro, hCo⟩ := Q.od
  refine (ST.start w).newB fun b6 w1 _ _ S1 => ?_
  have no : ∀ {H : List It} w', ST w w' H → ¬ ((1 ≤ q.it.length ∧ q.it.length ≤ 16 ∧ q.wh.length ≤ 1 ∧ q.gr.length ≤ 4 ∧ q.od.length ≤ 4 ∧ -1 ≤ q.lim ∧ q.lim ≤ 4096) ∧ (∀ i ∈ q.it, rightI i = true) ∧ (∀ x ∈ q.wh ++ q.gr, rightX x = true) ∧ ∀ k ∈ q.od, rightK q.it k.1 = true) → Value.bool false = .bool (smallQ q) ∧ Below w.heap.size w w' := fun w' S h => ⟨by rw [small_no h], S.bel⟩
  have S1 : ST w w1 [quI b6 q ai aw ag ao ci cw cg co] := S1
  refine ⟨_, _, _, S1.cell 0 rfl rfl, IFB_dec (fun h => no _ S1 (by omega)) (fun g1 => ⟨_, _, _, S1.cell 0 rfl rfl, IFB_dec (fun h => no _ S1 (by omega)) (fun g2 => ⟨_, _, _, S1.cell 0 rfl rfl, IFB_dec (fun h => no _ S1 (by omega)) (fun g3 => ⟨_, _, _, S1.cell 0 rfl rfl, IFB_dec (fun h => no _ S1 (by omega)) (fun g4 => ⟨_, _, _, S1.cell 0 rfl rfl, IFB_dec (fun h => no _ S1 (by omega)) (fun g5 => ⟨_, S1.cell 0 rfl rfl, IFB_dec (fun h => no _ S1 (by omega)) (fun g6 => ⟨_, S1.cell 0 rfl rfl, IFB_dec (fun h => no _ S1 (by omega)) (fun g7 => ?_)⟩)⟩)⟩)⟩)⟩)⟩)⟩
  have nums : 1 ≤ q.it.length ∧ q.it.length ≤ 16 ∧ q.wh.length ≤ 1 ∧ q.gr.length ≤ 4 ∧ q.od.length ≤ 4 ∧ -1 ≤ q.lim ∧ q.lim ≤ 4096 := ⟨by omega, by omega, by omega, by omega, by omega, by omega, by omega⟩
  clear g1 g2 g3 g4 g5 g6 g7
  refine ⟨fun st w2 => ∃ i : Nat, st = [.int .i64 (i : Int)] ∧ i ≤ q.it.length ∧ (∀ x ∈ q.it.take i, rightI x = true) ∧ ST w w2 [quI b6 q ai aw ag ao ci cw cg co], fun st _ => match st with | [.int _ t] => q.it.length - t.toNat | _ => 0, ⟨0, rfl, by omega, by simp, S1⟩, ?_⟩
  rintro t w2 ⟨i, hst, hi, hall, S2⟩
  cases hst
  refine ⟨_, _, _, S2.cell 0 rfl rfl, IFB_dec (fun hlt => ⟨_, _, _, S2.cell 0 rfl rfl, ⟨by omega, hlt⟩, ?_⟩) (fun hge => ?_)⟩
  · have hil : i < q.it.length := by omega
    obtain ⟨p, a3, cap3, rfl, hxk, hsz, cell⟩ := item_at (hri.grown S2.bel) hCi hil
    refine ⟨_, by rw [Int.toNat_natCast]; exact cell 0 _ rfl, _, by rw [Int.toNat_natCast]; exact cell 1 _ rfl, _, by rw [Int.toNat_natCast]; exact cell 2 _ rfl, _, by rw [Int.toNat_natCast]; exact cell 3 _ rfl, _, by rw [Int.toNat_natCast]; exact cell 4 _ rfl, _, by rw [Int.toNat_natCast]; exact cell 5 _ rfl, _, by rw [Int.toNat_natCast]; exact cell 6 _ rfl, _, _, _, by rw [Int.toNat_natCast]; exact cell 7 _ rfl, (ref11_isItem_ok (i := q.it[i]) (hxk.grown S2.bel) hsz).mono ?_⟩
    rintro _ w3 ⟨_, rfl, rfl, B3⟩
    have S3 := S2.grown B3
    refine ⟨_, rfl, IFB_not (IFB_of (fun h => ?_) (fun h => no _ S3 fun hh => by rw [hh.2.1 _ (List.getElem_mem hil)] at h; cases h))⟩
    rw [wrap_succ (by omega)]
    refine ⟨⟨i + 1, rfl, by omega, all_snoc hil hall h, S3⟩, ?_⟩
    show q.it.length - ((i + 1 : Nat) : Int).toNat < q.it.length - ((i : Nat) : Int).toNat
    simp only [Int.toNat_natCast]
    omega
  have hits : ∀ x ∈ q.it, rightI x = true := by rwa [List.take_of_length_le (by omega)] at hall
  refine S2.draw fun w4 _ S4 => ⟨_, _, _, S4.cell 0 rfl rfl, _, _, _, S4.cell 0 rfl rfl, _, _, _, S4.cell 0 rfl rfl, _, _, _, S4.cell 0 rfl rfl, ?_⟩
  rw [show ((q.wh.length : Int) + (q.gr.length : Int)) = ((q.wh.length + q.gr.length : Nat) : Int) by omega, wrap_i64 (by omega) (by omega)]
  refine make_row0 tExs (by omega) (by omega) fun bm w5 hbm B5 hrow => ⟨_, _, _, rfl, ?_⟩
  have S5 := S4.add B5 (exsI (some ⟨bm, 0, none⟩) 0 (q.wh.length + q.gr.length) []) hrow (fun k hk => by cases hk; exact hbm)
  refine ⟨S5.cell 1 rfl rfl, S5.cell 1 rfl rfl, ?_⟩
  refine S5.app 0 rfl tExs zEx6 (by omega) (by omega) (hrw.grown S5.bel) (mm := q.wh.length) (hCw.len fun x c h => ExC.len h) (exL_one (rowsC_exL.1 hCw)) (by omega) fun a6 c6 w6 S6 => ⟨_, _, _, rfl, S6.cell 1 rfl rfl, ?_⟩
  rw [Nat.zero_add, List.nil_append] at S6
  rw [Nat.zero_add]
  refine S6.app 0 rfl tExs zEx6 (by omega) (by omega) (hrg.grown S6.bel) (mm := q.gr.length) (hCg.len fun x c h => ExC.len h) (exL_one (rowsC_exL.1 hCg)) (by omega) fun a7 c7 w7 S7 => ⟨_, _, _, rfl, ?_⟩
  have S7 : ST w w7 [exsI a7 (q.wh.length + q.gr.length) c7 (rw_ ++ rg), quI b6 q ai aw ag ao ci cw cg co] := S7
  have hC3 := RowsC.append hCw hCg
  have hlen : (q.wh ++ q.gr).length = q.wh.length + q.gr.length := List.length_append
  refine ⟨fun st w8 => ∃ i : Nat, st = [.int .i64 (i : Int)] ∧ i ≤ (q.wh ++ q.gr).length ∧ (∀ x ∈ (q.wh ++ q.gr).take i, rightX x = true) ∧ ST w w8 [exsI a7 (q.wh.length + q.gr.length) c7 (rw_ ++ rg), quI b6 q ai aw ag ao ci cw cg co], fun st _ => match st with | [.int _ t] => (q.wh ++ q.gr).length - t.toNat | _ => 0, ⟨0, rfl, by omega, by simp, S7⟩, ?_⟩
  rintro t w8 ⟨j, hst, hj, hallx, S8⟩
  cases hst
  rw [← hlen] at S8 ⊢
  refine IFB_dec (fun hlt => ⟨⟨by omega, hlt⟩, ?_⟩) (fun hge => ?_)
  · have hil : j < (q.wh ++ q.gr).length := by omega
    obtain ⟨p, a5, cap5, rfl, hxk, cell⟩ := exs_at (S8.rd 0 rfl) hC3 hil
    refine ⟨_, by rw [Int.toNat_natCast]; exact cell 0 _ rfl, _, by rw [Int.toNat_natCast]; exact cell 1 _ rfl, _, by rw [Int.toNat_natCast]; exact cell 2 _ rfl, _, by rw [Int.toNat_natCast]; exact cell 3 _ rfl, _, by rw [Int.toNat_natCast]; exact cell 4 _ rfl, _, _, _, by rw [Int.toNat_natCast]; exact cell 5 _ rfl, (ref11_isExpr_ok (hxk.grown S8.bel)).mono ?_⟩
    rintro _ w9 ⟨_, rfl, rfl, B9⟩
    have S9 := S8.grown B9
    refine ⟨_, rfl, IFB_not (IFB_of (fun h => ?_) (fun h => no _ S9 fun hh => by rw [hh.2.2.1 _ (List.getElem_mem hil)] at h; cases h))⟩
    rw [wrap_succ (by omega)]
    refine ⟨⟨j + 1, rfl, by omega, all_snoc hil hallx h, S9⟩, ?_⟩
    show (q.wh ++ q.gr).length - ((j + 1 : Nat) : Int).toNat < (q.wh ++ q.gr).length - ((j : Nat) : Int).toNat
    simp only [Int.toNat_natCast]
    omega
  have hexs : ∀ x ∈ q.wh ++ q.gr, rightX x = true := by rwa [List.take_of_length_le (by omega)] at hallx
  refine ⟨fun st w10 => ∃ i : Nat, st = [.int .i64 (i : Int)] ∧ i ≤ q.od.length ∧ (∀ k ∈ q.od.take i, rightK q.it k.1 = true) ∧ ST w w10 [quI b6 q ai aw ag ao ci cw cg co], fun st _ => match st with | [.int _ t] => q.od.length - t.toNat | _ => 0, ⟨0, rfl, by omega, by simp, S8.drop 1⟩, ?_⟩
  rintro t w10 ⟨m, hst, hm, hallk, S10⟩
  cases hst
  refine ⟨_, _, _, S10.cell 0 rfl rfl, IFB_dec (fun hlt => ⟨_, _, _, S10.cell 0 rfl rfl, ⟨by omega, hlt⟩, ?_⟩) (fun hge => ?_)⟩
  · have hil : m < q.od.length := by omega
    obtain ⟨p, rfl, hk0, _, _⟩ := key_at (hro.grown S10.bel) hCo hil
    refine ⟨_, by rw [Int.toNat_natCast]; exact hk0, S10.draw fun w11 _ S11 => ?_⟩
    have nok : ¬ (∃ (i : Nat) (hi : i < q.it.length), q.od[m].1 = i ∧ placeOf q.it q.it[i].1 = some i) → Value.bool false = .bool (smallQ q) ∧ Below w.heap.size w w11 := fun h => no _ S11 fun hh => h (rightK_iff.1 (hh.2.2.2 _ (List.getElem_mem hil)))
    refine IFB_dec (fun h => nok ?_) (fun h1 => ⟨_, _, _, S11.cell 0 rfl rfl, IFB_dec (fun h => nok ?_) (fun h2 => ⟨_, _, _, S11.cell 0 rfl rfl, _, _, _, S11.cell 0 rfl rfl, ⟨by omega, by omega⟩, ?_⟩)⟩)
    · rintro ⟨i, hi, he, _⟩; omega
    · rintro ⟨i, hi, he, _⟩; omega
    obtain ⟨i2, hi2⟩ : ∃ i : Nat, q.od[m].1 = i := ⟨q.od[m].1.toNat, by omega⟩
    have hil2 : i2 < q.it.length := by omega
    obtain ⟨p2, rfl, hc⟩ := it_name (hri.grown S11.bel) hCi hil2
    refine ⟨_, by rw [hi2, Int.toNat_natCast]; exact hc, (ref11_place_ok (hri.grown S11.bel) hCi Q.nit _).mono ?_⟩
    rintro _ w12 ⟨_, rfl, rfl, rfl⟩
    refine ⟨_, rfl, IFB_ne (fun h => nok ?_) (fun h => ?_)⟩
    · rintro ⟨i3, hi3, he, hp⟩
      obtain rfl : i3 = i2 := by omega
      exact h (by rw [hp, hi2]; rfl)
    · rw [wrap_succ (by omega)]
      refine ⟨⟨m + 1, rfl, by omega, ?_, S11⟩, ?_⟩
      · intro k hk
        rw [List.take_succ_eq_append_getElem hil] at hk
        rcases List.mem_append.1 hk with hk | hk
        · exact hallk k hk
        · rw [List.mem_singleton.1 hk]
          exact rightK_iff.2 ⟨i2, hil2, hi2, placeOf_eq.1 (by rw [h, hi2])⟩
      · show q.od.length - ((m + 1 : Nat) : Int).toNat < q.od.length - ((m : Nat) : Int).toNat
        simp only [Int.toNat_natCast]
        omega
  · rw [List.take_of_length_le (by omega)] at hallk
    exact ⟨by rw [small_yes nums hits hexs hallk], S10.bel⟩
end
end Go.Proofs.YtbpdfpfgijhokaaGreatDoor
namespace Go.Dn
set_option linter.unusedVariables false
set_option maxRecDepth 100000
theorem SH.v3 {F : Nat → Prop} {w0 w : World} {H : List Ent} (S : SH F w0 w H) (n : Nat) {b : Nat} {x y : Int} {s : ByteArray} {t : TypeId} (hn : H[n]? = some (b, #[.int .i64 x, .int .i64 y, .string s], t)) {Q : Int → Int → ByteArray → Prop} (h : Q x y s) :
    ∃ a : Int, w.cell? ⟨b, 0, none⟩ = some (.int .i64 a) ∧ ∃ c : Int, w.cell? ⟨b, 1, none⟩ = some (.int .i64 c) ∧ ∃ d : ByteArray, w.cell? ⟨b, 2, none⟩ = some (.string d) ∧ Q a c d :=
  ⟨x, S.cell n hn rfl, y, S.cell n hn rfl, s, S.cell n hn rfl, h⟩
end Go.Dn
namespace Go.Proofs.YtbpdfpfgijhokaaGreatDoor
set_option maxRecDepth 100000
open Go.Dn Go.Proofs
open Go.RowKit (Below)
set_option linter.unusedVariables false
theorem sget_nat {s : ByteArray} {k : Nat} (hk : k < (bl s).length) : sget s k = (bl s)[k] := by
  rw [sget_eq]
  simp [List.getD, hk]
theorem sget_byte {s : ByteArray} {k : Nat} (hk : k < (bl s).length) : Value.int .u8 ((sget s k).toNat : Int) = byteV (bl s)[k] := by
  rw [sget_nat hk]
  rfl
theorem u8_39 {c : UInt8} : ((c.toNat : Int) = 39) ↔ c = 39 := by
  constructor
  · intro h
    apply UInt8.toNat_inj.1
    have : (39 : UInt8).toNat = 39 := rfl
    omega
  · intro h; subst h; rfl
/-! ### quoted -/
/-! ### Digits -/
theorem nDigits_mono : ∀ (n m : Nat), m ≤ n → Lib.nDigits m ≤ Lib.nDigits n := by
  intro n
  induction n using Nat.strongRecOn with
  | _ n ih =>
    intro m h
    by_cases hm : m < 10
    · rw [Lib.nDigits_small hm]; exact Lib.nDigits_pos n
    · have hn : ¬ n < 10 := by omega
      rw [Lib.nDigits_big hm, Lib.nDigits_big hn]
      have := ih (n / 10) (by omega) (m / 10) (by omega)
      omega
def tTrue : List UInt8 := [116, 114, 117, 101]
def tFalse : List UInt8 := [102, 97, 108, 115, 101]
theorem fmt_true : Lib.formatBool true = tTrue := by decide
theorem fmt_false : Lib.formatBool false = tFalse := by decide
theorem NewB.appended {w w1 w2 w3 : World} {l m : List UInt8} {a a' : Option Addr} {c c' : Nat} (h : NewB w w1 l a c) (hb : Below w1.heap.size w1 w2) (R : Row w3 ty.uint8 1 a' m.length c' (m.map byteV)) (K : Keeps (fun k => rowB a = some k) w2 w3) (N : ∀ k, rowB a' = some k → rowB a = some k ∨ w2.heap.size ≤ k) : NewB w w3 m a' c' := by
  have h2 := h.grown hb
  refine ⟨R, fun k hk => ?_, h2.bel.trans (K.below h2.bel.size fun k hk he => by have := h2.new k he; omega)⟩
  rcases N k hk with hh | hh
  · exact h2.new k hh
  · exact Nat.le_trans h2.bel.size hh
theorem nDigits_19 {u : Nat} (h : u ≤ 9223372036854775808) : Lib.nDigits u ≤ 19 := by
  have h1 := nDigits_mono 9223372036854775808 u h
  have h2 := Lib.nDigits_unique 18 9223372036854775808 (by decide) (by decide)
  omega
theorem ref_Digits_ok (w : World) (n : Int) (h1 : -9223372036854775808 ≤ n) (h2 : n ≤ 9223372036854775807) : Calls Tryz.prog f.ref04_Digits #[.int .i64 n] w (Ret fun r w' => r = .string (sof (Lib.itoa n)) ∧ Below w.heap.size w w') := by
  apply R.ref04_Digits_calls
  unfold R.ref04_Digits
  obtain ⟨m, hm, hm1, hm2⟩ : ∃ m : Nat, m ≤ 9223372036854775808 ∧ (n < 0 → n = -(m : Int)) ∧ (¬ n < 0 → n = m) := ⟨n.natAbs, by omega, by omega, by omega⟩
  refine ⟨fun s w1 => s = [.int .u64 (m : Int)] ∧ w1 = w, ?_, ?_⟩
  · refine IFB_dec (fun h => ⟨?_, rfl⟩) (fun h => ⟨?_, rfl⟩)
    · have := hm1 h
      have e : IntKind.u64.wrap (0 - IntKind.u64.wrap n) = (m : Int) := by rw [wrap_u64, wrap_u64]; omega
      rw [e]
    · have := hm2 h
      rw [wrap_u64_id (by omega) (by omega), this]
  rintro _ w1 ⟨hs, rfl⟩
  cases hs
  refine ⟨fun st w2 => ∃ (l : List UInt8) (q : Nat), st = [.string (sof l), .int .u64 (q : Int)] ∧ q ≤ 9223372036854775808 ∧ Lib.decDigits m = (if q = 0 ∧ l ≠ [] then [] else Lib.decDigits q) ++ l ∧ Below w1.heap.size w1 w2,
    fun st _ => match st with
      | [.string s, .int _ i] => i.toNat + (if s.size = 0 then 1 else 0)
      | _ => 0, ⟨[], m, rfl, hm, by simp, .refl _ _⟩, ?_⟩
  rintro _ _ w2 ⟨l, q, hst, hq, hl, B2⟩
  cases hst
  have hlen : l.length ≤ 19 := by
    have := congrArg List.length hl
    rw [Lib.decDigits_length, List.length_append] at this
    have := nDigits_19 hm
    omega
  rw [bytesEq_iff]
  refine ⟨fun _ w3 => w3 = w2 ∧ ¬ (q = 0 ∧ l ≠ []), ?_, ?_⟩
  · refine IFB_dec (fun h => ⟨rfl, ?_⟩) (fun h => IFB_dec (fun hp => ⟨rfl, by omega⟩) (fun hp => ?_))
    · have : l = [] := by have := congrArg bl h; rw [bl_sof] at this; exact this
      rintro ⟨_, hh⟩; exact hh this
    · have hl0 : l ≠ [] := fun e => h (by rw [e]; rfl)
      have hq0 : q = 0 := by omega
      rw [if_pos ⟨hq0, hl0⟩, List.nil_append] at hl
      refine IFB_dec (fun hn => ?_) (fun hn => ?_)
      · refine ⟨by rw [size_sof]; show 1 + _ ≤ _; omega, ?_, B2⟩
        rw [show (ByteArray.mk #[45]) = sof [45] from rfl, sof_append]
        congr 2
        unfold Lib.itoa
        rw [if_pos hn]
        have : n.natAbs = m := by have := hm1 hn; omega
        rw [this, hl]
        rfl
      · refine ⟨?_, B2⟩
        congr 2
        unfold Lib.itoa
        rw [if_neg hn]
        have : n.toNat = m := by have := hm2 hn; omega
        rw [this, hl]
  rintro w3 ⟨rfl, hno⟩
  rw [if_neg hno] at hl
  have e1 : IntKind.u8.wrap (IntKind.u64.wrap (48 + Int.tmod (q : Int) 10)) = ((48 + q % 10 : Nat) : Int) := by
    rw [Int.tmod_eq_emod_of_nonneg (by omega), wrap_u64_id (by omega) (by omega), wrap_u8_id (by omega) (by omega)]
    omega
  have e2 : IntKind.u64.wrap (Int.tdiv (q : Int) 10) = ((q / 10 : Nat) : Int) := by rw [Int.tdiv_eq_ediv_of_nonneg (by omega), wrap_u64_id (by omega) (by omega)]; omega
  rw [e1, e2]
  refine ((SH.start (fun _ => False) w1).grown B2).newB fun b8 w4 hb8 B4 S4 => string_of_bytes (l := [UInt8.ofNat (48 + q % 10)]) tbytes rfl (by have := Rd.of_block0 (S4.get 0 rfl); rw [byteV_of (by omega)] at this; simpa using this) ⟨_, rfl, by rw [size_sof, size_sof]; simp; omega, ?_⟩
  rw [sof_append]
  refine ⟨⟨[UInt8.ofNat (48 + q % 10)] ++ l, q / 10, rfl, by omega, ?_, S4.below⟩, ?_⟩
  · rw [hl]
    by_cases hq10 : q < 10
    · rw [if_pos ⟨by omega, by simp⟩, Lib.decDigits_one hq10, Nat.mod_eq_of_lt hq10]
      rfl
    · rw [if_neg (by omega)]
      conv => lhs; rw [Lib.decDigits, dif_neg hq10]
      simp
  · simp only [Int.toNat_natCast, size_sof]
    have : ([UInt8.ofNat (48 + q % 10)] ++ l).length = l.length + 1 := by simp
    rw [this, if_neg (by omega)]
    by_cases hl0 : l.length = 0
    · rw [if_pos hl0]; omega
    · rw [if_neg hl0]
      have : ¬ q = 0 := fun e => hno ⟨e, fun e2 => hl0 (by rw [e2]; rfl)⟩
      omega
theorem quoteL_append (a b : List UInt8) : quoteL (a ++ b) = quoteL a ++ quoteL b := by simp [quoteL]
theorem ref_Show_ok (w : World) (v : Val) (hv : ValOk v) : Calls Tryz.prog f.ref04_Show #[valV v] w (Ret fun r w' => r = showV v ∧ Below w.heap.size w w') := by
  apply R.ref04_Show_calls
  unfold R.ref04_Show
  refine (SH.start (fun _ => True) w).newB fun b4 w1 hb4 B1 S1 => S1.v3 0 rfl ((ref04_Right_ok w1 v).mono ?_)
  rintro _ w2 ⟨_, rfl, rfl, B2⟩
  have S2 := S1.grown B2
  have B2' := below_trans B1 B2
  refine ⟨_, rfl, IFB_not (IFB_of (fun hr => ?_) (fun hr => ⟨by simp [showV, hr], B2'⟩))⟩
  have hk := right_kind hr
  have out : ∀ l, showL v = l → Value.tuple #[.string (sof l), .int .i64 0] = showV v := fun l hl => by simp [showV, hr, hl]
  refine ⟨_, S2.cell 0 rfl rfl, IFB_eq (fun h => ⟨out [110, 117, 108, 108] (by simp [showL, h]), B2'⟩) (fun h0 => IFB_eq (fun h => ⟨_, S2.cell 0 rfl rfl, ?_⟩) (fun h1 => IFB_eq (fun h => ⟨_, S2.cell 0 rfl rfl, ?_⟩) (fun h2 => ?_)))⟩
  · refine (ref_Digits_ok w2 v.2.1 hv.lo hv.hi).mono ?_
    rintro _ w3 ⟨_, rfl, rfl, B3⟩
    exact ⟨_, rfl, out (Lib.itoa v.2.1) (by simp [showL, h]), below_trans B2' B3⟩
  · refine IFB_eq (fun hb => ⟨out tTrue ?_, B2'⟩) (fun hb => ⟨out tFalse ?_, B2'⟩)
    · unfold showL
      rw [if_neg (by omega), if_neg (by omega), if_pos h, hb]
      exact fmt_true
    · unfold showL
      have : (v.2.1 == 1) = false := by simpa using hb
      rw [if_neg (by omega), if_neg (by omega), if_pos h, this]
      exact fmt_false
  · have hsz : v.2.2.size ≤ 1024 := by omega
    have hbl := bl_length v.2.2
    rw [← hbl] at hsz
    refine S2.newB fun b15 w4 hb15 B4 S4 => append_byte (l := []) (Row.nil w4 ty.uint8 1) (by simp) (x := 39) rfl (S4.get 0 rfl) fun a5 c5 w5 R5 K5 N5 => ⟨_, _, _, rfl, ?_⟩
    have hw4 : NewB w4 w4 [] none 0 := ⟨Row.nil _ _ _, by simp [rowB], .refl _ _⟩
    have h5 : NewB w4 w5 [39] a5 c5 := hw4.appended (.refl _ _) R5 K5 N5
    have B4' := below_trans B2' B4
    have hb4lt : b4 < w4.heap.size := S4.lt (List.mem_cons_of_mem _ (List.mem_singleton.2 rfl))
    have S4' : SH (fun _ => True) w w4 [(b4, #[.int .i64 v.1, .int .i64 v.2.1, .string v.2.2], ty.api_Value)] := S4.drop 1
    have far : ∀ {w1 w2 : World} {ar : Option Addr}, SH (fun _ => True) w w1 [(b4, #[.int .i64 v.1, .int .i64 v.2.1, .string v.2.2], ty.api_Value)] → Keeps (fun k => rowB ar = some k) w1 w2 → (∀ k, rowB ar = some k → w4.heap.size ≤ k) → SH (fun _ => True) w w2 [(b4, #[.int .i64 v.1, .int .i64 v.2.1, .string v.2.2], ty.api_Value)] := by
      intro w1 w2 ar S K hr
      refine S.kept K (fun x hx he => ?_) (fun _ _ _ => trivial)
      simp only [List.mem_singleton] at hx
      subst hx
      have := hr _ he
      simp only at *
      omega
    have S5 := far S4' K5 (by simp [rowB])
    refine ⟨fun st w6 => ∃ (k : Nat) (a : Option Addr) (c : Nat) (l : List UInt8), st = [.slice a l.length c, .int .i64 (k : Int)] ∧ k ≤ (bl v.2.2).length ∧ l = 39 :: quoteL ((bl v.2.2).take k) ∧ NewB w4 w6 l a c ∧ SH (fun _ => True) w w6 [(b4, #[.int .i64 v.1, .int .i64 v.2.1, .string v.2.2], ty.api_Value)],
      fun st _ => match st with
        | [_, .int _ i] => (bl v.2.2).length - i.toNat
        | _ => 0, ⟨0, a5, c5, [39], rfl, by omega, rfl, h5, S5⟩, ?_⟩
    rintro a6 _ c6 _ w6 ⟨k, _, _, l, hst, hk6, hl, h6, S6⟩
    cases hst
    have hll : l.length ≤ 2 * k + 1 := by
      rw [hl]
      have := quoteL_len ((bl v.2.2).take k)
      rw [List.length_take] at this
      simp only [List.length_cons]
      omega
    refine ⟨_, S6.cell 0 rfl rfl, ?_⟩
    rw [← hbl]
    refine IFB_dec (fun hlt => ⟨_, S6.cell 0 rfl rfl, ⟨by omega, by rw [← hbl]; exact hlt⟩, ?_⟩) (fun hge => ?_)
    · have hkl : k < (bl v.2.2).length := by omega
      rw [Int.toNat_natCast]
      refine S6.newB fun b28 w10 hb28 B10 S10 => append_byte (h6.grown B10).row (by omega) (sget_byte hkl) (S10.get 0 rfl) fun a11 c11 w11 R11 K11 N11 => ⟨_, _, _, rfl, ?_⟩
      have h11 := h6.appended B10 R11 K11 N11
      have S11 := far (S6.grown B10) K11 h6.new
      refine ⟨_, S11.cell 0 rfl rfl, ⟨by omega, by rw [← hbl]; exact hlt⟩, ?_⟩
      rw [sget_nat hkl]
      have htk : (bl v.2.2).take (k + 1) = (bl v.2.2).take k ++ [(bl v.2.2)[k]] := by rw [List.take_succ_eq_append_getElem hkl]
      refine IFB_eq (fun he => ?_) (fun hne => ?_)
      · have hc := u8_39.1 he
        refine S11.newB fun b32 w12 hb32 B12 S12 => append_byte (h11.grown B12).row (by simp; omega) (x := 39) rfl (S12.get 0 rfl) fun a13 c13 w13 R13 K13 N13 => ⟨_, _, _, rfl, ?_⟩
        have h13 := h11.appended B12 R13 K13 N13
        rw [wrap_succ (by omega)]
        refine ⟨⟨k + 1, a13, c13, _, rfl, by omega, ?_, h13, far (S11.grown B12) K13 h11.new⟩, ?_⟩
        · rw [hl, htk, quoteL_append, hc]
          simp [quoteL]
        · simp only [Int.toNat_natCast]
          omega
      · have hc : (bl v.2.2)[k] ≠ 39 := fun e => hne (u8_39.2 e)
        rw [wrap_succ (by omega)]
        refine ⟨⟨k + 1, a11, c11, _, rfl, by omega, ?_, h11, S11⟩, ?_⟩
        · rw [hl, htk, quoteL_append]
          simp [quoteL, hc]
        · simp only [Int.toNat_natCast]
          omega
    · have hke : k = (bl v.2.2).length := by omega
      refine S6.newB fun b22 w7 hb22 B7 S7 => append_byte (h6.grown B7).row (by omega) (x := 39) rfl (S7.get 0 rfl) fun a8 c8 w8 R8 K8 N8 => ⟨_, _, _, rfl, ?_⟩
      have h8 := h6.appended B7 R8 K8 N8
      refine string_of_bytes tbytes rfl h8.rd ⟨_, rfl, out _ ?_, below_trans B4' h8.bel⟩
      unfold showL
      rw [if_neg h0, if_neg h1, if_neg h2, hl, hke, List.take_length]
/-! ### the program's Parse -/
end Go.Proofs.YtbpdfpfgijhokaaGreatDoor
namespace Go.Proofs.YtbpdfpfgijhokaaGreatDoor
set_option maxRecDepth 100000
open Go.Dn Go.Proofs
open Go.RowKit (Below)
set_option linter.unusedVariables false
/-! ### signs, rows -/
def powers : List (Int × Int × ByteArray) := [(1, 13, ⟨#[111, 114]⟩), (2, 12, ⟨#[97, 110, 100]⟩), (5, 9, ⟨#[61]⟩), (5, 10, ⟨#[60]⟩), (5, 11, ⟨#[60, 61]⟩), (6, 3, ⟨#[43]⟩), (6, 4, ⟨#[45]⟩), (7, 5, ⟨#[42]⟩), (7, 6, ⟨#[47]⟩), (7, 7, ⟨#[37]⟩)]
def powAt (i : Nat) : Int × Int × ByteArray := powers.getD i (0, 0, E0)
theorem query_power_ok (w : World) (i : Nat) (hi : i < 10) : Calls Tryz.prog f.query_power #[.agg #[.int .i64 0, .int .i64 0, .string (powAt i).2.2]] w (Ret fun r w' => r = .tuple #[.int .i64 (powAt i).1, .int .i64 (powAt i).2.1] ∧ Below w.heap.size w w') := by
  apply R.query_power_calls
  unfold R.query_power
  refine (ST.start w).newB fun b4 w1 _ _ S1 => ⟨_, S1.cell 0 rfl rfl, ?_⟩
  refine IFB_eq (fun h => absurd h (by decide)) (fun _ => ⟨_, S1.cell 0 rfl rfl, ?_⟩)
  simp only [bytesEq_iff]
  match i, hi with
  | 0, _ => exact ⟨rfl, S1.bel⟩
  | 1, _ => exact ⟨rfl, S1.bel⟩
  | 2, _ => exact ⟨rfl, S1.bel⟩
  | 3, _ => exact ⟨rfl, S1.bel⟩
  | 4, _ => exact ⟨rfl, S1.bel⟩
  | 5, _ => exact ⟨rfl, S1.bel⟩
  | 6, _ => exact ⟨rfl, S1.bel⟩
  | 7, _ => exact ⟨rfl, S1.bel⟩
  | 8, _ => exact ⟨rfl, S1.bel⟩
  | 9, _ => exact ⟨rfl, S1.bel⟩
theorem pow_row {op : Int} (h : 3 ≤ op ∧ op ≤ 13 ∧ op ≠ 8) : ∃ i, i < 10 ∧ (powAt i).2.1 = op ∧ (powAt i).1 = rowOf op ∧ (powAt i).2.2 = signOf op ∧ ∀ j, j < i → (powAt j).2.1 ≠ op := by
  obtain ⟨n, rfl⟩ : ∃ n : Nat, op = n := ⟨op.toNat, by omega⟩
  obtain ⟨h1, h2, h3⟩ := h
  have hn : n = 3 ∨ n = 4 ∨ n = 5 ∨ n = 6 ∨ n = 7 ∨ n = 9 ∨ n = 10 ∨ n = 11 ∨ n = 12 ∨ n = 13 := by omega
  have two : ∀ (i : Nat), (∀ j, j < i → (powAt j).2.1 ≠ (powAt i).2.1) ↔ (∀ j ∈ List.range i, (powAt j).2.1 ≠ (powAt i).2.1) := fun i => by simp
  rcases hn with rfl | rfl | rfl | rfl | rfl | rfl | rfl | rfl | rfl | rfl
  · exact ⟨5, by decide, rfl, rfl, rfl, (two 5).2 (by decide)⟩
  · exact ⟨6, by decide, rfl, rfl, rfl, (two 6).2 (by decide)⟩
  · exact ⟨7, by decide, rfl, rfl, rfl, (two 7).2 (by decide)⟩
  · exact ⟨8, by decide, rfl, rfl, rfl, (two 8).2 (by decide)⟩
  · exact ⟨9, by decide, rfl, rfl, rfl, (two 9).2 (by decide)⟩
  · exact ⟨2, by decide, rfl, rfl, rfl, (two 2).2 (by decide)⟩
  · exact ⟨3, by decide, rfl, rfl, rfl, (two 3).2 (by decide)⟩
  · exact ⟨4, by decide, rfl, rfl, rfl, (two 4).2 (by decide)⟩
  · exact ⟨1, by decide, rfl, rfl, rfl, (two 1).2 (by decide)⟩
  · exact ⟨0, by decide, rfl, rfl, rfl, (two 0).2 (by decide)⟩
theorem query_operator_ok (w : World) {op : Int} (h : 3 ≤ op ∧ op ≤ 13 ∧ op ≠ 8) : Calls Tryz.prog f.query_operator #[.int .i64 op] w (Ret fun r w' => r = .tuple #[.int .i64 (rowOf op), .string (signOf op)] ∧ Below w.heap.size w w') := by
  apply R.query_operator_calls
  unfold R.query_operator
  obtain ⟨n, hn, e1, e2, e3, hmin⟩ := pow_row h
  refine (ST.start w).newB fun b2 w1 _ _ S1 => ⟨fun st w2 => ∃ i : Nat, st = [.int .i64 (i : Int)] ∧ i ≤ n ∧ Below w.heap.size w w2 ∧ w2.heap[b2]? = w1.heap[b2]?, fun st _ => match st with | [.int _ q] => 10 - q.toNat | _ => 0, ⟨0, rfl, by omega, S1.bel, rfl⟩, ?_⟩
  rintro q w2 ⟨i, hst, hi, B2, hb⟩
  cases hst
  have hi10 : i < 10 := by omega
  have hblk : w2.heap[b2]? = some (.cells (powers.map fun p => Value.string p.2.2).toArray ty.string (0, 0)) := hb.trans (S1.blk 0 rfl)
  refine IFB_dec (fun hlt => ⟨⟨by omega, hlt⟩, (powAt i).2.2, ?_, ?_⟩) (fun hge => absurd (show (i : Int) < 10 by omega) hge)
  · rw [addr_add_blk, Int.toNat_natCast, Nat.mul_one, Nat.zero_add]
    have hl : i < powers.length := hi10
    simp only [World.cell?, hblk]
    simp [powAt, hl, List.getD_eq_getElem?_getD]
  refine (query_power_ok w2 i hi10).mono ?_
  rintro _ w3 ⟨_, rfl, rfl, B3⟩
  refine ⟨_, _, rfl, IFB_eq (fun he => ?_) (fun he => ?_)⟩
  · have : i = n := by
      rcases Nat.lt_or_ge i n with h' | h'
      · exact absurd he (hmin i h')
      · omega
    subst this
    exact ⟨by rw [e2, e3], below_trans B2 B3⟩
  · have hin : i < n := by
      rcases Nat.lt_or_ge i n with h' | h'
      · exact h'
      · obtain rfl : i = n := by omega
        exact absurd e1 he
    rw [wrap_succ (by omega)]
    refine ⟨⟨i + 1, rfl, by omega, below_trans B2 B3, ?_⟩, ?_⟩
    · rw [B3.block b2 (Array.getElem?_eq_some_iff.1 hblk).1, hb]
    · show 10 - ((i + 1 : Nat) : Int).toNat < 10 - ((i : Nat) : Int).toNat
      simp only [Int.toNat_natCast]
      omega
theorem ref11_sign_ok (w : World) {op : Int} (h : 3 ≤ op ∧ op ≤ 13 ∧ op ≠ 8) : Calls Tryz.prog f.ref11_sign #[.int .i64 op] w (Ret fun r w' => r = .string (⟨#[32]⟩ ++ signOf op ++ ⟨#[32]⟩) ∧ w' = w) := by
  apply R.ref11_sign_calls
  unfold R.ref11_sign
  refine IFB_eq (fun h1 => ⟨by subst h1; rfl, rfl⟩) (fun g1 => IFB_eq (fun h1 => ⟨by subst h1; rfl, rfl⟩) (fun g2 => IFB_eq (fun h1 => ⟨by subst h1; rfl, rfl⟩) (fun g3 => IFB_eq (fun h1 => ⟨by subst h1; rfl, rfl⟩) (fun g4 => IFB_eq (fun h1 => ⟨by subst h1; rfl, rfl⟩) (fun g5 => IFB_eq (fun h1 => ⟨by subst h1; rfl, rfl⟩) (fun g6 => IFB_eq (fun h1 => ⟨by subst h1; rfl, rfl⟩) (fun g7 => IFB_eq (fun h1 => ⟨by subst h1; rfl, rfl⟩) (fun g8 => IFB_eq (fun h1 => ⟨by subst h1; rfl, rfl⟩) (fun g9 => ⟨?_, rfl⟩)))))))))
  obtain rfl : op = 7 := by omega
  rfl
theorem ref11_level_ok {w : World} {x : Ex} {a : Option Addr} {cap : Nat} : Calls Tryz.prog f.ref11_level #[.agg ⟨exHead x a cap⟩] w (Ret fun r w' => r = .int .i64 x.lvl ∧ Below w.heap.size w w') := by
  apply R.ref11_level_calls
  unfold R.ref11_level
  refine (ST.start w).newB fun b7 w1 _ _ S1 => ⟨_, S1.cell 0 rfl rfl, ?_⟩
  have lv : ∀ {n : Int}, (¬ x.op = 2) → rowOf x.op = n → Value.int .i64 n = .int .i64 (x.lvl) ∧ Below w.heap.size w w1 := fun h1 h2 => ⟨by
    show _ = Value.int .i64 (lvlOf x.op x.v)
    unfold lvlOf
    rw [if_neg fun h => h1 h.1, h2], S1.bel⟩
  refine IFB_eq (fun h => lv (by omega) (by rw [h]; rfl)) (fun g13 => IFB_eq (fun h => lv (by omega) (by rw [h]; rfl)) (fun g12 => IFB_eq (fun h => lv (by omega) (by rw [h]; rfl)) (fun g14 => IFB_eq (fun h => lv (by omega) (by rw [h]; rfl)) (fun g15 => ?_))))
  refine ⟨fun st w2 => st = [.bool (decide (x.op = 9 ∨ x.op = 10 ∨ x.op = 11))] ∧ w2 = w1, IFB_eq (fun h => ⟨by simp [h], rfl⟩) (fun h => IFB_eq (fun h2 => ⟨by simp [h2], rfl⟩) (fun h2 => ⟨by congr 2; rw [Bool.eq_iff_iff]; simp [h, h2], rfl⟩)), ?_⟩
  rintro t w2 ⟨ht, rfl⟩
  obtain rfl : t = decide (x.op = 9 ∨ x.op = 10 ∨ x.op = 11) := by simpa using ht
  refine IFB_dec (fun h => lv (by omega) (by rcases h with h | h | h <;> (rw [h]; rfl))) (fun g9 => ?_)
  refine ⟨fun st w3 => st = [.bool (decide (x.op = 3 ∨ x.op = 4))] ∧ w3 = w2, IFB_eq (fun h => ⟨by simp [h], rfl⟩) (fun h => ⟨by congr 2; rw [Bool.eq_iff_iff]; simp [h], rfl⟩), ?_⟩
  rintro t w3 ⟨ht, rfl⟩
  obtain rfl : t = decide (x.op = 3 ∨ x.op = 4) := by simpa using ht
  refine IFB_dec (fun h => lv (by omega) (by rcases h with h | h <;> (rw [h]; rfl))) (fun g3 => ?_)
  refine ⟨fun st w4 => st = [.bool (decide (x.op = 5 ∨ x.op = 6 ∨ x.op = 7))] ∧ w4 = w3, IFB_eq (fun h => ⟨by simp [h], rfl⟩) (fun h => IFB_eq (fun h2 => ⟨by simp [h2], rfl⟩) (fun h2 => ⟨by congr 2; rw [Bool.eq_iff_iff]; simp [h, h2], rfl⟩)), ?_⟩
  rintro t w4 ⟨ht, rfl⟩
  obtain rfl : t = decide (x.op = 5 ∨ x.op = 6 ∨ x.op = 7) := by simpa using ht
  have r9 : ¬ (x.op = 5 ∨ x.op = 6 ∨ x.op = 7) → ¬ x.op = 8 → rowOf x.op = 9 := fun g5 g8 => by
    unfold rowOf
    rw [if_neg g13, if_neg g12, if_neg g14, if_neg g15, if_neg g9, if_neg g3, if_neg g5, if_neg g8]
  refine IFB_dec (fun h => lv (by omega) (by rcases h with h | h | h <;> (rw [h]; rfl))) (fun g5 => IFB_eq (fun h => lv (by omega) (by rw [h]; rfl)) (fun g8 => IFB_eq (fun h2 => ⟨_, S1.cell 0 rfl rfl, IFB_dec (fun h0 => ⟨?_, S1.bel⟩) (fun h0 => ⟨?_, S1.bel⟩)⟩) (fun h2 => ⟨?_, S1.bel⟩)))
  · show _ = Value.int .i64 (lvlOf x.op x.v)
    unfold lvlOf
    rw [if_pos ⟨h2, h0⟩]
  · show _ = Value.int .i64 (lvlOf x.op x.v)
    unfold lvlOf
    rw [if_neg fun h => h0 h.2, r9 g5 g8]
  · show _ = Value.int .i64 (lvlOf x.op x.v)
    unfold lvlOf
    rw [if_neg fun h => h2 h.1, r9 g5 g8]
end Go.Proofs.YtbpdfpfgijhokaaGreatDoor
namespace Go.Proofs.YtbpdfpfgijhokaaGreatDoor
set_option maxRecDepth 100000
open Go.Dn Go.Proofs
open Go.RowKit (Below)
set_option linter.unusedVariables false
section
variable {op : Int} {nm : ByteArray} {v : Val} {k k' : Ex}
theorem text_col : (Ex.mk 1 nm v []).text = nm := by show nodeT 1 nm v (Ex.texts []) = _; unfold nodeT; rw [if_pos rfl]
theorem text_const : (Ex.mk 2 nm v []).text = sof (showL v) := by show nodeT 2 nm v (Ex.texts []) = _; unfold nodeT; rw [if_neg (by decide), if_pos rfl]
theorem text_len : (Ex.mk 16 nm v [k]).text = ⟨#[108, 101, 110, 40]⟩ ++ k.text ++ ⟨#[41]⟩ := by
  show nodeT 16 nm v (Ex.texts [k]) = _
  unfold nodeT
  rw [if_neg (by decide), if_neg (by decide), if_pos rfl, ← at_one k]
  rfl
theorem text_not : (Ex.mk 14 nm v [k]).text = ⟨#[110, 111, 116, 32]⟩ ++ k.at 3 := by
  show nodeT 14 nm v (Ex.texts [k]) = _
  unfold nodeT
  rw [if_neg (by decide), if_neg (by decide), if_neg (by decide), if_pos rfl]
  rfl
theorem text_null : (Ex.mk 15 nm v [k]).text = k.at 5 ++ ⟨#[32, 105, 115, 32, 110, 117, 108, 108]⟩ := by
  show nodeT 15 nm v (Ex.texts [k]) = _
  unfold nodeT
  rw [if_neg (by decide), if_neg (by decide), if_neg (by decide), if_neg (by decide), if_pos rfl]
  rfl
theorem text_neg : (Ex.mk 8 nm v [k]).text = if isNum k.op k.v = true then ⟨#[45, 40]⟩ ++ k.text ++ ⟨#[41]⟩ else ⟨#[45]⟩ ++ k.at 8 := by
  show nodeT 8 nm v (Ex.texts [k]) = _
  unfold nodeT
  rw [if_neg (by decide), if_neg (by decide), if_neg (by decide), if_neg (by decide), if_neg (by decide), if_pos rfl, ← at_one k]
  rfl
theorem text_two (h : 3 ≤ op ∧ op ≤ 13 ∧ op ≠ 8) : (Ex.mk op nm v [k, k']).text = k.at (leftNeed op) ++ ⟨#[32]⟩ ++ signOf op ++ ⟨#[32]⟩ ++ k'.at (rowOf op + 1) := by
  simp only [Ex.text, nodeT]
  rw [if_neg (by omega), if_neg (by omega), if_neg (by omega), if_neg (by omega), if_neg (by omega), if_neg (by omega)]
  rfl
end
theorem row_range (op : Int) : 1 ≤ rowOf op ∧ rowOf op ≤ 9 := by
  unfold rowOf
  by_cases h1 : op = 13
  · rw [if_pos h1]; omega
  rw [if_neg h1]
  by_cases h2 : op = 12
  · rw [if_pos h2]; omega
  rw [if_neg h2]
  by_cases h3 : op = 14
  · rw [if_pos h3]; omega
  rw [if_neg h3]
  by_cases h4 : op = 15
  · rw [if_pos h4]; omega
  rw [if_neg h4]
  by_cases h5 : op = 9 ∨ op = 10 ∨ op = 11
  · rw [if_pos h5]; omega
  rw [if_neg h5]
  by_cases h6 : op = 3 ∨ op = 4
  · rw [if_pos h6]; omega
  rw [if_neg h6]
  by_cases h7 : op = 5 ∨ op = 6 ∨ op = 7
  · rw [if_pos h7]; omega
  rw [if_neg h7]
  by_cases h8 : op = 8
  · rw [if_pos h8]; omega
  rw [if_neg h8]; omega
theorem fair_size {x : Ex} {d : Nat} (h : x.fair d) (hs : x.size ≤ 400) : x.text.size ≤ 840000 := by
  have := text_size x d h
  omega
theorem atS {x : Ex} {d : Nat} (h : x.fair d) (hs : x.size ≤ 400) (need : Int) : (x.at need).size ≤ 840002 := by
  have := at_size x need
  have := fair_size h hs
  omega
def TextOk (x : Ex) : Prop := ∀ (w : World) (a : Option Addr) (cap : Nat), XC w x (exHead x a cap) → Calls Tryz.prog f.ref11_text #[.agg ⟨exHead x a cap⟩] w (Ret fun r w' => r = .string x.text ∧ Below w.heap.size w w')
theorem ref11_at_of {x : Ex} (ht : TextOk x) (hs : x.text.size ≤ 840000) {w : World} {a : Option Addr} {cap : Nat} (hx : XC w x (exHead x a cap)) (need : Int) : Calls Tryz.prog f.ref11_at #[.agg ⟨exHead x a cap⟩, .int .i64 need] w (Ret fun r w' => r = .string (x.at need) ∧ Below w.heap.size w w') := by
  apply R.ref11_at_calls
  unfold R.ref11_at
  refine (ST.start w).newB fun b8 w1 _ _ S1 => ⟨_, S1.cell 0 rfl rfl, _, S1.cell 0 rfl rfl, _, S1.cell 0 rfl rfl, _, S1.cell 0 rfl rfl, _, S1.cell 0 rfl rfl, _, _, _, S1.cell 0 rfl rfl, (ht w1 a cap (hx.grown S1.bel)).mono ?_⟩
  rintro _ w2 ⟨_, rfl, rfl, B2⟩
  have S2 := S1.grown B2
  refine ⟨_, rfl, _, S2.cell 0 rfl rfl, _, S2.cell 0 rfl rfl, _, S2.cell 0 rfl rfl, _, S2.cell 0 rfl rfl, _, S2.cell 0 rfl rfl, _, _, _, S2.cell 0 rfl rfl, (ref11_level_ok (x := x) (a := a) (cap := cap)).mono ?_⟩
  rintro _ w3 ⟨_, rfl, rfl, B3⟩
  have S3 := S2.grown B3
  have e1 : (ByteArray.mk #[40]).size = 1 := rfl
  have e2 : (ByteArray.mk #[41]).size = 1 := rfl
  refine ⟨_, rfl, IFB_dec (fun h => ⟨by omega, by simp only [ByteArray.size_append]; omega, ?_, S3.bel⟩) (fun h => ⟨?_, S3.bel⟩)⟩
  · unfold Ex.at wrapT; rw [if_pos h]; rfl
  · unfold Ex.at wrapT; rw [if_neg h]
theorem const_val {op : Int} {nm : ByteArray} {v : Val} {ks : List Ex} {d : Nat} (h : (Ex.mk op nm v ks).fair d) : ValOk v := by
  have := h.2.2
  unfold Ex.fit at this
  exact ⟨this.1.2.2.1.1, this.1.2.2.1.2⟩
theorem showV_right {v : Val} (h : rightB v = true) : showV v = .tuple #[.string (sof (showL v)), .int .i64 0] := by unfold showV; rw [if_pos h]
theorem ref11_text_ok : ∀ (x : Ex) (d : Nat), x.fair d → x.size ≤ 400 → TextOk x := by
  intro x
  induction x using Ex.ind with
  | h op nm v ks ih =>
    intro d hf hsz w a cap hx
    cases d with
    | zero => have := hf.1; simp [Ex.okA] at this
    | succ d =>
    obtain ⟨ho, hk⟩ := hf.kid
    have hv := const_val hf
    obtain ⟨rs, hrd, hkids, _⟩ := exHead_inj hx
    change ExL _ _ ks rs at hkids
    apply R.ref11_text_calls
    unfold R.ref11_text
    refine (ST.start w).newB fun b7 w1 _ _ S1 => ⟨_, S1.cell 0 rfl rfl, ?_⟩
    have e41 : (ByteArray.mk #[41]).size = 1 := rfl
    have e45 : (ByteArray.mk #[45]).size = 1 := rfl
    have e4540 : (ByteArray.mk #[45, 40]).size = 2 := rfl
    have elen : (ByteArray.mk #[108, 101, 110, 40]).size = 4 := rfl
    have enot : (ByteArray.mk #[110, 111, 116, 32]).size = 4 := rfl
    have eis : (ByteArray.mk #[32, 105, 115, 32, 110, 117, 108, 108]).size = 8 := rfl
    have e32 : (ByteArray.mk #[32]).size = 1 := rfl
    rcases okN_kids ho with ⟨hop, rfl⟩ | ⟨hop, k, rfl⟩ | ⟨hop, k, k', rfl⟩
    · rcases hop with rfl | rfl
      · exact IFB_eq (fun _ => ⟨_, S1.cell 0 rfl rfl, by rw [text_col]; rfl, S1.bel⟩) (fun h => absurd rfl h)
      · refine IFB_eq (fun h => absurd (show (2 : Int) = _ from h) (by decide)) (fun _ => IFB_eq (fun _ => ⟨_, S1.cell 0 rfl rfl, _, S1.cell 0 rfl rfl, _, S1.cell 0 rfl rfl, (ref_Show_ok w1 v hv).mono ?_⟩) (fun h => absurd rfl h))
        rintro _ w2 ⟨_, rfl, rfl, B2⟩
        rw [showV_right (v := v) (okN_iff.1 ho).2.2.2]
        exact ⟨_, _, rfl, by rw [text_const], (S1.grown B2).bel⟩
    · have hks : k.size ≤ 400 := by simp only [Ex.size, Ex.sizeL] at hsz; omega
      have hkf := hk k (by simp)
      have hkt := ih k (by simp) d hkf hks
      have hs := fair_size hkf hks
      obtain ⟨p, a3, cap3, rfl, hxk, c0, c1, c2, c3, c4, c5⟩ := ex_at (hrd.grown S1.bel) hkids (i := 0) (by simp)
      change XC w k (exHead k a3 cap3) at hxk
      rcases hop with rfl | rfl | rfl | rfl
      · refine IFB_eq (fun h => absurd (show (8 : Int) = _ from h) (by decide)) (fun _ => IFB_eq (fun h => absurd (show (8 : Int) = _ from h) (by decide)) (fun _ => IFB_eq (fun h => absurd (show (8 : Int) = _ from h) (by decide)) (fun _ => IFB_eq (fun h => absurd (show (8 : Int) = _ from h) (by decide)) (fun _ => IFB_eq (fun h => absurd (show (8 : Int) = _ from h) (by decide)) (fun _ => IFB_eq (fun _ => ?_) (fun h => absurd rfl h))))))
        refine ⟨_, _, _, S1.cell 0 rfl rfl, ⟨by decide, by show (0 : Int) < 1; decide⟩, _, c0, _, c1, _, c2, _, c3, _, c4, _, _, _, c5, S1.lit6 fun b54 w12 _ S12 => ⟨_, S12.cell 0 rfl rfl, ?_⟩⟩
        have a8 := atS hkf hks 8
        have lastc : ∀ (hn : isNum k.op k.v = false), Calls Tryz.prog f.ref11_at #[.agg ⟨exHead k a3 cap3⟩, .int .i64 8] w12 (fun e w14 => ∃ t : ByteArray, e = .returned (.string t) ∧ (ByteArray.size ⟨#[45]⟩) + t.size ≤ 9223372036854775807 ∧ (Value.string (⟨#[45]⟩ ++ t) = .string (Ex.mk 8 nm v [k]).text ∧ Below w.heap.size w w14)) := by
          intro hn
          refine (ref11_at_of hkt hs (hxk.grown S12.bel) 8).mono ?_
          rintro _ w14 ⟨_, rfl, rfl, B14⟩
          exact ⟨_, rfl, by omega, by rw [text_neg, if_neg (by rw [hn]; decide)], (S12.grown B14).bel⟩
        refine IFB_eq (fun h2 => ⟨_, S12.cell 0 rfl rfl, IFB_eq (fun h1 => ⟨_, S12.cell 0 rfl rfl, _, S12.cell 0 rfl rfl, _, S12.cell 0 rfl rfl, _, S12.cell 0 rfl rfl, _, S12.cell 0 rfl rfl, _, _, _, S12.cell 0 rfl rfl, (hkt w12 a3 cap3 (hxk.grown S12.bel)).mono ?_⟩) (fun h1 => ⟨_, S12.cell 0 rfl rfl, _, S12.cell 0 rfl rfl, _, S12.cell 0 rfl rfl, _, S12.cell 0 rfl rfl, _, S12.cell 0 rfl rfl, _, _, _, S12.cell 0 rfl rfl, lastc ?_⟩)⟩) (fun h2 => ⟨_, S12.cell 0 rfl rfl, _, S12.cell 0 rfl rfl, _, S12.cell 0 rfl rfl, _, S12.cell 0 rfl rfl, _, S12.cell 0 rfl rfl, _, _, _, S12.cell 0 rfl rfl, lastc ?_⟩)
        · rintro _ w13 ⟨_, rfl, rfl, B13⟩
          exact ⟨_, rfl, by omega, by simp only [ByteArray.size_append]; omega, by rw [text_neg, if_pos (show isNum k.op k.v = true from decide_eq_true ⟨h2, h1⟩)], (S12.grown B13).bel⟩
        · exact decide_eq_false fun h => h1 h.2
        · exact decide_eq_false fun h => h2 h.1
      · refine IFB_eq (fun h => absurd (show (14 : Int) = _ from h) (by decide)) (fun _ => IFB_eq (fun h => absurd (show (14 : Int) = _ from h) (by decide)) (fun _ => IFB_eq (fun h => absurd (show (14 : Int) = _ from h) (by decide)) (fun _ => IFB_eq (fun _ => ?_) (fun h => absurd rfl h))))
        refine ⟨_, _, _, S1.cell 0 rfl rfl, ⟨by decide, by show (0 : Int) < 1; decide⟩, _, c0, _, c1, _, c2, _, c3, _, c4, _, _, _, c5, (ref11_at_of hkt hs (hxk.grown S1.bel) 3).mono ?_⟩
        rintro _ w14 ⟨_, rfl, rfl, B14⟩
        have a3' := atS hkf hks 3
        exact ⟨_, rfl, by omega, by rw [text_not], (S1.grown B14).bel⟩
      · refine IFB_eq (fun h => absurd (show (15 : Int) = _ from h) (by decide)) (fun _ => IFB_eq (fun h => absurd (show (15 : Int) = _ from h) (by decide)) (fun _ => IFB_eq (fun h => absurd (show (15 : Int) = _ from h) (by decide)) (fun _ => IFB_eq (fun h => absurd (show (15 : Int) = _ from h) (by decide)) (fun _ => IFB_eq (fun _ => ?_) (fun h => absurd rfl h)))))
        refine ⟨_, _, _, S1.cell 0 rfl rfl, ⟨by decide, by show (0 : Int) < 1; decide⟩, _, c0, _, c1, _, c2, _, c3, _, c4, _, _, _, c5, (ref11_at_of hkt hs (hxk.grown S1.bel) 5).mono ?_⟩
        rintro _ w14 ⟨_, rfl, rfl, B14⟩
        have a5' := atS hkf hks 5
        exact ⟨_, rfl, by omega, by rw [text_null], (S1.grown B14).bel⟩
      · refine IFB_eq (fun h => absurd (show (16 : Int) = _ from h) (by decide)) (fun _ => IFB_eq (fun h => absurd (show (16 : Int) = _ from h) (by decide)) (fun _ => IFB_eq (fun _ => ?_) (fun h => absurd rfl h)))
        refine ⟨_, _, _, S1.cell 0 rfl rfl, ⟨by decide, by show (0 : Int) < 1; decide⟩, _, c0, _, c1, _, c2, _, c3, _, c4, _, _, _, c5, (hkt w1 a3 cap3 (hxk.grown S1.bel)).mono ?_⟩
        rintro _ w14 ⟨_, rfl, rfl, B14⟩
        exact ⟨_, rfl, by omega, by simp only [ByteArray.size_append]; omega, by rw [text_len], (S1.grown B14).bel⟩
    · have hks : k.size ≤ 400 ∧ k'.size ≤ 400 := by simp only [Ex.size, Ex.sizeL] at hsz; omega
      have hkf := hk k (by simp)
      have hkf' := hk k' (by simp)
      have hkt := ih k (by simp) d hkf hks.1
      have hkt' := ih k' (by simp) d hkf' hks.2
      have hs := fair_size hkf hks.1
      have hs' := fair_size hkf' hks.2
      refine IFB_eq (fun h => by change op = 1 at h; omega) (fun _ => IFB_eq (fun h => by change op = 2 at h; omega) (fun _ => IFB_eq (fun h => by change op = 16 at h; omega) (fun _ => IFB_eq (fun h => by change op = 14 at h; omega) (fun _ => IFB_eq (fun h => by change op = 15 at h; omega) (fun _ => IFB_eq (fun h => by change op = 8 at h; omega) (fun _ => ?_))))))
      refine ⟨_, S1.cell 0 rfl rfl, _, S1.cell 0 rfl rfl, _, S1.cell 0 rfl rfl, _, S1.cell 0 rfl rfl, _, S1.cell 0 rfl rfl, _, _, _, S1.cell 0 rfl rfl, (ref11_level_ok (x := .mk op nm v [k, k']) (a := a) (cap := cap)).mono ?_⟩
      rintro _ w16 ⟨_, rfl, rfl, B16⟩
      have S16 := S1.grown B16
      have hl : Ex.lvl (.mk op nm v [k, k']) = rowOf op := by
        show lvlOf op v = rowOf op
        unfold lvlOf
        rw [if_neg fun h => by have := h.1; omega]
      rw [hl]
      refine ⟨_, rfl, fun st w17 => st = [.int .i64 (leftNeed op)] ∧ w17 = w16, IFB_eq (fun h => ⟨by unfold leftNeed; rw [if_pos h], rfl⟩) (fun h => ⟨by unfold leftNeed; rw [if_neg h], rfl⟩), ?_⟩
      rintro left w17 ⟨hleft, rfl⟩
      obtain rfl : left = leftNeed op := by simpa using hleft
      refine S16.draw fun w18 _ S18 => ?_
      obtain ⟨p, a3, cap3, rfl, hxk, c0, c1, c2, c3, c4, c5⟩ := ex_at (hrd.grown S18.bel) hkids (i := 0) (by simp)
      obtain ⟨p', a4, cap4, hp', hxk', d0, d1, d2, d3, d4, d5⟩ := ex_at (hrd.grown S18.bel) hkids (i := 1) (by simp)
      cases hp'
      change XC w k (exHead k a3 cap3) at hxk
      change XC w k' (exHead k' a4 cap4) at hxk'
      refine ⟨_, _, _, S18.cell 0 rfl rfl, ⟨by decide, by show (0 : Int) < 2; decide⟩, _, c0, _, c1, _, c2, _, c3, _, c4, _, _, _, c5, _, S18.cell 0 rfl rfl, _, _, _, S18.cell 0 rfl rfl, ⟨by decide, by show (1 : Int) < 2; decide⟩, _, d0, _, d1, _, d2, _, d3, _, d4, _, _, _, d5, (ref11_at_of hkt hs (hxk.grown S18.bel) (leftNeed op)).mono ?_⟩
      rintro _ w19 ⟨_, rfl, rfl, B19⟩
      have S19 := S18.grown B19
      have K19 := Keeps.of_below (F := fun _ => False) B19
      refine ⟨_, rfl, ⟨K19.cell d0 (by simp), K19.cell d1 (by simp), K19.cell d2 (by simp), K19.cell d3 (by simp), K19.cell d4 (by simp), K19.cell d5 (by simp)⟩, S19.cell 0 rfl rfl, S19.cell 0 rfl rfl, (ref11_sign_ok w19 hop).mono ?_⟩
      rintro _ w20 ⟨_, rfl, rfl, rfl⟩
      have hsg := sign_size op
      have al := atS hkf hks.1 (leftNeed op)
      have ar := atS hkf' hks.2 (rowOf op + 1)
      refine ⟨_, rfl, ⟨K19.cell d0 (by simp), K19.cell d1 (by simp), K19.cell d2 (by simp), K19.cell d3 (by simp), K19.cell d4 (by simp), K19.cell d5 (by simp)⟩, S19.cell 0 rfl rfl, by simp only [ByteArray.size_append]; omega, ?_⟩
      have hr9 := row_range op
      rw [wrap_i64 (by omega) (by omega)]
      refine (ref11_at_of hkt' hs' (hxk'.grown S19.bel) (rowOf op + 1)).mono ?_
      rintro _ w21 ⟨_, rfl, rfl, B21⟩
      refine ⟨_, rfl, by simp only [ByteArray.size_append]; omega, ?_, (S19.grown B21).bel⟩
      rw [text_two hop]
      simp only [ByteArray.append_assoc]
def ShownOk (x : Ex) : Prop := ∀ (w : World) (a : Option Addr) (cap : Nat) (lv : Int), Env w → XC w x (exHead x a cap) → Calls Tryz.prog f.query_shown #[.agg ⟨exHead x a cap⟩, .int .i64 lv] w (Ret fun r w' => r = .string (x.at lv) ∧ Below w.heap.size w w')
theorem query_shown_ok : ∀ (x : Ex) (d : Nat), x.fair d → x.size ≤ 400 → ShownOk x := by
  intro x
  induction x using Ex.ind with
  | h op nm v ks ih =>
    intro d hf hsz w a cap lv E hx
    cases d with
    | zero => have := hf.1; simp [Ex.okA] at this
    | succ d =>
    obtain ⟨ho, hk⟩ := hf.kid
    have hv := const_val hf
    have hxs := fair_size hf hsz
    obtain ⟨rs, hrd, hkids, _⟩ := exHead_inj hx
    change ExL _ _ ks rs at hkids
    apply R.query_shown_calls
    unfold R.query_shown
    have e40 : (ByteArray.mk #[40]).size = 1 := rfl
    have e41 : (ByteArray.mk #[41]).size = 1 := rfl
    have e45 : (ByteArray.mk #[45]).size = 1 := rfl
    have e4540 : (ByteArray.mk #[45, 40]).size = 2 := rfl
    have elen : (ByteArray.mk #[108, 101, 110, 40]).size = 4 := rfl
    have enot : (ByteArray.mk #[110, 111, 116, 32]).size = 4 := rfl
    have eis : (ByteArray.mk #[32, 105, 115, 32, 110, 117, 108, 108]).size = 8 := rfl
    have e32 : (ByteArray.mk #[32]).size = 1 := rfl
    refine (ST.start w).newB fun b8 w1 _ _ S1 => ⟨fun st w20 => st = [.int .i64 (Ex.lvl (.mk op nm v ks)), .string (Ex.text (.mk op nm v ks))] ∧ Below w.heap.size w w20, ⟨_, S1.cell 0 rfl rfl, ?_⟩, ?_⟩
    rotate_left
    · rintro own s w20 ⟨hst, B20⟩
      obtain ⟨rfl, rfl⟩ : own = Ex.lvl (.mk op nm v ks) ∧ s = Ex.text (.mk op nm v ks) := by simpa using hst
      refine IFB_dec (fun h => ⟨by omega, by simp only [ByteArray.size_append]; omega, ?_, B20⟩) (fun h => ⟨?_, B20⟩)
      · unfold Ex.at wrapT; rw [if_pos h]; rfl
      · unfold Ex.at wrapT; rw [if_neg h]
    have lvr : ¬ op = 2 → Ex.lvl (.mk op nm v ks) = rowOf op := fun h => by
      show lvlOf op v = rowOf op
      unfold lvlOf
      rw [if_neg fun h' => h h'.1]
    rcases okN_kids ho with ⟨hop, rfl⟩ | ⟨hop, k, rfl⟩ | ⟨hop, k, k', rfl⟩
    · rcases hop with rfl | rfl
      · refine IFB_eq (fun _ => ⟨_, S1.cell 0 rfl rfl, ?_, S1.bel⟩) (fun h => absurd rfl h)
        rw [text_col, lvr (by decide)]
        rfl
      · refine IFB_eq (fun h => absurd (show (2 : Int) = _ from h) (by decide)) (fun _ => IFB_eq (fun _ => ⟨_, S1.cell 0 rfl rfl, _, S1.cell 0 rfl rfl, _, S1.cell 0 rfl rfl, (value_Show_ok (E.grown S1.bel) v hv).mono ?_⟩) (fun h => absurd rfl h))
        rintro _ w2 ⟨_, rfl, rfl, B2⟩
        have S2 := S1.grown B2
        rw [showV_right (v := v) (okN_iff.1 ho).2.2.2, text_const]
        refine ⟨_, _, rfl, _, S2.cell 0 rfl rfl, IFB_dec (fun h => ⟨?_, S2.bel⟩) (fun h => ⟨?_, S2.bel⟩)⟩
        · have : Ex.lvl (.mk 2 nm v []) = 8 := by
            show lvlOf 2 v = 8
            unfold lvlOf
            rw [if_pos ⟨rfl, h⟩]
          rw [this]
        · have : Ex.lvl (.mk 2 nm v []) = 9 := by
            show lvlOf 2 v = 9
            unfold lvlOf
            rw [if_neg fun h' => h h'.2]
            rfl
          rw [this]
    · have hks : k.size ≤ 400 := by simp only [Ex.size, Ex.sizeL] at hsz; omega
      have hkf := hk k (by simp)
      have hkt := ih k (by simp) d hkf hks
      have hs := fair_size hkf hks
      obtain ⟨p, a3, cap3, rfl, hxk, c0, c1, c2, c3, c4, c5⟩ := ex_at (hrd.grown S1.bel) hkids (i := 0) (by simp)
      change XC w k (exHead k a3 cap3) at hxk
      rcases hop with rfl | rfl | rfl | rfl
      · refine IFB_eq (fun h => absurd (show (8 : Int) = _ from h) (by decide)) (fun _ => IFB_eq (fun h => absurd (show (8 : Int) = _ from h) (by decide)) (fun _ => IFB_eq (fun h => absurd (show (8 : Int) = _ from h) (by decide)) (fun _ => IFB_eq (fun h => absurd (show (8 : Int) = _ from h) (by decide)) (fun _ => IFB_eq (fun h => absurd (show (8 : Int) = _ from h) (by decide)) (fun _ => IFB_eq (fun _ => ?_) (fun h => absurd rfl h))))))
        refine ⟨_, _, _, S1.cell 0 rfl rfl, ⟨by decide, by show (0 : Int) < 1; decide⟩, _, c0, _, c1, _, c2, _, c3, _, c4, _, _, _, c5, (hkt w1 a3 cap3 8 (E.grown S1.bel) (hxk.grown S1.bel)).mono ?_⟩
        rintro _ w6 ⟨_, rfl, rfl, B6⟩
        have S6 := S1.grown B6
        have K6 := Keeps.of_below (F := fun _ => False) B6
        have a8 := atS hkf hks 8
        have l8 : Ex.lvl (.mk 8 nm v [k]) = 8 := by rw [lvr (by decide)]; rfl
        rw [l8, text_neg]
        refine ⟨_, rfl, by omega, _, _, _, S6.cell 0 rfl rfl, ⟨by decide, by show (0 : Int) < 1; decide⟩, _, K6.cell c0 (by simp), _, K6.cell c1 (by simp), _, K6.cell c2 (by simp), _, K6.cell c3 (by simp), _, K6.cell c4 (by simp), _, _, _, K6.cell c5 (by simp), S6.lit6 fun b66 w13 _ S13 => ⟨_, S13.cell 0 rfl rfl, ?_⟩⟩
        refine IFB_eq (fun h2 => ⟨_, S13.cell 0 rfl rfl, IFB_eq (fun h1 => ⟨_, S13.cell 0 rfl rfl, _, S13.cell 0 rfl rfl, _, S13.cell 0 rfl rfl, _, S13.cell 0 rfl rfl, _, S13.cell 0 rfl rfl, _, _, _, S13.cell 0 rfl rfl, (hkt w13 a3 cap3 1 (E.grown S13.bel) (hxk.grown S13.bel)).mono ?_⟩) (fun h1 => ⟨?_, S13.bel⟩)⟩) (fun h2 => ⟨?_, S13.bel⟩)
        · rintro _ w14 ⟨_, rfl, rfl, B14⟩
          rw [at_one]
          refine ⟨_, rfl, by omega, by simp only [ByteArray.size_append]; omega, ?_, (S13.grown B14).bel⟩
          rw [if_pos (show isNum k.op k.v = true from decide_eq_true ⟨h2, h1⟩)]
        · rw [if_neg (show ¬ isNum k.op k.v = true from fun h => h1 (of_decide_eq_true h).2)]
        · rw [if_neg (show ¬ isNum k.op k.v = true from fun h => h2 (of_decide_eq_true h).1)]
      · refine IFB_eq (fun h => absurd (show (14 : Int) = _ from h) (by decide)) (fun _ => IFB_eq (fun h => absurd (show (14 : Int) = _ from h) (by decide)) (fun _ => IFB_eq (fun h => absurd (show (14 : Int) = _ from h) (by decide)) (fun _ => IFB_eq (fun _ => ?_) (fun h => absurd rfl h))))
        refine ⟨_, _, _, S1.cell 0 rfl rfl, ⟨by decide, by show (0 : Int) < 1; decide⟩, _, c0, _, c1, _, c2, _, c3, _, c4, _, _, _, c5, (hkt w1 a3 cap3 3 (E.grown S1.bel) (hxk.grown S1.bel)).mono ?_⟩
        rintro _ w14 ⟨_, rfl, rfl, B14⟩
        have a3' := atS hkf hks 3
        refine ⟨_, rfl, by omega, ?_, (S1.grown B14).bel⟩
        rw [text_not, lvr (by decide)]
        rfl
      · refine IFB_eq (fun h => absurd (show (15 : Int) = _ from h) (by decide)) (fun _ => IFB_eq (fun h => absurd (show (15 : Int) = _ from h) (by decide)) (fun _ => IFB_eq (fun h => absurd (show (15 : Int) = _ from h) (by decide)) (fun _ => IFB_eq (fun h => absurd (show (15 : Int) = _ from h) (by decide)) (fun _ => IFB_eq (fun _ => ?_) (fun h => absurd rfl h)))))
        refine ⟨_, _, _, S1.cell 0 rfl rfl, ⟨by decide, by show (0 : Int) < 1; decide⟩, _, c0, _, c1, _, c2, _, c3, _, c4, _, _, _, c5, (hkt w1 a3 cap3 5 (E.grown S1.bel) (hxk.grown S1.bel)).mono ?_⟩
        rintro _ w14 ⟨_, rfl, rfl, B14⟩
        have a5' := atS hkf hks 5
        refine ⟨_, rfl, by omega, ?_, (S1.grown B14).bel⟩
        rw [text_null, lvr (by decide)]
        rfl
      · refine IFB_eq (fun h => absurd (show (16 : Int) = _ from h) (by decide)) (fun _ => IFB_eq (fun h => absurd (show (16 : Int) = _ from h) (by decide)) (fun _ => IFB_eq (fun _ => ?_) (fun h => absurd rfl h)))
        refine ⟨_, _, _, S1.cell 0 rfl rfl, ⟨by decide, by show (0 : Int) < 1; decide⟩, _, c0, _, c1, _, c2, _, c3, _, c4, _, _, _, c5, (hkt w1 a3 cap3 1 (E.grown S1.bel) (hxk.grown S1.bel)).mono ?_⟩
        rintro _ w14 ⟨_, rfl, rfl, B14⟩
        rw [at_one]
        refine ⟨_, rfl, by omega, by simp only [ByteArray.size_append]; omega, ?_, (S1.grown B14).bel⟩
        rw [text_len, lvr (by decide)]
        rfl
    · have hks : k.size ≤ 400 ∧ k'.size ≤ 400 := by simp only [Ex.size, Ex.sizeL] at hsz; omega
      have hkf := hk k (by simp)
      have hkf' := hk k' (by simp)
      have hkt := ih k (by simp) d hkf hks.1
      have hkt' := ih k' (by simp) d hkf' hks.2
      have hs := fair_size hkf hks.1
      have hs' := fair_size hkf' hks.2
      refine IFB_eq (fun h => by change op = 1 at h; omega) (fun _ => IFB_eq (fun h => by change op = 2 at h; omega) (fun _ => IFB_eq (fun h => by change op = 16 at h; omega) (fun _ => IFB_eq (fun h => by change op = 14 at h; omega) (fun _ => IFB_eq (fun h => by change op = 15 at h; omega) (fun _ => IFB_eq (fun h => by change op = 8 at h; omega) (fun _ => ?_))))))
      refine ⟨_, S1.cell 0 rfl rfl, (query_operator_ok w1 hop).mono ?_⟩
      rintro _ w15 ⟨_, rfl, rfl, B15⟩
      have S15 := S1.grown B15
      refine ⟨_, _, rfl, fun st w16 => st = [.int .i64 (leftNeed op)] ∧ w16 = w15, IFB_eq (fun h => ⟨by unfold leftNeed; rw [if_pos h], rfl⟩) (fun h => ⟨by unfold leftNeed; rw [if_neg h], rfl⟩), ?_⟩
      rintro left w16 ⟨hleft, rfl⟩
      obtain rfl : left = leftNeed op := by simpa using hleft
      refine S15.draw fun w17 _ S17 => ?_
      obtain ⟨p, a3, cap3, rfl, hxk, c0, c1, c2, c3, c4, c5⟩ := ex_at (hrd.grown S17.bel) hkids (i := 0) (by simp)
      obtain ⟨p', a4, cap4, hp', hxk', d0, d1, d2, d3, d4, d5⟩ := ex_at (hrd.grown S17.bel) hkids (i := 1) (by simp)
      cases hp'
      change XC w k (exHead k a3 cap3) at hxk
      change XC w k' (exHead k' a4 cap4) at hxk'
      refine ⟨_, _, _, S17.cell 0 rfl rfl, ⟨by decide, by show (0 : Int) < 2; decide⟩, _, c0, _, c1, _, c2, _, c3, _, c4, _, _, _, c5, _, _, _, S17.cell 0 rfl rfl, ⟨by decide, by show (1 : Int) < 2; decide⟩, _, d0, _, d1, _, d2, _, d3, _, d4, _, _, _, d5, (hkt w17 a3 cap3 (leftNeed op) (E.grown S17.bel) (hxk.grown S17.bel)).mono ?_⟩
      rintro _ w18 ⟨_, rfl, rfl, B18⟩
      have S18 := S17.grown B18
      have K18 := Keeps.of_below (F := fun _ => False) B18
      have hsg := sign_size op
      have al := atS hkf hks.1 (leftNeed op)
      have ar := atS hkf' hks.2 (rowOf op + 1)
      refine ⟨_, rfl, ⟨K18.cell d0 (by simp), K18.cell d1 (by simp), K18.cell d2 (by simp), K18.cell d3 (by simp), K18.cell d4 (by simp), K18.cell d5 (by simp)⟩, S18.cell 0 rfl rfl, by omega, by simp only [ByteArray.size_append]; omega, by simp only [ByteArray.size_append]; omega, ?_⟩
      have hr9 := row_range op
      rw [wrap_i64 (by omega) (by omega)]
      refine (hkt' w18 a4 cap4 (rowOf op + 1) (E.grown S18.bel) (hxk'.grown S18.bel)).mono ?_
      rintro _ w19 ⟨_, rfl, rfl, B19⟩
      refine ⟨_, rfl, by simp only [ByteArray.size_append]; omega, ?_, (S18.grown B19).bel⟩
      rw [text_two hop, lvr (by omega)]
end Go.Proofs.YtbpdfpfgijhokaaGreatDoor
