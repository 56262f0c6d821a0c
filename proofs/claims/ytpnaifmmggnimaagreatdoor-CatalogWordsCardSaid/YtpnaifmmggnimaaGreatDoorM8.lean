/-
  Texts of this claim, laid one behind the other by a program of mine (install.py): G.Ct4, G.Ct5, G.Ct6, G.Ct7, G.Ct8, G.Ct9, G.Cw1, G.Ct10, G.Ct11, G.Cw2, G.Cw3.
-/
import Derived.Test.YtpnaifmmggnimaaGreatDoorM7
namespace Go.Proofs.YtpnaifmmggnimaaGreatDoor
set_option maxRecDepth 100000
open Go.Dn Go.Proofs
open Go.RowKit (Below)
set_option linter.unusedVariables false
structure CatS where
  cols : List Col
  parts : List Prt
  k : List Cli
def catH (bc : Nat) (ca : Option Addr) (cc : Nat) (pa : Option Addr) (pc bm n : Nat) (C : CatS) : List It :=
  [It.cells bc #[.slice ca C.cols.length cc, .slice pa C.parts.length pc, .map (some bm)] ty.catalog_Catalog, colsI ca cc C.cols, prtsI pa pc C.parts, It.mapI Tryz.prog ty.int64 bm n (gOf C.k)]
structure CatOK (C : CatS) : Prop where
  np : C.parts.length ≤ 256
  parts : ∀ p ∈ C.parts, PrtOk p
  clis : ∀ c ∈ C.k, CliOk c
  cols : C.cols = [] ∨ rightCols C.cols = true
abbrev Fil := ByteArray × ByteArray
def filesL (fs : List Fil) : List Value := fs.flatMap fun f => [.string f.1, .string f.2]
def doneV (d : Nat × Nat) (fa : Option Addr) (fs : List Fil) : Value := .tuple #[.agg #[.int .i64 (d.1 : Int), .int .i64 (d.2 : Int)], .slice fa fs.length fs.length]
def AddR (C : CatS) (cs : List Col) (rows : List (List Val)) (d : Nat × Nat) (fs : List Fil) (C' : CatS) : Prop :=
  (cs ≠ C.cols ∧ d = (50, 0) ∧ fs = [] ∧ C' = C) ∨ (cs = C.cols ∧ C.parts.length = 256 ∧ d = (130, 0) ∧ fs = [] ∧ C' = C) ∨
    (cs = C.cols ∧ C.parts.length < 256 ∧ ∃ b, SegIs cs rows b ∧ C' = { C with parts := C.parts ++ [(nameS (sof b), rows.length)] } ∧ d = (0, rowsN C'.parts) ∧ fs = [(nameS (sof b), sof b)])
def DidP (w0 : World) (H : List It) (bc : Nat) (ca : Option Addr) (cc : Nat) (bm n : Nat) (R : Nat × Nat → List Fil → CatS → Prop) (v : Value) (w' : World) : Prop :=
  ∃ d fs C' fa pa pc, R d fs C' ∧ v = doneV d fa fs ∧ ST w0 w' (It.rd fa (filesL fs) :: (catH bc ca cc pa pc bm n C' ++ H))
section
variable {w0 w : World} {H : List It} {a a2 : Option Addr} {c c2 : Nat}
theorem stNoFile (S : ST w0 w H) : ST w0 w (It.rd none (filesL []) :: H) := S.add (.refl _ _) _ (Rd.nil _ _) (fun k hk => by cases hk)
theorem fail_tail {K : Value → World → Prop} {b : Nat} {u v : Value} (S : ST w0 w (It.cells b #[u, v] ty.api_Done :: H)) (e : Int) (hk : ∀ w', ST w0 w' H → K (.tuple #[.agg #[.int .i64 e, .int .i64 0], .slice none 0 0]) w') :
    Calls Tryz.prog f.catalog_failed #[.int .i64 e] w (fun x w' => ∃ p : Int, ∃ q : Int, ∃ (r : Option Addr) (rl rc : Nat), x = .returned (.tuple #[.agg #[.int .i64 p, .int .i64 q], .slice r rl rc]) ∧
      STO ⟨b, 0, none⟩ (.int .i64 p) (fun w => STO ⟨b, 1, none⟩ (.int .i64 q) (fun w => ∃ p' : Int, w.cell? ⟨b, 0, none⟩ = some (.int .i64 p') ∧ ∃ q' : Int, w.cell? ⟨b, 1, none⟩ = some (.int .i64 q') ∧ K (.tuple #[.agg #[.int .i64 p', .int .i64 q'], .slice r rl rc]) w) w) w') := by
  refine (failed_ok e w).mono ?_
  rintro _ w1 ⟨_, rfl, rfl, B⟩
  have S := S.grown B
  exact ⟨_, _, _, _, _, rfl, S.sto 0 rfl (cs' := #[.int .i64 e, v]) (by simp) rfl fun w2 S => S.sto 0 rfl (cs' := #[.int .i64 e, .int .i64 0]) (by simp) rfl fun w3 S => ⟨_, S.cell 0 rfl rfl, _, S.cell 0 rfl rfl, hk _ (S.drop 1)⟩⟩
set_option maxHeartbeats 1000000 in
theorem add_ok (T : Tabs w0) {bc bm n cc pc : Nat} {ca pa : Option Addr} {C : CatS} (S : ST w0 w (catH bc ca cc pa pc bm n C ++ H)) (hC : CatOK C) {cs : List Col} (hcs : Rd w a (colsL cs)) (hn : cs.length ≤ 9223372036854775807) (hq : ∀ c ∈ cs, c.1.size ≤ 9223372036854775807)
    {ps : List RowP} (hr : RowsAt w a2 ps) (hok : SegOk cs (rws ps)) :
    Calls Tryz.prog f.catalog_Catalog_add #[.pointer (some ⟨bc, 0, none⟩), .slice a cs.length c, .slice a2 ps.length c2] w (Ret (DidP w0 H bc ca cc bm n (AddR C cs (rws ps)))) := by
  apply R.catalog_Catalog_add_calls
  unfold R.catalog_Catalog_add
  have hB0 : ∀ {wx : World}, Below w.heap.size w wx → Below w.heap.size w wx := fun h => h
  refine S.newB fun b4 w1 _ B1 S => ⟨_, _, _, S.cell 1 rfl rfl, ?_⟩
  refine (slices_Equal_ok (hcs.grown B1) (S.rd 2 rfl) hn).mono ?_
  rintro _ w2 ⟨_, rfl, B2, rfl⟩
  have S := S.grown B2
  have C2 := below_trans B1 B2
  have hno : ∀ (e : Nat) {wx : World}, AddR C cs (rws ps) (e, 0) [] C → ST w0 wx (catH bc ca cc pa pc bm n C ++ H) → DidP w0 H bc ca cc bm n (AddR C cs (rws ps)) (.tuple #[.agg #[.int .i64 (e : Int), .int .i64 0], .slice none 0 0]) wx := fun e wx hA S =>
    ⟨(e, 0), [], C, none, pa, pc, hA, rfl, stNoFile S⟩
  refine ⟨_, rfl, IFB_not (IFB_dec (fun he => ?_) (fun he => fail_tail (K := DidP w0 H bc ca cc bm n (AddR C cs (rws ps))) S 50 fun w' S => hno 50 (.inl ⟨he, rfl, rfl, rfl⟩) S))⟩
  refine ⟨_, _, _, S.cell 1 rfl rfl, IFB_eq (fun h => fail_tail (K := DidP w0 H bc ca cc bm n (AddR C cs (rws ps))) S 130 fun w' S => hno 130 (.inr (.inl ⟨he, by omega, rfl, rfl, rfl⟩)) S) (fun h => ?_)⟩
  have hnp := hC.np
  have hlt : C.parts.length < 256 := by omega
  refine (segment_Write_ok (c := c) (c2 := c2) (T.grown S.bel) (hcs.grown C2) hn hq (hr.grown C2) (by have := hok.len; simp only [rws, List.length_map] at this; omega) hok.ok).mono ?_
  rintro _ w9 ⟨_, rfl, hV, B9⟩
  have S := S.grown B9
  rcases hV with ⟨hno, _⟩ | ⟨_, bb, rfl, hI⟩
  · exact absurd hok hno
  have hbl := hI.len hok
  refine ⟨_, _, rfl, (segment_Name_ok (T.grown S.bel) (sof bb) (by rw [size_sof]; omega)).mono ?_⟩
  rintro _ w10 ⟨_, rfl, rfl, B10⟩
  have S := S.grown B10
  obtain ⟨nm, hnm⟩ : ∃ nm, nm = nameS (sof bb) := ⟨_, rfl⟩
  obtain ⟨dt, hdt⟩ : ∃ dt, dt = sof bb := ⟨_, rfl⟩
  rw [← hdt] at hnm ⊢
  rw [← hnm]
  refine ⟨_, rfl, S.newB fun b28 w11 _ _ S => S.sto 0 rfl (cs' := #[.string nm, .string ⟨#[]⟩]) (by simp) rfl fun w12 S => S.sto 0 rfl (cs' := #[.string nm, .string dt]) (by simp) rfl fun w13 S => S.draw fun w14 _ S =>
    ⟨_, _, _, S.cell 2 rfl rfl, _, S.cell 0 rfl rfl, S.newB fun b32 w15 _ _ S => ⟨S.cell 3 rfl rfl, ?_⟩⟩⟩
  refine stAppQ S (n := 5) rfl (p := (nm, ps.length)) (S.rdc 0 rfl) (by omega) fun a' c' w16 S => ⟨_, _, _, rfl, ?_⟩
  obtain ⟨ps', hps'⟩ : ∃ ps', ps' = C.parts ++ [(nm, ps.length)] := ⟨_, rfl⟩
  rw [← hps'] at S ⊢
  have hpl : ps'.length = C.parts.length + 1 := by rw [hps']; simp
  have hp24 : ∀ p ∈ ps', p.2 ≤ 1024 := fun p hp => by
    rw [hps'] at hp
    rcases List.mem_append.1 hp with h | h
    · exact (hC.parts p h).2.2
    · rw [List.mem_singleton.1 h]
      have := hok.len
      simpa [rws] using this
  refine S.sto 3 rfl (i := 1) (cs' := #[.slice ca C.cols.length cc, .slice a' ps'.length c', .map (some bm)]) (by simp) rfl fun w17 S => S.draw fun w18 _ S => ?_
  have hfin : ∀ {wx : World} {bf : Nat} {X Y Z : It}, ST w0 wx (It.cells bf #[.string nm, .string dt] ty.api_File :: X :: Y :: Z :: (catH bc ca cc a' c' bm n { C with parts := ps' } ++ H)) →
      DidP w0 H bc ca cc bm n (AddR C cs (rws ps)) (.tuple #[.agg #[.int .i64 0, .int .i64 (rowsN ps' : Int)], .slice (some ⟨bf, 0, none⟩) 1 1]) wx := fun {wx bf X Y Z} S =>
    ⟨(0, rowsN ps'), [(nm, dt)], { C with parts := ps' }, some ⟨bf, 0, none⟩, a', c', .inr (.inr ⟨he, hlt, bb, hI, by rw [← hdt, ← hnm, hps']; simp [rws], rfl, by rw [← hdt, ← hnm]⟩), rfl,
      (S.chg 0 rfl (.refl _ _) (It.rd (some ⟨bf, 0, none⟩) (filesL [(nm, dt)])) (S.rdc 0 rfl) (fun k hk => .inl hk)).keep 3⟩
  refine ⟨_, _, _, S.cell 3 rfl rfl, _, S.cell 1 rfl rfl, _, S.cell 1 rfl rfl, ?_, ?_⟩
  · refine (many_ok (ps := ps') (S.rd 5 rfl) (by omega) hp24).mono ?_
    rintro _ w19 ⟨_, rfl, rfl, B19⟩
    have S := S.grown B19
    refine ⟨_, rfl, ⟨S.cell 1 rfl rfl, S.cell 1 rfl rfl⟩, ?_, ?_⟩
    · exact S.newB fun b42 w20 _ _ S => S.sto 3 rfl (cs' := #[.int .i64 0, .int .i64 0]) (by simp) rfl fun w21 S => S.sto 3 rfl (cs' := #[.int .i64 0, .int .i64 (rowsN ps' : Int)]) (by simp) rfl fun w22 S => ⟨_, S.cell 3 rfl rfl, _, S.cell 3 rfl rfl, hfin S⟩
    · exact S.sto 2 rfl (cs' := #[.int .i64 0, .int .i64 0]) (by simp) rfl fun w23 S => S.sto 2 rfl (cs' := #[.int .i64 0, .int .i64 (rowsN ps' : Int)]) (by simp) rfl fun w24 S => ⟨⟨S.cell 1 rfl rfl, S.cell 1 rfl rfl⟩, S.newB fun b45 w25 _ _ S => ⟨_, S.cell 3 rfl rfl, _, S.cell 3 rfl rfl, hfin S⟩⟩
  · refine S.newB fun b48 w26 _ _ S => ⟨S.cell 4 rfl rfl, (many_ok (ps := ps') (S.rd 6 rfl) (by omega) hp24).mono ?_⟩
    rintro _ w27 ⟨_, rfl, rfl, B27⟩
    have S := S.grown B27
    exact ⟨_, rfl, S.sto 3 rfl (cs' := #[.int .i64 0, .int .i64 0]) (by simp) rfl fun w28 S => S.sto 3 rfl (cs' := #[.int .i64 0, .int .i64 (rowsN ps' : Int)]) (by simp) rfl fun w29 S => ⟨_, S.cell 3 rfl rfl, _, S.cell 3 rfl rfl, hfin S⟩⟩
end
def idsOf : List Cli → List Nat
  | [] => []
  | c :: k => if c.1 ∈ idsOf k then idsOf k else c.1 :: idsOf k
theorem idsOf_mem : ∀ (k : List Cli) (i : Nat), i ∈ idsOf k ↔ i ∈ k.map (·.1)
  | [], i => by simp [idsOf]
  | c :: k, i => by
    have ih := idsOf_mem k
    unfold idsOf
    split
    · rename_i h
      rw [ih i, List.map_cons, List.mem_cons]
      constructor
      · exact .inr
      · rintro (rfl | h2)
        · exact (ih _).1 h
        · exact h2
    · rw [List.mem_cons, ih i, List.map_cons, List.mem_cons]
theorem idsOf_nodup : ∀ (k : List Cli), (idsOf k).Nodup
  | [] => by simp [idsOf]
  | c :: k => by
    unfold idsOf
    split
    · exact idsOf_nodup k
    · rename_i h
      exact List.nodup_cons.2 ⟨h, idsOf_nodup k⟩
def cntC (k : List Cli) : Nat := (idsOf k).length
theorem und_i64 : Tryz.prog.underlying ty.int64 = some (.int .i64) := by kernel_rfl
theorem und_cmap : Tryz.prog.underlying ty.map_int64_catalog_client = some (.map ty.int64 ty.catalog_client) := by kernel_rfl
theorem zero_cli (w : World) : (zeroValue ty.catalog_client).run Tryz.prog w = .ok (triV (0, 0, 0)) w := Tryz.zeroValue99 w
def CreR (C : CatS) (cs : List Col) (d : Nat × Nat) (fs : List Fil) (C' : CatS) : Prop :=
  (C.cols ≠ [] ∧ d = (2, 0) ∧ fs = [] ∧ C' = C) ∨ (C.cols = [] ∧ d = (0, 0) ∧ fs = [] ∧ C' = { C with cols := cs })
def IngR (C : CatS) (id num : Nat) (cs : List Col) (rows : List (List Val)) (d : Nat × Nat) (fs : List Fil) (C' : CatS) : Prop :=
  (∃ t, mapOf C.k id = some t ∧ t.1 = num ∧ d = t.2 ∧ fs = [] ∧ C' = C) ∨ (∃ t, mapOf C.k id = some t ∧ num < t.1 ∧ d = (2, 0) ∧ fs = [] ∧ C' = C) ∨
    (mapOf C.k id = none ∧ cntC C.k = 64 ∧ d = (130, 0) ∧ fs = [] ∧ C' = C) ∨
    ((∀ t, mapOf C.k id = some t → t.1 < num) ∧ (mapOf C.k id = none → cntC C.k ≠ 64) ∧ ∃ C1, AddR C cs rows d fs C1 ∧ C' = { C1 with k := C1.k ++ [(id, num, d)] })
def Did (w0 : World) (H : List It) (bc bm N : Nat) (R : Nat × Nat → List Fil → CatS → Prop) (v : Value) (w' : World) : Prop :=
  ∃ d fs C' fa ca cc pa pc n, R d fs C' ∧ v = doneV d fa fs ∧ (ca = none ↔ C'.cols = []) ∧ n ≤ N ∧ ST w0 w' (It.rd fa (filesL fs) :: (catH bc ca cc pa pc bm n C' ++ H))
section
variable {w0 w : World} {H : List It} {bc bm n N cc pc : Nat} {ca pa : Option Addr} {C : CatS}
theorem gOf_nats (k : List Cli) (i : Nat) : ∃ x y z : Nat, (gOf k (i : Int)).getD (0, 0, 0) = ((x : Int), (y : Int), (z : Int)) ∧ (mapOf k i = none ∧ (gOf k (i : Int)).isSome = false ∨ mapOf k i = some (x, y, z) ∧ (gOf k (i : Int)).isSome = true) := by
  rw [gOf_nat]
  cases h : mapOf k i with
  | none => exact ⟨0, 0, 0, rfl, .inl ⟨rfl, rfl⟩⟩
  | some t => exact ⟨t.1, t.2.1, t.2.2, rfl, .inr ⟨rfl, rfl⟩⟩
theorem len_ok {k : List Cli} (h : MapI Tryz.prog ty.int64 w bm n (gOf k)) {f : Value → World → Prop} (hf : f (.int .i64 (cntC k : Int)) w) : OPR Tryz.prog (Builtin.len_ #[ty.map_int64_catalog_client] ty.int #[.map (some bm)]) f w := by
  have := h.len und_i64 und_cmap ty.int (ks := (idsOf k).map (fun i : Nat => (i : Int))) (List.pairwise_map.2 ((idsOf_nodup k).imp fun {a b} hab e => hab (by omega))) (fun x => by
    rw [List.mem_map, gOf_some]
    constructor
    · rintro ⟨i, hi, rfl⟩
      exact ⟨by omega, by rw [Int.toNat_natCast]; exact mapOf_some.2 ((idsOf_mem k i).1 hi)⟩
    · rintro ⟨h0, h1⟩
      exact ⟨x.toNat, (idsOf_mem k _).2 (mapOf_some.1 h1), by omega⟩)
  unfold OPR
  rw [this, List.length_map]
  exact hf
set_option maxHeartbeats 1000000 in
theorem create1_ok {q0 q1 : Nat} {a : Option Addr} {c : Nat} {cs : List Col} (S : ST w0 w (It.cells q0 #[.pointer (some ⟨bc, 0, none⟩)] ty.P_catalog_Catalog :: It.cells q1 #[.slice a cs.length c] ty.L_api_Column :: colsI a c cs :: (catH bc ca cc pa pc bm n C ++ H)))
    (hR : rightCols cs = true) (hca : ca = none ↔ C.cols = []) (hN : n ≤ N) :
    Calls Tryz.prog f.catalog_Catalog_create_c1 #[.pointer (some ⟨q0, 0, none⟩), .pointer (some ⟨q1, 0, none⟩)] w (Ret (Did w0 H bc bm N (CreR C cs))) := by
  apply R.catalog_Catalog_create_c1_calls
  unfold R.catalog_Catalog_create_c1
  refine S.newB fun b3 w1 _ _ S => ⟨_, S.cell 1 rfl rfl, _, _, _, S.cell 4 rfl rfl, IFB_not (IFB_of (fun h => ?_) (fun h => ?_))⟩
  · have hn : ca = none := by simpa using h
    have hn2 := hca.1 hn
    refine ⟨_, S.cell 1 rfl rfl, _, _, _, S.cell 2 rfl rfl, S.sto 4 rfl (cs' := #[.slice a cs.length c, .slice pa C.parts.length pc, .map (some bm)]) (by simp) rfl fun w5 S => S.sto 0 rfl (cs' := #[.int .i64 0, .int .i64 0]) (by simp) rfl fun w6 S => S.sto 0 rfl (cs' := #[.int .i64 0, .int .i64 0]) (by simp) rfl fun w7 S => ⟨_, S.cell 0 rfl rfl, _, S.cell 0 rfl rfl, ?_⟩⟩
    have ha : a ≠ none := fun h => by
      have := (S.rw 3 rfl).2
      rcases this with ⟨_, h2, _⟩ | ⟨g, _, h2, _⟩
      · have := (right_len hR).1; omega
      · rw [h] at h2; cases h2
    have S := S.drop 3
    have S : ST w0 w7 (catH bc a c pa pc bm n { C with cols := cs } ++ (colsI ca cc C.cols :: H)) := by
      have S := S.pull 1 rfl
      exact S.perm (List.Perm.cons _ (List.Perm.cons _ ((List.Perm.swap _ _ _).trans (List.Perm.cons _ (List.Perm.swap _ _ _)))))
    have S : ST w0 w7 (catH bc a c pa pc bm n { C with cols := cs } ++ H) := S.sub ((List.Sublist.refl _).append (List.sublist_cons_self _ _))
    exact ⟨(0, 0), [], { C with cols := cs }, none, a, c, pa, pc, n, .inr ⟨hn2, rfl, rfl, rfl⟩, rfl, ⟨fun h => absurd h ha, fun h => absurd h (right_ne hR)⟩, hN, stNoFile S⟩
  · refine fail_tail (K := Did w0 H bc bm N (CreR C cs)) S 2 fun w' S => ?_
    have hn : C.cols ≠ [] := fun e => by rw [hca.2 e] at h; cases h
    exact ⟨(2, 0), [], C, none, ca, cc, pa, pc, n, .inl ⟨hn, rfl, rfl, rfl⟩, rfl, hca, hN, stNoFile (S.drop 3)⟩
end
theorem sub2 {l1 l2 H : List It} : H.Sublist (l1 ++ (l2 ++ H)) := (List.sublist_append_right l2 H).trans (List.sublist_append_right l1 _)
section
variable {w0 w : World} {H : List It} {bc bm n N cc pc : Nat} {ca pa : Option Addr} {C : CatS}
theorem rows_at {E : List It} {ra : Option Addr} {rc i : Nat} {ps : List RowP} (S : ST w0 w E) (hi : E[i]? = some (rowsI ra rc ps)) (hs : ∀ p ∈ ps, rowI p ∈ E) : RowsAt w ra ps :=
  ⟨S.rd i hi, fun p hp => Row.rd (S.ok (rowI p) (hs p hp))⟩
set_option maxHeartbeats 2000000 in
theorem ingest1_ok (T : Tabs w0) {q0 q1 q2 q3 q4 : Nat} {a ra : Option Addr} {c rc id num : Nat} {cs : List Col} {ps : List RowP}
    (S : ST w0 w (It.cells q0 #[.pointer (some ⟨bc, 0, none⟩)] ty.P_catalog_Catalog :: It.cells q1 #[.int .i64 (id : Int)] ty.int64 :: It.cells q2 #[.int .i64 (num : Int)] ty.int64 :: It.cells q3 #[.slice a cs.length c] ty.L_api_Column :: colsI a c cs ::
      It.cells q4 #[.slice ra ps.length rc] ty.L_api_Row :: rowsI ra rc ps :: (catH bc ca cc pa pc bm n C ++ (ps.map rowI ++ H))))
    (hok : SegOk cs (rws ps)) (hq : ∀ c ∈ cs, c.1.size ≤ 9223372036854775807) (hid : id ≤ greatN) (hnum : num ≤ greatN) (hC : CatOK C) (hca : ca = none ↔ C.cols = []) (hN : n ≤ N) (hN2 : N < 1000000) :
    Calls Tryz.prog f.catalog_Catalog_ingest_c1 #[.pointer (some ⟨q0, 0, none⟩), .pointer (some ⟨q1, 0, none⟩), .pointer (some ⟨q2, 0, none⟩), .pointer (some ⟨q3, 0, none⟩), .pointer (some ⟨q4, 0, none⟩)] w (Ret (Did w0 H bc bm (N + 1) (IngR C id num cs (rws ps)))) := by
  apply R.catalog_Catalog_ingest_c1_calls
  unfold R.catalog_Catalog_ingest_c1
  unfold greatN at hid hnum
  obtain ⟨x, y, z, hxyz, hcase⟩ := gOf_nats C.k id
  obtain ⟨ok, hok2⟩ : ∃ ok, ok = (gOf C.k (id : Int)).isSome := ⟨_, rfl⟩
  rw [← hok2] at hcase
  have hst : (mapOf C.k id = none ∧ ok = false) ∨ (mapOf C.k id = some (x, y, z) ∧ ok = true) := hcase
  let X : Nat → List It := fun b6 => [It.cells b6 #[.int .i64 0, .int .i64 0] ty.api_Done, It.cells q0 #[.pointer (some ⟨bc, 0, none⟩)] ty.P_catalog_Catalog, It.cells q1 #[.int .i64 (id : Int)] ty.int64, It.cells q2 #[.int .i64 (num : Int)] ty.int64, It.cells q3 #[.slice a cs.length c] ty.L_api_Column, colsI a c cs,
      It.cells q4 #[.slice ra ps.length rc] ty.L_api_Row, rowsI ra rc ps]
  refine S.newB fun b6 w1 _ _ S => ?_
  have S : ST w0 w1 (X b6 ++ (catH bc ca cc pa pc bm n C ++ (ps.map rowI ++ H))) := S
  let Q : Nat → World → Prop := fun b wx => ST w0 wx (It.cells b #[.int .i64 (x : Int), .int .i64 (y : Int), .int .i64 (z : Int)] ty.catalog_client :: (X b6 ++ (catH bc ca cc pa pc bm n C ++ (ps.map rowI ++ H))))
  have drp : ∀ {wx : World} {b : Nat}, Q b wx → ST w0 wx (It.cells b6 #[.int .i64 0, .int .i64 0] ty.api_Done :: (catH bc ca cc pa pc bm n C ++ H)) := fun {wx b} S =>
    S.sub (.cons _ (.cons_cons _ ((List.Sublist.append (List.Sublist.refl _) (List.sublist_append_right _ _)).trans (List.sublist_append_right [_, _, _, _, _, _, _] _))))
  have kout : ∀ (d : Nat × Nat) {wx : World}, IngR C id num cs (rws ps) d [] C → ST w0 wx (catH bc ca cc pa pc bm n C ++ H) → Did w0 H bc bm (N + 1) (IngR C id num cs (rws ps)) (.tuple #[.agg #[.int .i64 (d.1 : Int), .int .i64 (d.2 : Int)], .slice none 0 0]) wx := fun d wx hI S =>
    ⟨d, [], C, none, ca, cc, pa, pc, n, hI, rfl, hca, by omega, stNoFile S⟩
  refine ⟨fun s wx => ∃ b, s = [.pointer (some ⟨b, 0, none⟩), .bool ok] ∧ Q b wx, ?_, ?_⟩
  · refine S.draw fun w2 _ S => ⟨_, S.cell 1 rfl rfl, _, S.cell 8 rfl rfl, _, S.cell 2 rfl rfl, ?_, ?_⟩
    · refine S.mgetokI 11 rfl und_i64 und_cmap (zero_cli _) (by omega) ?_
      rw [← hok2, hxyz]
      refine ⟨_, _, _, _, rfl, S.newB fun b16 w4 _ _ S => S.sto 0 rfl (cs' := #[.int .i64 (x : Int), .int .i64 0, .int .i64 0]) (by simp) rfl fun w5 S => S.sto 0 rfl (cs' := #[.int .i64 (x : Int), .int .i64 (y : Int), .int .i64 0]) (by simp) rfl fun w6 S => S.sto 0 rfl (cs' := #[.int .i64 (x : Int), .int .i64 (y : Int), .int .i64 (z : Int)]) (by simp) rfl fun w7 S => ⟨b16, rfl, S⟩⟩
    · refine S.newB fun b17 w8 _ _ S => ⟨S.cell 3 rfl rfl, S.cell 9 rfl rfl, S.cell 2 rfl rfl, ?_⟩
      refine S.mgetokI 12 rfl und_i64 und_cmap (zero_cli _) (by omega) ?_
      rw [← hok2, hxyz]
      refine ⟨_, _, _, _, rfl, S.sto 0 rfl (cs' := #[.int .i64 (x : Int), .int .i64 0, .int .i64 0]) (by simp) rfl fun w5 S => S.sto 0 rfl (cs' := #[.int .i64 (x : Int), .int .i64 (y : Int), .int .i64 0]) (by simp) rfl fun w6 S => S.sto 0 rfl (cs' := #[.int .i64 (x : Int), .int .i64 (y : Int), .int .i64 (z : Int)]) (by simp) rfl fun w7 S => ⟨b17, rfl, S⟩⟩
  clear S
  rintro _ _ w13 ⟨b, hs, S⟩
  cases hs
  refine ⟨fun s wx => s = [] ∧ Q b wx ∧ (∀ t, mapOf C.k id = some t → t.1 < num) ∧ (mapOf C.k id = none → cntC C.k ≠ 64), ?_, ?_⟩
  · refine ⟨fun s wx => s = [.bool (ok && decide (x = num))] ∧ Q b wx, ?_, ?_⟩
    · refine IFB_of (fun h => ⟨_, S.cell 0 rfl rfl, _, S.cell 4 rfl rfl, ?_, S⟩) (fun h => ⟨by rw [h]; rfl, S⟩)
      rw [h, Bool.true_and]
      congr 2
      by_cases h2 : x = num
      · simp [h2]
      · have : ¬ (x : Int) = (num : Int) := by omega
        simp [h2, this]
    clear S
    rintro _ w14 ⟨hs, S⟩
    cases hs
    refine IFB_of (fun h => ?_) (fun h1 => ?_)
    · simp only [Bool.and_eq_true, decide_eq_true_eq] at h
      obtain ⟨hk, rfl⟩ := h
      have hm : mapOf C.k id = some (x, y, z) := by
        rcases hst with ⟨_, h2⟩ | ⟨h2, _⟩
        · rw [h2] at hk; cases hk
        · exact h2
      refine ⟨_, S.cell 0 rfl rfl, _, S.cell 0 rfl rfl, S.sto 1 rfl (cs' := #[.int .i64 (y : Int), .int .i64 0]) (by simp) rfl fun w15 S => S.sto 1 rfl (cs' := #[.int .i64 (y : Int), .int .i64 (z : Int)]) (by simp) rfl fun w16 S => ⟨_, S.cell 1 rfl rfl, _, S.cell 1 rfl rfl, ?_⟩⟩
      exact kout (y, z) (.inl ⟨_, hm, rfl, rfl, rfl, rfl⟩) (S.sub (.cons _ (.cons _ ((List.Sublist.append (List.Sublist.refl _) (List.sublist_append_right _ _)).trans (List.sublist_append_right [_, _, _, _, _, _, _] _)))))
    refine ⟨fun s wx => s = [.bool (ok && decide (num < x))] ∧ Q b wx, ?_, ?_⟩
    · refine IFB_of (fun h => ⟨_, S.cell 0 rfl rfl, _, S.cell 4 rfl rfl, ?_, S⟩) (fun h => ⟨by rw [h]; rfl, S⟩)
      rw [h, Bool.true_and]
      congr 2
      by_cases h2 : num < x
      · have : (x : Int) > (num : Int) := by omega
        simp [h2, this]
      · have : ¬ (x : Int) > (num : Int) := by omega
        simp [h2, this]
    clear S
    rintro _ w17 ⟨hs, S⟩
    cases hs
    refine IFB_of (fun h => ?_) (fun h2 => ?_)
    · simp only [Bool.and_eq_true, decide_eq_true_eq] at h
      obtain ⟨hk, hlt⟩ := h
      have hm : mapOf C.k id = some (x, y, z) := by
        rcases hst with ⟨_, h2⟩ | ⟨h2, _⟩
        · rw [h2] at hk; cases hk
        · exact h2
      exact fail_tail (K := Did w0 H bc bm (N + 1) (IngR C id num cs (rws ps))) (drp S) 2 fun w' S => kout (2, 0) (.inr (.inl ⟨_, hm, hlt, rfl, rfl, rfl⟩)) S
    refine IFB_not (IFB_of (fun hk => ?_) (fun hk => ?_))
    · refine ⟨rfl, S, fun t ht => ?_, fun h => ?_⟩
      · rcases hst with ⟨h3, _⟩ | ⟨h3, _⟩
        · rw [h3] at ht; cases ht
        · rw [h3] at ht
          cases ht
          rw [hk, Bool.true_and, decide_eq_false_iff_not] at h1 h2
          omega
      · rcases hst with ⟨_, h3⟩ | ⟨h3, _⟩
        · rw [h3] at hk; cases hk
        · rw [h3] at h; cases h
    · have hm : mapOf C.k id = none := by
        rcases hst with ⟨h3, _⟩ | ⟨_, h3⟩
        · exact h3
        · rw [h3] at hk; cases hk
      refine ⟨_, S.cell 2 rfl rfl, _, S.cell 9 rfl rfl, len_ok (S.get 12 rfl) ⟨_, rfl, IFB_eq (fun h => ?_) (fun h => ?_)⟩⟩
      · exact fail_tail (K := Did w0 H bc bm (N + 1) (IngR C id num cs (rws ps))) (drp S) 130 fun w' S => kout (130, 0) (.inr (.inr (.inl ⟨hm, by omega, rfl, rfl, rfl⟩))) S
      · exact ⟨rfl, S, fun t ht => (by rw [hm] at ht; cases ht), fun _ => by omega⟩
  clear S
  rintro w25 ⟨_, S, hlt, hcnt⟩
  refine ⟨_, S.cell 2 rfl rfl, _, _, _, S.cell 5 rfl rfl, _, _, _, S.cell 7 rfl rfl, ?_⟩
  have hcs : Rd w25 a (colsL cs) := S.rd 6 rfl
  have hrw : RowsAt w25 ra ps := rows_at S (i := 8) rfl fun p hp => by
    refine List.mem_cons_of_mem _ (List.mem_append_right _ (List.mem_append_right _ (List.mem_append_left _ (List.mem_map.2 ⟨p, hp, rfl⟩))))
  have S : ST w0 w25 ((It.cells b #[.int .i64 (x : Int), .int .i64 (y : Int), .int .i64 (z : Int)] ty.catalog_client :: X b6) ++ (catH bc ca cc pa pc bm n C ++ (ps.map rowI ++ H))) := S
  have S := ST.mid (catH bc ca cc pa pc bm n C) S
  have hcl := right_len hok.right
  refine (add_ok (c := c) (c2 := rc) T S hC hcs (by omega) hq hrw hok).mono ?_
  rintro _ w26 ⟨_, rfl, d, fs, C1, fa, pa', pc', hA, rfl, S⟩
  obtain ⟨d1, d2⟩ := d
  refine ⟨_, _, _, _, _, rfl, S.newB fun b66 w27 _ _ S => S.sto 0 rfl (cs' := #[.int .i64 (d1 : Int), .int .i64 0]) (by simp) rfl fun w28 S => S.sto 0 rfl (cs' := #[.int .i64 (d1 : Int), .int .i64 (d2 : Int)]) (by simp) rfl fun w29 S => S.draw fun w30 _ S =>
    ⟨_, S.cell 8 rfl rfl, _, S.cell 2 rfl rfl, _, S.cell 9 rfl rfl, _, S.cell 10 rfl rfl, _, S.cell 0 rfl rfl, _, S.cell 0 rfl rfl, ?_⟩⟩
  refine S.mputI 5 rfl und_i64 und_cmap (by unfold maxLen; omega) (by omega) ((num : Int), (d1 : Int), (d2 : Int)) fun w31 S => ⟨_, S.cell 0 rfl rfl, _, S.cell 0 rfl rfl, S.sto 7 rfl (cs' := #[.int .i64 (d1 : Int), .int .i64 0]) (by simp) rfl fun w32 S => S.sto 7 rfl (cs' := #[.int .i64 (d1 : Int), .int .i64 (d2 : Int)]) (by simp) rfl fun w33 S => ⟨_, S.cell 7 rfl rfl, _, S.cell 7 rfl rfl, ?_⟩⟩
  have hk1 : C1.k = C.k := by
    rcases hA with ⟨_, _, _, rfl⟩ | ⟨_, _, _, _, rfl⟩ | ⟨_, _, _, _, rfl, _⟩ <;> rfl
  have hc1 : C1.cols = C.cols := by
    rcases hA with ⟨_, _, _, rfl⟩ | ⟨_, _, _, _, rfl⟩ | ⟨_, _, _, _, rfl, _⟩ <;> rfl
  have S := S.drop 1
  have eg : (fun y => if y = (id : Int) then some ((num : Int), (d1 : Int), (d2 : Int)) else gOf C1.k y) = gOf (C1.k ++ [(id, num, d1, d2)]) := (gOf_snoc C1.k (id, num, d1, d2)).symm
  have S : ST w0 w33 (It.rd fa (filesL fs) :: (catH bc ca cc pa' pc' bm (n + 1) { C1 with k := C1.k ++ [(id, num, d1, d2)] } ++ H)) := by
    rw [eg] at S
    exact S.sub (.cons_cons _ (.cons_cons _ (.cons_cons _ (.cons_cons _ (.cons_cons _ (sub2 (l1 := [_, _, _, _, _, _, _, _, _]) (l2 := ps.map rowI)))))))
  exact ⟨(d1, d2), fs, _, fa, ca, cc, pa', pc', n + 1, .inr (.inr (.inr ⟨hlt, hcnt, C1, hA, rfl⟩)), rfl, by simp only [hc1]; exact hca, by omega, S⟩
end
section
variable {w0 w : World} {H : List It} {b : Nat} {a : Option Addr} {c at_ : Nat} {bad : Bool} {l : List UInt8}
theorem rrows_bad {ca : Option Addr} {cn cc : Nat} (S : ST w0 w H) (n : Nat) (hn : H[n]? = some (rdrI b a l.length c at_ true)) :
    Calls Tryz.prog f.catalog_reader_rows #[.pointer (some ⟨b, 0, none⟩), .slice ca cn cc] w (Ret fun v w' => v = .slice none 0 0 ∧ w' = w) := by
  apply R.catalog_reader_rows_calls
  unfold R.catalog_reader_rows
  exact ⟨_, S.cell n hn rfl, IFB_of (fun _ => ⟨rfl, rfl⟩) (fun h => by cases h)⟩
theorem rrows_ok {ca : Option Addr} {cc : Nat} {cs : List Col} (S : ST w0 w H) (n m : Nat) (hn : H[n]? = some (rdrI b a l.length c at_ false)) (hm : H[m]? = some (It.rd a (l.map byteV))) (hc : l.length ≤ c) (hs : l.length ≤ 1000000000)
    (hcs : Rd w ca (colsL cs)) (hcn : cs.length ≤ 9223372036854775807) (hq : ∀ c ∈ cs, c.1.size ≤ 9223372036854775807) :
    Calls Tryz.prog f.catalog_reader_rows #[.pointer (some ⟨b, 0, none⟩), .slice ca cs.length cc] w (Ret fun v w' => ∃ (ra : Option Addr) (rc : Nat) (ps : List RowP) (at' : Nat) (bad' : Bool), v = .slice ra ps.length rc ∧
      ST w0 w' (rowsI ra rc ps :: (H.set n (rdrI b a l.length c at' bad') ++ ps.map rowI)) ∧ ((bad' = false ∧ takeRows l cs (at_ : Int) = some (rws ps, at') ∧ ps ≠ []) ∨ (bad' = true ∧ ∀ x, takeRows l cs (at_ : Int) = some x → x.1 = []))) := by
  apply R.catalog_reader_rows_calls
  unfold R.catalog_reader_rows
  refine ⟨_, S.cell n hn rfl, IFB_of (fun h => by cases h) (fun _ => ?_)⟩
  refine S.draw fun w1 B1 S => ⟨_, _, _, S.cell n hn rfl, _, S.cell n hn rfl, ?_⟩
  refine (schema_TakeRows_ok (S.get m hm) hc hs (at_ : Int) (hcs.grown B1) hcn hq).mono ?_
  rintro _ w2 ⟨_, rfl, hx⟩
  cases ho : takeRows l cs (at_ : Int) with
  | none =>
    rw [ho] at hx
    obtain ⟨e, he, rfl, B⟩ := hx
    have S := S.grown B
    refine ⟨_, _, _, _, _, rfl, IFB_ne (fun _ => ?_) (fun h => absurd h he)⟩
    have hlt := (List.getElem?_eq_some_iff.1 hn).1
    simp only [PTR]
    refine S.sto n hn (i := 2) (cs' := #[.slice a l.length c, .int .i64 (at_ : Int), .bool true]) (by simp) rfl fun w3 S => ?_
    refine S.sto n (List.getElem?_set_self hlt) (i := 1) (cs' := #[.slice a l.length c, .int .i64 0, .bool true]) (by simp) rfl fun w4 S => ?_
    rw [List.set_set] at S
    exact ⟨none, 0, [], 0, true, rfl, (by
      have S := S.nil ty.api_Row 1
      rw [List.map_nil, List.append_nil]
      exact S), .inr ⟨rfl, fun x hx => by cases hx⟩⟩
  | some x =>
    rw [ho] at hx
    obtain ⟨ra, rc, ps, rfl, hps, R⟩ := hx
    have S := S.join R
    have S : ST w0 w2 (H ++ (rowsI ra rc ps :: ps.map rowI)) := S.perm List.perm_append_comm
    have hlt := (List.getElem?_eq_some_iff.1 hn).1
    have hn' : (H ++ (rowsI ra rc ps :: ps.map rowI))[n]? = some (rdrI b a l.length c at_ false) := by rw [List.getElem?_append_left hlt]; exact hn
    have hlt' := (List.getElem?_eq_some_iff.1 hn').1
    refine ⟨_, _, _, _, _, rfl, IFB_ne (fun h => absurd rfl h) (fun _ => ?_)⟩
    simp only [PTR]
    refine S.sto n hn' (i := 2) (cs' := #[.slice a l.length c, .int .i64 (at_ : Int), .bool ((ps.length : Int) == 0)]) (by simp) rfl fun w3 S => ?_
    refine S.sto n (List.getElem?_set_self hlt') (i := 1) (cs' := #[.slice a l.length c, .int .i64 (x.2 : Int), .bool ((ps.length : Int) == 0)]) (by simp) rfl fun w4 S => ?_
    rw [List.set_set, List.set_append_left _ _ hlt] at S
    refine ⟨ra, rc, ps, x.2, ((ps.length : Int) == 0), rfl, S.perm List.perm_middle, ?_⟩
    cases hl : ps with
    | nil =>
      refine .inr ⟨rfl, fun y hy => ?_⟩
      cases hy
      rw [← hps, hl]
      rfl
    | cons p qs =>
      refine .inl ⟨?_, ?_, by simp⟩
      · simp
        omega
      · rw [← hl, hps]
def ingR (l : List UInt8) (at_ : Nat) : Option ((Nat × Nat × List Col × List (List Val)) × Nat) :=
  (numR l 0 greatN at_).bind fun x => (numR l 1 greatN x.2).bind fun y => (takeSch l (y.2 : Int)).bind fun z => (takeRows l z.1 (z.2 : Int)).bind fun u => if u.1 = [] then none else some ((x.1, y.1, z.1, u.1), u.2)
def RdrP (w0 : World) (H : List It) (bc bm N b : Nat) (a : Option Addr) (n c : Nat) (C : CatS) (Q : Nat × Nat → List Fil → CatS → Prop) (v : Value) (w' : World) : Prop :=
  ∃ at' bad' g ca Z pc cc pa ca' m, v = .func (.func g) #[] ca ∧ enters Tryz.prog g = true ∧ ST w0 w' (rdrI b a n c at' bad' :: (Z ++ (catH bc ca' cc pa pc bm m C ++ H))) ∧ (ca' = none ↔ C.cols = []) ∧ m ≤ N ∧
    ((bad' = true ∨ at' ≠ n) → Q (220, 0) [] C) ∧
    (bad' = false → at' = n → ∀ wx, ST w0 wx (rdrI b a n c at' bad' :: (Z ++ (catH bc ca' cc pa pc bm m C ++ H))) → Calls Tryz.prog g ca wx (Ret (Did w0 H bc bm (N + 1) Q)))
def Cmd1 (C : CatS) (l : List UInt8) (d : Nat × Nat) (fs : List Fil) (C' : CatS) : Prop :=
  (∃ cs, takeSch l 1 = some (cs, l.length) ∧ CreR C cs d fs C') ∨ ((∀ cs, takeSch l 1 ≠ some (cs, l.length)) ∧ d = (220, 0) ∧ fs = [] ∧ C' = C)
def Cmd2 (C : CatS) (l : List UInt8) (d : Nat × Nat) (fs : List Fil) (C' : CatS) : Prop :=
  (∃ x, ingR l 1 = some (x, l.length) ∧ IngR C x.1 x.2.1 x.2.2.1 x.2.2.2 d fs C') ∨ ((∀ x, ingR l 1 ≠ some (x, l.length)) ∧ d = (220, 0) ∧ fs = [] ∧ C' = C)
theorem create_ok {bc bm n N cc pc : Nat} {ca pa : Option Addr} {C : CatS} (S : ST w0 w (rdrI b a l.length c 1 false :: It.rd a (l.map byteV) :: (catH bc ca cc pa pc bm n C ++ H))) (hc : l.length ≤ c) (hs : l.length ≤ 1000000000) (hca : ca = none ↔ C.cols = []) (hN : n ≤ N) :
    Calls Tryz.prog f.catalog_Catalog_create #[.pointer (some ⟨bc, 0, none⟩), .pointer (some ⟨b, 0, none⟩)] w (Ret (RdrP w0 H bc bm N b a l.length c C (Cmd1 C l))) := by
  apply R.catalog_Catalog_create_calls
  unfold R.catalog_Catalog_create
  refine S.newB fun b3 w1 _ _ S => ?_
  refine (rschema_ok S 1 2 rfl rfl hc hs).mono ?_
  rintro _ w2 ⟨_, rfl, sa, sc, cs, at', bad', rfl, S, hG, _⟩
  refine ⟨_, _, _, rfl, S.newB fun b6 w3 _ _ S => S.sto 0 rfl (cs' := #[.slice sa cs.length sc]) (by simp) rfl fun w4 S => ?_⟩
  have S : ST w0 w4 (rdrI b a l.length c at' bad' :: ([It.cells b6 #[.slice sa cs.length sc] ty.L_api_Column, colsI sa sc cs, It.cells b3 #[.pointer (some ⟨bc, 0, none⟩)] ty.P_catalog_Catalog, It.rd a (l.map byteV)] ++ (catH bc ca cc pa pc bm n C ++ H))) := S.pull 3 rfl
  refine ⟨at', bad', f.catalog_Catalog_create_c1, #[.pointer (some ⟨b3, 0, none⟩), .pointer (some ⟨b6, 0, none⟩)], _, pc, cc, pa, ca, n, rfl, by kernel_rfl, S, hca, hN, fun h => .inr ⟨fun cs' e => ?_, rfl, rfl, rfl⟩, fun hb ha wx S => ?_⟩
  · rcases hG with ⟨h1, _, h2⟩ | ⟨_, h2 | h2⟩
    · rw [show ((1 : Nat) : Int) = 1 from rfl, e] at h2
      cases h2
      rcases h with h | h
      · rw [h1] at h; cases h
      · exact h rfl
    · cases h2
    · rw [show ((1 : Nat) : Int) = 1 from rfl, e] at h2; cases h2
  · subst hb
    subst ha
    obtain ⟨_, h2⟩ := hG.ok
    have hR := takeSch_right h2
    have S := S.drop 1
    have S : ST w0 wx (It.cells b3 #[.pointer (some ⟨bc, 0, none⟩)] ty.P_catalog_Catalog :: It.cells b6 #[.slice sa cs.length sc] ty.L_api_Column :: colsI sa sc cs :: (catH bc ca cc pa pc bm n C ++ H)) :=
      (S.pull 2 rfl).sub (.cons_cons _ (.cons_cons _ (.cons_cons _ (.cons _ (List.Sublist.refl _)))))
    refine (create1_ok (N := N) S hR hca hN).mono ?_
    rintro _ w' ⟨v, rfl, d, fs, C', fa, ca2, cc2, pa2, pc2, n2, h3, h4, h5, h6, h7⟩
    exact ⟨v, rfl, d, fs, C', fa, ca2, cc2, pa2, pc2, n2, .inl ⟨cs, h2, h3⟩, h4, h5, by omega, h7⟩
theorem Got.some {α : Type} {bad' : Bool} {o : Option α} {x y : α} (h : Got false bad' o x) (hy : o = Option.some y) : bad' = false ∧ x = y := by
  rcases h with ⟨h1, _, h2⟩ | ⟨_, h2 | h2⟩
  · rw [hy] at h2
    exact ⟨h1, (Option.some.inj h2).symm⟩
  · cases h2
  · rw [hy] at h2; cases h2
theorem ingR_some {l : List UInt8} {at_ : Nat} {x : Nat × Nat × List Col × List (List Val)} {k : Nat} (h : ingR l at_ = some (x, k)) :
    ∃ a1 a2 a3, numR l 0 greatN at_ = some (x.1, a1) ∧ numR l 1 greatN a1 = some (x.2.1, a2) ∧ takeSch l (a2 : Int) = some (x.2.2.1, a3) ∧ takeRows l x.2.2.1 (a3 : Int) = some (x.2.2.2, k) ∧ x.2.2.2 ≠ [] := by
  unfold ingR at h
  obtain ⟨y1, h1, h⟩ := Option.bind_eq_some_iff.1 h
  obtain ⟨y2, h2, h⟩ := Option.bind_eq_some_iff.1 h
  obtain ⟨y3, h3, h⟩ := Option.bind_eq_some_iff.1 h
  obtain ⟨y4, h4, h⟩ := Option.bind_eq_some_iff.1 h
  split at h
  · cases h
  · rename_i hne
    cases h
    exact ⟨y1.2, y2.2, y3.2, h1, h2, h3, h4, hne⟩
set_option maxHeartbeats 1000000 in
theorem ingest_ok (T : Tabs w0) {bc bm n N cc pc : Nat} {ca pa : Option Addr} {C : CatS} (S : ST w0 w (rdrI b a l.length c 1 false :: It.rd a (l.map byteV) :: (catH bc ca cc pa pc bm n C ++ H))) (hc : l.length ≤ c) (hs : l.length ≤ 1000000000) (hC : CatOK C) (hca : ca = none ↔ C.cols = []) (hN : n ≤ N) (hN2 : N < 1000000) :
    Calls Tryz.prog f.catalog_Catalog_ingest #[.pointer (some ⟨bc, 0, none⟩), .pointer (some ⟨b, 0, none⟩)] w (Ret (RdrP w0 H bc bm N b a l.length c C (Cmd2 C l))) := by
  apply R.catalog_Catalog_ingest_calls
  unfold R.catalog_Catalog_ingest
  refine S.newB fun b3 w1 _ _ S => ?_
  refine (rnumber_ok S 1 2 rfl rfl hc hs 0 greatN (Nat.le_refl _)).mono ?_
  rintro _ w2 ⟨_, rfl, z1, at1, bad1, rfl, S, G1, _⟩
  refine ⟨_, rfl, (rnumber_ok S 1 2 rfl rfl hc hs 1 greatN (Nat.le_refl _)).mono ?_⟩
  rintro _ w3 ⟨_, rfl, z2, at2, bad2, rfl, S, G2, _⟩
  refine ⟨_, rfl, S.newB fun b8 w4 _ _ S => S.newB fun b9 w5 _ _ S => S.sto 1 rfl (cs' := #[.int .i64 (z1 : Int)]) (by simp) rfl fun w6 S => S.sto 0 rfl (cs' := #[.int .i64 (z2 : Int)]) (by simp) rfl fun w7 S => ?_⟩
  refine (rschema_ok S 3 4 rfl rfl hc hs).mono ?_
  rintro _ w8 ⟨_, rfl, sa, sc, cs, at3, bad3, rfl, S, G3, _⟩
  refine ⟨_, _, _, rfl, S.newB fun b12 w9 _ _ S => S.sto 0 rfl (cs' := #[.slice sa cs.length sc]) (by simp) rfl fun w10 S => ⟨_, _, _, S.cell 0 rfl rfl, ?_⟩⟩
  have hsome : ∀ x k, ingR l 1 = some (x, k) → bad3 = false ∧ z1 = x.1 ∧ z2 = x.2.1 ∧ cs = x.2.2.1 ∧ takeRows l cs (at3 : Int) = some (x.2.2.2, k) ∧ x.2.2.2 ≠ [] := fun x k e => by
    obtain ⟨a1, a2, a3, h1, h2, h3, h4, h5⟩ := ingR_some e
    obtain ⟨rfl, e1⟩ := G1.some h1
    obtain ⟨rfl, rfl⟩ := Prod.mk.inj e1
    obtain ⟨rfl, e2⟩ := G2.some h2
    obtain ⟨rfl, rfl⟩ := Prod.mk.inj e2
    obtain ⟨rfl, e3⟩ := G3.some h3
    obtain ⟨rfl, rfl⟩ := Prod.mk.inj e3
    exact ⟨rfl, rfl, rfl, rfl, h4, h5⟩
  cases bad3 with
  | true =>
    refine (rrows_bad S 5 rfl).mono ?_
    rintro _ w11 ⟨_, rfl, rfl, rfl⟩
    refine ⟨_, _, _, rfl, S.newB fun b16 w12 _ _ S => S.sto 0 rfl (cs' := #[.slice none 0 0]) (by simp) rfl fun w13 S => ?_⟩
    have S : ST w0 w13 (rdrI b a l.length c at3 true :: ([It.cells b16 #[.slice none 0 0] ty.L_api_Row, It.cells b12 #[.slice sa cs.length sc] ty.L_api_Column, colsI sa sc cs, It.cells b9 #[.int .i64 (z2 : Int)] ty.int64, It.cells b8 #[.int .i64 (z1 : Int)] ty.int64, It.cells b3 #[.pointer (some ⟨bc, 0, none⟩)] ty.P_catalog_Catalog,
      It.rd a (l.map byteV)] ++ (catH bc ca cc pa pc bm n C ++ H))) := S.pull 6 rfl
    exact ⟨at3, true, f.catalog_Catalog_ingest_c1, _, _, pc, cc, pa, ca, n, rfl, by kernel_rfl, S, hca, hN, fun _ => .inr ⟨fun x e => (by have := (hsome x _ e).1; cases this), rfl, rfl, rfl⟩, fun h => by cases h⟩
  | false =>
    obtain ⟨hb2, h3⟩ := G3.ok
    subst hb2
    obtain ⟨hb1, h2⟩ := G2.ok
    subst hb1
    obtain ⟨_, h1⟩ := G1.ok
    have hR := takeSch_right h3
    have hcl := right_len hR
    have hq : ∀ c ∈ cs, c.1.size ≤ 9223372036854775807 := fun c hc => by have := (right_col hR hc).2.2.2; omega
    refine (rrows_ok (cc := sc) S 5 6 rfl rfl hc hs (S.rd 1 rfl) (by simp only at hcl; omega) hq).mono ?_
    rintro _ w11 ⟨_, rfl, ra, rc, ps, at4, bad4, rfl, S, G4⟩
    refine ⟨_, _, _, rfl, S.newB fun b16 w12 _ _ S => S.sto 0 rfl (cs' := #[.slice ra ps.length rc]) (by simp) rfl fun w13 S => ?_⟩
    have S := (((((((S.pull 3 rfl).pull 3 rfl).pull 4 rfl).pull 5 rfl).pull 6 rfl).pull 8 rfl).pull 8 rfl)
    let Z : List It := [It.cells b3 #[.pointer (some ⟨bc, 0, none⟩)] ty.P_catalog_Catalog, It.cells b8 #[.int .i64 (z1 : Int)] ty.int64, It.cells b9 #[.int .i64 (z2 : Int)] ty.int64, It.cells b12 #[.slice sa cs.length sc] ty.L_api_Column, colsI sa sc cs,
      It.cells b16 #[.slice ra ps.length rc] ty.L_api_Row, rowsI ra rc ps]
    have S : ST w0 w13 (rdrI b a l.length c at4 bad4 :: It.rd a (l.map byteV) :: (Z ++ ((catH bc ca cc pa pc bm n C ++ H) ++ ps.map rowI))) := S
    have S : ST w0 w13 (rdrI b a l.length c at4 bad4 :: It.rd a (l.map byteV) :: (Z ++ (ps.map rowI ++ (catH bc ca cc pa pc bm n C ++ H)))) := S.perm (List.Perm.append_left (_ :: _ :: Z) List.perm_append_comm)
    rw [← List.append_assoc] at S
    refine ⟨at4, bad4, f.catalog_Catalog_ingest_c1, _, It.rd a (l.map byteV) :: (Z ++ ps.map rowI), pc, cc, pa, ca, n, rfl, by kernel_rfl, S, hca, hN, fun h => .inr ⟨fun x e => ?_, rfl, rfl, rfl⟩, fun hb ha wx S => ?_⟩
    · obtain ⟨_, _, _, _, h4, h5⟩ := hsome x _ e
      rcases G4 with ⟨g1, g2, _⟩ | ⟨_, g2⟩
      · rw [h4] at g2
        obtain ⟨_, rfl⟩ := Prod.mk.inj (Option.some.inj g2)
        rcases h with h | h
        · rw [g1] at h; cases h
        · exact h rfl
      · exact h5 (g2 _ h4)
    · subst hb
      subst ha
      rcases G4 with ⟨_, g2, g3⟩ | ⟨g1, _⟩
      case inr => cases g1
      have hok := (takeRows_ok g2).1
      have S : ST w0 wx (rdrI b a l.length c l.length false :: It.rd a (l.map byteV) :: ((Z ++ ps.map rowI) ++ (catH bc ca cc pa pc bm n C ++ H))) := S
      rw [List.append_assoc] at S
      have S : ST w0 wx (Z ++ (catH bc ca cc pa pc bm n C ++ (ps.map rowI ++ H))) := (S.drop 2).perm (List.Perm.append_left Z (List.perm_append_comm_assoc _ _ _))
      refine (ingest1_ok (N := N) T S hok hq (numR_seg h1).2.2 (numR_seg h2).2.2 hC hca hN hN2).mono ?_
      rintro _ w' ⟨v, rfl, d, fs, C', fa, ca2, cc2, pa2, pc2, n2, e3, e4, e5, e6, e7⟩
      refine ⟨v, rfl, d, fs, C', fa, ca2, cc2, pa2, pc2, n2, .inl ⟨(z1, z2, cs, rws ps), ?_, e3⟩, e4, e5, e6, e7⟩
      have hne : rws ps ≠ [] := by
        intro h
        apply g3
        simpa [rws] using h
      unfold ingR
      rw [h1, Option.bind_some, h2, Option.bind_some, h3, Option.bind_some, g2, Option.bind_some, if_neg hne]
end
def Sel (s : ByteArray) (rf : FuncId) : Prop :=
  ((sget s 0).toNat = 1 ∧ rf = f.catalog_Catalog_create) ∨ ((sget s 0).toNat = 2 ∧ rf = f.catalog_Catalog_ingest) ∨ ((sget s 0).toNat = 3 ∧ rf = f.catalog_Catalog_merge)
theorem Apply_c1_ok (p : Option Addr) (w : World) : Calls Tryz.prog f.catalog_Catalog_Apply_c1 #[.pointer p] w (Ret fun v w' => v = .nilFunc ∧ w' = w) := by
  apply R.catalog_Catalog_Apply_c1_calls
  unfold R.catalog_Catalog_Apply_c1
  exact ⟨rfl, rfl⟩
theorem rdrI_one (b : Nat) (a : Option Addr) (n c : Nat) : It.cells b #[.slice a n c, .int .i64 1, .bool false] ty.catalog_reader = rdrI b a n c 1 false := rfl
section
variable {w0 w : World} {H : List It} {bc bm n N cc pc : Nat} {ca pa : Option Addr} {C : CatS}
set_option maxHeartbeats 1000000 in
theorem apply_core {Q : Nat × Nat → List Fil → CatS → Prop} (S : ST w0 w (catH bc ca cc pa pc bm n C ++ H)) (hca : ca = none ↔ C.cols = []) (hN : n ≤ N) (s : ByteArray)
    (hfail : s.size = 0 ∨ 262144 < s.size ∨ ((sget s 0).toNat ≠ 1 ∧ (sget s 0).toNat ≠ 2 ∧ (sget s 0).toNat ≠ 3) → Q (220, 0) [] C)
    (hread : ∀ rf, Sel s rf → 0 < s.size → s.size ≤ 262144 → ∀ (H : List It) (b : Nat) (a : Option Addr) (c : Nat) (wx : World), (bl s).length ≤ c → ST w0 wx (rdrI b a (bl s).length c 1 false :: It.rd a ((bl s).map byteV) :: (catH bc ca cc pa pc bm n C ++ H)) →
      Calls Tryz.prog rf #[.pointer (some ⟨bc, 0, none⟩), .pointer (some ⟨b, 0, none⟩)] wx (Ret (RdrP w0 H bc bm N b a (bl s).length c C Q))) :
    Calls Tryz.prog f.catalog_Catalog_Apply #[.pointer (some ⟨bc, 0, none⟩), .string s] w (Ret (Did w0 H bc bm (N + 1) Q)) := by
  apply R.catalog_Catalog_Apply_calls
  unfold R.catalog_Catalog_Apply
  have hbl := bl_length s
  refine S.newB fun b3 w1 _ _ S => IFB_of (fun h => by cases h) (fun _ => ?_)
  have kfail : ∀ {wx : World}, (s.size = 0 ∨ 262144 < s.size ∨ ((sget s 0).toNat ≠ 1 ∧ (sget s 0).toNat ≠ 2 ∧ (sget s 0).toNat ≠ 3)) → ST w0 wx (catH bc ca cc pa pc bm n C ++ H) → Did w0 H bc bm (N + 1) Q (.tuple #[.agg #[.int .i64 220, .int .i64 0], .slice none 0 0]) wx := fun h S =>
    ⟨(220, 0), [], C, none, ca, cc, pa, pc, n, hfail h, rfl, hca, by omega, stNoFile S⟩
  refine IFB_of (fun h => fail_tail (K := Did w0 H bc bm (N + 1) Q) S 220 fun w' S => kfail (.inl ?_) S) (fun h0 => ?_)
  · rw [bytesEq_iff, decide_eq_true_eq] at h
    subst h
    rfl
  have h0' : 0 < s.size := by
    rcases Nat.eq_zero_or_pos s.size with h | h
    · have : bytesEq s ⟨#[]⟩ = true := by
        rw [bytesEq_iff, decide_eq_true_eq]
        have hd : s.data.size = 0 := h
        cases s with
        | mk d => 
          have : d = #[] := Array.eq_empty_of_size_eq_zero hd
          rw [this]
      rw [this] at h0; cases h0
    · exact h
  refine IFB_dec (fun h => fail_tail (K := Did w0 H bc bm (N + 1) Q) S 220 fun w' S => kfail (.inr (.inl (by omega))) S) (fun hle => ?_)
  have S : ST w0 w1 (catH bc ca cc pa pc bm n C ++ (It.cells b3 #[.int .i64 0, .int .i64 0] ty.api_Done :: H)) := S.perm List.perm_middle.symm
  refine bytes_of_string tbytes s w1 fun b0 c0 cells e0 w2 hb0 B2 hg2 hcs hsc htk => ?_
  have hr : Rd w2 (some ⟨b0, 0, none⟩) ((bl s).map byteV) := by
    have := (Rd.of_block0 hg2).take s.size
    rw [htk] at this
    exact this
  have S := stAddRd S B2 (⟨hr, fun k hk => by cases hk; exact Nat.le_of_eq hb0.symm⟩ : RdN w1 w2 _ _)
  refine ⟨_, _, _, rfl, S.newB fun b24 w12 _ _ S => ?_⟩
  rw [rdrI_one, ← hbl] at S
  refine ⟨fun s' wx => ∃ rf fi, s' = [.func (.func rf) fi #[]] ∧ ((Sel s rf ∧ fi = #[.pointer (some ⟨bc, 0, none⟩)]) ∨ (rf = f.catalog_Catalog_Apply_c1 ∧ fi = #[] ∧ ((sget s 0).toNat ≠ 1 ∧ (sget s 0).toNat ≠ 2 ∧ (sget s 0).toNat ≠ 3))) ∧
    ST w0 wx (rdrI b24 (some ⟨b0, 0, none⟩) (bl s).length c0 1 false :: It.rd (some ⟨b0, 0, none⟩) ((bl s).map byteV) :: (catH bc ca cc pa pc bm n C ++ (It.cells b3 #[.int .i64 0, .int .i64 0] ty.api_Done :: H))), ⟨⟨by omega, by omega⟩, ?_⟩, ?_⟩
  · refine IFB_eq (fun h => ⟨_, _, rfl, .inl ⟨.inl ⟨by omega, rfl⟩, rfl⟩, S⟩) (fun h1 => IFB_eq (fun h => ⟨_, _, rfl, .inl ⟨.inr (.inl ⟨by omega, rfl⟩), rfl⟩, S⟩) (fun h2 => IFB_eq (fun h => ⟨_, _, rfl, .inl ⟨.inr (.inr ⟨by omega, rfl⟩), rfl⟩, S⟩) (fun h3 => ⟨_, _, rfl, .inr ⟨rfl, rfl, by omega, by omega, by omega⟩, S⟩)))
  clear S
  rintro rf fi _ w13 ⟨_, _, hs, hsel, S⟩
  cases hs
  rcases hsel with ⟨hsel, rfl⟩ | ⟨rfl, rfl, hno⟩
  · have hen : enters Tryz.prog rf = true := by
      rcases hsel with ⟨_, rfl⟩ | ⟨_, rfl⟩ | ⟨_, rfl⟩
      · kernel_rfl
      · kernel_rfl
      · kernel_rfl
    rw [hen]
    refine (hread rf hsel h0' (by omega) _ b24 _ c0 w13 (by omega) S).mono ?_
    clear S
    rintro _ w14 ⟨_, rfl, at', bad', g, ca2, Z, pc2, cc2, pa2, ca3, m, rfl, hen2, S, hca2, hm, hf2, hgood⟩
    refine .inl ⟨_, _, _, rfl, (rwhole_ok S 0 rfl).mono ?_⟩
    clear S
    rintro _ w15 ⟨_, rfl, rfl, S⟩
    refine ⟨_, rfl, IFB_not (IFB_of (fun hw => ?_) (fun hw => ?_))⟩
    · simp only [Bool.and_eq_true, Bool.not_eq_true', decide_eq_true_eq] at hw
      rw [hen2]
      refine (hgood hw.1 hw.2 w15 S).mono ?_
      clear S
      rintro _ w19 ⟨_, rfl, d, fs, C', fa, ca4, cc4, pa4, pc4, n4, hQ, rfl, h5, h6, S⟩
      obtain ⟨d1, d2⟩ := d
      refine ⟨_, _, _, _, _, rfl, S.sto 5 rfl (cs' := #[.int .i64 (d1 : Int), .int .i64 0]) (by simp) rfl fun w20 S => S.sto 5 rfl (cs' := #[.int .i64 (d1 : Int), .int .i64 (d2 : Int)]) (by simp) rfl fun w21 S => ⟨_, S.cell 5 rfl rfl, _, S.cell 5 rfl rfl, ?_⟩⟩
      exact ⟨(d1, d2), fs, C', fa, ca4, cc4, pa4, pc4, n4, hQ, rfl, h5, h6, S.sub (.cons_cons _ (.cons_cons _ (.cons_cons _ (.cons_cons _ (.cons_cons _ (.cons _ (List.Sublist.refl _)))))))⟩
    · have hw' : bad' = true ∨ at' ≠ (bl s).length := by
        simp only [Bool.and_eq_false_iff, Bool.not_eq_false', decide_eq_false_iff_not] at hw
        exact hw
      have S := ((S.drop 1).sub (List.sublist_append_right Z _)).perm List.perm_middle
      exact fail_tail (K := Did w0 H bc bm (N + 1) Q) S 220 fun w' S => ⟨(220, 0), [], C, none, ca3, cc2, pa2, pc2, m, hf2 hw', rfl, hca2, by omega, stNoFile S⟩
  · rw [show enters Tryz.prog f.catalog_Catalog_Apply_c1 = true by kernel_rfl]
    refine (Apply_c1_ok _ w13).mono ?_
    rintro _ w14 ⟨_, rfl, rfl, rfl⟩
    have S := (S.drop 2).perm List.perm_middle
    exact .inr ⟨rfl, fail_tail (K := Did w0 H bc bm (N + 1) Q) S 220 fun w' S => kfail (.inr (.inr hno)) S⟩
end
def creL (cs : List Col) : List UInt8 := 1 :: schL cs
def creV (cs : List Col) : Value := if rightCols cs then .tuple #[.string (sof (creL cs)), .int .i64 0] else .tuple #[.string (sof []), .int .i64 50]
def ingL (x y : Nat) (cs : List Col) (rows : List (List Val)) : List UInt8 := 2 :: (digitsL x ++ digitsL y ++ schL cs ++ rowsL rows)
def argBad (x y : Int) : Prop := x < 0 ∨ 4611686018427387904 < x ∨ y < 1 ∨ 4611686018427387904 < y
instance (x y : Int) : Decidable (argBad x y) := by unfold argBad; infer_instance
def ingE (x y : Int) (cs : List Col) (rows : List (List Val)) : Int :=
  if argBad x y ∨ rows = [] then 2 else if segE cs rows ≠ 0 then segE cs rows else if 262144 < (ingL x.toNat y.toNat cs rows).length then 130 else 0
def ingV (x y : Int) (cs : List Col) (rows : List (List Val)) : Value :=
  if ingE x y cs rows = 0 then .tuple #[.string (sof (ingL x.toNat y.toNat cs rows)), .int .i64 0] else .tuple #[.string (sof []), .int .i64 (ingE x y cs rows)]
section
variable {w0 w : World} {H : List It} {a a2 : Option Addr} {c c2 : Nat} {cs : List Col} {ps : List RowP}
theorem Create_ok (hcs : Rd w a (colsL cs)) (hn : cs.length ≤ 9223372036854775807) (hq : ∀ c ∈ cs, c.1.size ≤ 9223372036854775807) :
    Calls Tryz.prog f.catalog_Create #[.slice a cs.length c] w (Ret fun v w' => v = creV cs ∧ Below w.heap.size w w') := by
  apply R.catalog_Create_calls
  unfold R.catalog_Create
  refine (ST.start w).newB fun b2 w1 _ B1 S => ?_
  have h1 : Rd w1 (some ⟨b2, 0, none⟩) (([1] : List UInt8).map byteV) := S.rdc 0 rfl
  refine (schema_Lay_ok (l := [1]) (c := 1) h1 (by simp) (hcs.grown B1) hn hq).mono ?_
  rintro _ w2 ⟨_, rfl, h2⟩
  rcases h2 with ⟨hR, rfl, B2⟩ | ⟨hR, a', c', rfl, h2⟩
  · refine ⟨_, _, _, _, rfl, string_of_bytes tbytes (l := []) rfl (Rd.nil _ _) ⟨_, rfl, ?_, below_trans B1 B2⟩⟩
    simp [creV, hR]
  · refine ⟨_, _, _, _, rfl, string_of_bytes tbytes rfl h2.rd ⟨_, rfl, ?_, below_trans B1 h2.bel⟩⟩
    simp [creV, hR, creL]
theorem isNumber_ok (x y : Int) (w : World) : Calls Tryz.prog f.catalog_isNumber #[.int .i64 x, .int .i64 y] w (Ret fun v w' => v = .bool (decide (y ≤ x ∧ x ≤ 4611686018427387904)) ∧ w' = w) := by
  apply R.catalog_isNumber_calls
  unfold R.catalog_isNumber
  refine IFB_dec (fun h => ⟨?_, rfl⟩) (fun h => ⟨?_, rfl⟩)
  · congr 1
    have : y ≤ x := h
    simp [this]
  · congr 1
    have : ¬ y ≤ x := h
    simp [this]
theorem bounded_ok {l : List UInt8} (hl : Rd w a (l.map byteV)) : Calls Tryz.prog f.catalog_bounded #[.slice a l.length c] w (Ret fun v w' => v = (if 262144 < l.length then .tuple #[.string (sof []), .int .i64 130] else .tuple #[.string (sof l), .int .i64 0]) ∧ w' = w) := by
  apply R.catalog_bounded_calls
  unfold R.catalog_bounded
  refine IFB_dec (fun h => ⟨?_, rfl⟩) (fun h => string_of_bytes tbytes rfl hl ⟨_, rfl, ?_, rfl⟩)
  · rw [if_pos (by omega)]; rfl
  · rw [if_neg (by omega)]
theorem Ingest_ok (x y : Int) (hcs : Rd w a (colsL cs)) (hn : cs.length ≤ 9223372036854775807) (hq : ∀ c ∈ cs, c.1.size ≤ 9223372036854775807) (hr : RowsAt w a2 ps) (hm : ps.length ≤ 9223372036854775807) (hv : ∀ r ∈ rws ps, ∀ v ∈ r, ValOk v) :
    Calls Tryz.prog f.catalog_Ingest #[.int .i64 x, .int .i64 y, .slice a cs.length c, .slice a2 ps.length c2] w (Ret fun v w' => v = ingV x y cs (rws ps) ∧ Below w.heap.size w w') := by
  apply R.catalog_Ingest_calls
  unfold R.catalog_Ingest
  have bad2 : (argBad x y ∨ rws ps = []) → ∀ {wx : World}, Below w.heap.size w wx → Value.tuple #[.string ⟨#[]⟩, .int .i64 2] = ingV x y cs (rws ps) ∧ Below w.heap.size w wx := fun h wx B => by
    have e : ingE x y cs (rws ps) = 2 := if_pos h
    refine ⟨?_, B⟩
    rw [ingV, e, if_neg (by decide)]
    rfl
  refine (isNumber_ok x 0 w).mono ?_
  rintro _ w1 ⟨_, rfl, rfl, rfl⟩
  refine ⟨_, rfl, IFB_not (IFB_dec (fun h1 => ?_) (fun h1 => bad2 (.inl (by unfold argBad; omega)) (.refl _ _)))⟩
  refine (isNumber_ok y 1 w1).mono ?_
  rintro _ w1 ⟨_, rfl, rfl, rfl⟩
  refine ⟨_, rfl, IFB_not (IFB_dec (fun h2 => ?_) (fun h2 => bad2 (.inl (by unfold argBad; omega)) (.refl _ _)))⟩
  refine IFB_eq (fun h => bad2 (.inr ?_) (.refl _ _)) (fun h3 => ?_)
  · have : ps.length = 0 := by omega
    rw [List.length_eq_zero_iff.1 this]
    rfl
  have hno : ¬ (argBad x y ∨ rws ps = []) := by
    rintro (h | h)
    · unfold argBad at h; omega
    · apply h3
      have : ps.length = 0 := by simpa [rws] using h
      omega
  refine (ST.start w1).newB fun b9 w3 _ _ S => ?_
  have hl1 : Rd w3 (some ⟨b9, 0, none⟩) (([2] : List UInt8).map byteV) := S.rdc 0 rfl
  have ex : IntKind.u64.wrap x = ((x.toNat : Nat) : Int) := by rw [wrap_u64_id (by omega) (by omega)]; omega
  have ey : IntKind.u64.wrap y = ((y.toNat : Nat) : Int) := by rw [wrap_u64_id (by omega) (by omega)]; omega
  rw [ex, ey]
  have dx := digitsL_len10 (n := x.toNat) (by omega)
  have dy := digitsL_len10 (n := y.toNat) (by omega)
  refine (wire_Number_ok (c := 1) [2] hl1 x.toNat (by omega) (by simp)).mono ?_
  rintro _ w4 ⟨_, rfl, a4, c4, rfl, h4⟩
  have S := stAddB S h4
  refine ⟨_, _, _, rfl, (wire_Number_ok _ h4.rd y.toNat (by omega) (by simp only [List.length_append, List.length_cons, List.length_nil]; omega)).mono ?_⟩
  rintro _ w5 ⟨_, rfl, a5, c5, rfl, h5⟩
  have S := stAddB S h5
  obtain ⟨l5, hl5⟩ : ∃ l5, l5 = [2] ++ digitsL x.toNat ++ digitsL y.toNat := ⟨_, rfl⟩
  rw [← hl5] at h5 S ⊢
  have hl5l : l5.length ≤ 21 := by rw [hl5]; simp only [List.length_append, List.length_cons, List.length_nil]; omega
  refine ⟨_, _, _, rfl, (schema_Lay_ok (l := l5) h5.rd (by omega) (hcs.grown S.bel) hn hq).mono ?_⟩
  rintro _ w6 ⟨_, rfl, h6⟩
  have bad5 : ∀ (e : Int), segE cs (rws ps) = e → e ≠ 0 → ∀ {wx : World}, Below w1.heap.size w1 wx → Value.tuple #[.string ⟨#[]⟩, .int .i64 e] = ingV x y cs (rws ps) ∧ Below w1.heap.size w1 wx := fun e he h0 wx B => by
    have e2 : ingE x y cs (rws ps) = e := by rw [ingE, if_neg hno, he, if_pos h0]
    refine ⟨?_, B⟩
    rw [ingV, e2, if_neg h0]
    rfl
  rcases h6 with ⟨hR, rfl, B6⟩ | ⟨hR, a6, c6, rfl, h6⟩
  · refine ⟨_, _, _, _, rfl, fun s wx => s = [.slice none 0 0, .int .i64 50] ∧ wx = w6, IFB_eq (fun h => by cases h) (fun _ => ⟨rfl, rfl⟩), ?_⟩
    rintro _ _ _ _ wx ⟨hs, rfl⟩
    cases hs
    exact IFB_ne (fun _ => bad5 50 (by rw [segE, if_pos hR]) (by decide) (below_trans S.bel B6)) (fun h => by cases h)
  · have S := stAddB S h6
    have hsl := schL_len hR
    obtain ⟨l6, hl6⟩ : ∃ l6, l6 = l5 ++ schL cs := ⟨_, rfl⟩
    rw [← hl6] at h6 S ⊢
    have hl6l : l6.length ≤ 10000 := by rw [hl6, List.length_append]; omega
    refine ⟨_, _, _, _, rfl, fun s wx => Below w1.heap.size w1 wx ∧ ((segE cs (rws ps) ≠ 0 ∧ s = [.slice none 0 0, .int .i64 (segE cs (rws ps))]) ∨ (SegOk cs (rws ps) ∧ ∃ a c, s = [.slice a (l6 ++ rowsL (rws ps)).length c, .int .i64 0] ∧ Rd wx a ((l6 ++ rowsL (rws ps)).map byteV))),
      IFB_eq (fun _ => ?_) (fun h => absurd rfl h), ?_⟩
    · refine (schema_LayRows_ok (c := c6) (c2 := c) (c3 := c2) h6.rd (by omega) (hcs.grown S.bel) hn hq (hr.grown S.bel) hm hv).mono ?_
      rintro _ w7 ⟨_, rfl, h7⟩
      rcases h7 with ⟨_, rfl, h0, B7⟩ | ⟨hok, a7, c7, rfl, h7⟩
      · exact ⟨_, _, _, _, rfl, below_trans S.bel B7, .inl ⟨h0, rfl⟩⟩
      · exact ⟨_, _, _, _, rfl, below_trans S.bel h7.bel, .inr ⟨hok, a7, c7, rfl, h7.rd⟩⟩
    · rintro _ _ _ _ wx ⟨B, hs⟩
      rcases hs with ⟨h0, hs⟩ | ⟨hok, a7, c7, hs, hrd⟩
      · cases hs
        exact IFB_ne (fun _ => bad5 _ rfl h0 B) (fun h => absurd h h0)
      · cases hs
        have h0 : segE cs (rws ps) = 0 := by
          by_cases h : segE cs (rws ps) = 0
          · exact h
          · exact absurd hok (segE_bad h)
        refine IFB_ne (fun h => absurd rfl h) (fun _ => (bounded_ok hrd).mono ?_)
        rintro _ w9 ⟨_, rfl, rfl, rfl⟩
        have e : l6 ++ rowsL (rws ps) = ingL x.toNat y.toNat cs (rws ps) := by rw [hl6, hl5, ingL]; simp
        rw [e]
        by_cases hb : 262144 < (ingL x.toNat y.toNat cs (rws ps)).length
        · rw [if_pos hb]
          refine ⟨_, _, rfl, ?_, B⟩
          have e2 : ingE x y cs (rws ps) = 130 := by rw [ingE, if_neg hno, if_neg (by rw [h0]; decide), if_pos hb]
          rw [ingV, e2, if_neg (by decide)]
        · rw [if_neg hb]
          refine ⟨_, _, rfl, ?_, B⟩
          have e2 : ingE x y cs (rws ps) = 0 := by rw [ingE, if_neg hno, if_neg (by rw [h0]; decide), if_neg hb]
          rw [ingV, e2, if_pos rfl]
theorem New_ok (w : World) : Calls Tryz.prog f.catalog_New #[] w (Ret fun v w' => ∃ bc bm, v = .pointer (some ⟨bc, 0, none⟩) ∧ ST w w' (catH bc none 0 none 0 bm 0 ⟨[], [], []⟩)) := by
  apply R.catalog_New_calls
  unfold R.catalog_New
  refine (ST.start w).newMapI (k := ty.int64) ty.map_int64_catalog_client (fun bm w1 S hb => ⟨_, rfl, S.newB fun b3 w2 _ _ S => ⟨b3, bm, rfl, ?_⟩⟩) rfl
  have S : ST w w2 (It.cells b3 #[.slice none 0 0, .slice none 0 0, .map (some bm)] ty.catalog_Catalog :: It.mapI Tryz.prog ty.int64 bm 0 (gOf []) :: []) := by
    rw [gOf_nil]
    exact S
  have S := (S.nil ty.api_Part 2).nil ty.api_Column 3
  exact S.pull 2 rfl
end
section
variable {w0 w : World} {H : List It} {a a2 a3 : Option Addr} {c c2 c3 : Nat} {l : List UInt8} {cs : List Col} {ps : List RowP}
set_option maxHeartbeats 1000000 in
theorem ref05_LayRows_ok (hl : Rd w a (l.map byteV)) (hs : l.length + 20000000 ≤ 140737488355328) (hcs : Rd w a2 (colsL cs)) (hn : cs.length ≤ 9223372036854775807) (hq : ∀ c ∈ cs, c.1.size ≤ 9223372036854775807) (hr : RowsAt w a3 ps) (hm : ps.length ≤ 9223372036854775807) (hv : ∀ r ∈ rws ps, ∀ v ∈ r, ValOk v) :
    Calls Tryz.prog f.ref05_LayRows #[.slice a l.length c, .slice a2 cs.length c2, .slice a3 ps.length c3] w (Ret fun v w' => LayRV l cs (rws ps) w w' v) := by
  apply R.ref05_LayRows_calls
  unfold R.ref05_LayRows
  refine (ref05_Right_ok hcs hn hq).mono ?_
  rintro _ w1 ⟨_, rfl, rfl, rfl⟩
  have bad : ∀ {wx : World} (e : Int), Below w1.heap.size w1 wx → segE cs (rws ps) = e → e ≠ 0 → LayRV l cs (rws ps) w1 wx (.tuple #[.slice none 0 0, .int .i64 e]) := by
    rintro wx e B rfl h0
    exact .inl ⟨segE_bad h0, rfl, h0, B⟩
  have S := ST.start w1
  refine ⟨_, rfl, IFB_not (IFB_of (fun hR => ?_) (fun hR => bad 50 S.bel (by rw [segE, if_pos hR]) (by decide)))⟩
  have hRn : ¬ rightCols cs = false := by rw [hR]; decide
  refine IFB_dec (fun h => bad 51 S.bel ?_ (by decide)) (fun hlen => ?_)
  · have : 1024 < (rws ps).length := by simp only [rws, List.length_map]; omega
    rw [segE, if_neg hRn, if_pos (.inl this)]
  have hlen' : ps.length ≤ 1024 := by omega
  have hcl := right_len hR
  rw [wrap_u64_id (by omega) (by omega)]
  have d1 := digitsL_len10 (n := ps.length) (by omega)
  refine (ref_Number_ok l hl ps.length (by omega) (by omega)).mono ?_
  rintro _ w2 ⟨_, rfl, a2', c2', rfl, h2⟩
  have S := stAddB S h2
  have hwl : (rws ps).length = ps.length := by simp [rws]
  have hbad2 : ∀ {wx : World} (r : List Val), Below w1.heap.size w1 wx → r ∈ rws ps → fitsB cs r = false → LayRV l cs (rws ps) w1 wx (.tuple #[.slice none 0 0, .int .i64 51]) := fun r B h1 h2 =>
    bad 51 B (by rw [segE, if_neg hRn, if_pos (.inr ⟨r, h1, h2⟩)]) (by decide)
  have hlim : ∀ i, i ≤ ps.length → (∀ r ∈ (rws ps).take i, fitsB cs r = true) → (((rws ps).take i).flatMap rowL).length ≤ 17039360 := fun i hi hf => by
    have hs2 : SegOk cs ((rws ps).take i) := ⟨hR, by rw [List.length_take]; omega, hf, fun r hr => hv r (List.mem_of_mem_take hr)⟩
    have := rowsL_len (i := ((rws ps).take i).length) hs2
    rwa [List.take_length] at this
  refine ⟨_, _, _, rfl, fun s wx => ∃ (i : Nat) (out : List UInt8) (oa : Option Addr) (oc : Nat), s = [.slice oa out.length oc, .int .i64 (i : Int)] ∧ i ≤ ps.length ∧ out = l ++ digitsL ps.length ++ ((rws ps).take i).flatMap rowL ∧ (∀ r ∈ (rws ps).take i, fitsB cs r = true) ∧ ST w1 wx [bytesI oa oc out], fun s _ => match s with
    | [_, .int _ i] => ps.length - i.toNat
    | _ => 0, ⟨0, _, a2', c2', rfl, by omega, by simp, by simp, S⟩, ?_⟩
  clear S h2
  rintro oa _ oc _ w4 ⟨i, out, _, _, hst, hi, hout, hfit, S⟩
  cases hst
  refine IFB_dec (fun hlt => ?_) (fun hge => ?_)
  · have hil : i < ps.length := by omega
    have hir : i < (rws ps).length := by omega
    obtain ⟨q, rfl, hq1, hrv⟩ := (hr.grown S.bel).at hil
    have ei : (rws ps)[i] = ps[i].2.2 := by simp [rws]
    have hol : out.length ≤ l.length + 10 + 17039360 := by rw [hout]; simp only [List.length_append]; have := hlim i hi hfit; omega
    refine ⟨⟨by omega, by omega⟩, _, _, _, by rw [Int.toNat_natCast]; exact hq1, ?_⟩
    have hmem : ps[i].2.2 ∈ rws ps := by rw [← ei]; exact List.getElem_mem hir
    refine (ref05_Fits_ok (hcs.grown S.bel) hn hq hrv).mono ?_
    rintro _ w6 ⟨_, rfl, rfl, B6⟩
    have S := S.grown B6
    rw [hR, Bool.true_and]
    refine ⟨_, rfl, IFB_not (IFB_of (fun hf => ?_) (fun hf => hbad2 _ S.bel hmem hf))⟩
    obtain ⟨row, hrow⟩ : ∃ row, row = ps[i].2.2 := ⟨_, rfl⟩
    rw [← hrow] at hf hmem ei
    have hrl := fits_len hf
    have hok := hv row hmem
    have hrow2 := row_len (cs := cs) (rows := [row]) ⟨hR, by simp, fun r hr => by rw [List.mem_singleton.1 hr]; exact hf, fun r hr => by rw [List.mem_singleton.1 hr]; exact hok⟩ (List.mem_singleton.2 rfl)
    refine ⟨fun s wx => ∃ (k : Nat) (out' : List UInt8) (oa : Option Addr) (oc : Nat), s = [.slice oa out'.length oc, .int .i64 (k : Int)] ∧ k ≤ cs.length ∧ out' = out ++ (row.take k).flatMap layL ∧ ST w1 wx [bytesI oa oc out'], fun s _ => match s with
      | [_, .int _ i] => cs.length - i.toNat
      | _ => 0, ⟨0, out, _, _, rfl, by omega, by simp, S⟩, ?_⟩
    clear S
    rintro oa _ oc _ w7 ⟨k, out', _, _, hst, hk, hout', S⟩
    cases hst
    refine IFB_dec (fun hlt2 => ?_) (fun hge2 => ?_)
    · have hkl : k < row.length := by omega
      obtain ⟨q5, hq5, hq6, hrv7⟩ := (hr.grown S.bel).at hil
      cases hq5
      rw [← hrow] at hq6 hrv7
      obtain ⟨q2, hq2, e0, e1, e2⟩ := val_at hrv7 hkl
      rw [hq2] at hq6
      refine ⟨⟨by omega, by omega⟩, _, _, _, by rw [Int.toNat_natCast]; exact hq6, ?_⟩
      refine ⟨⟨by omega, by omega⟩, _, by rw [Int.toNat_natCast]; exact e0, _, by rw [Int.toNat_natCast]; exact e1, _, by rw [Int.toNat_natCast]; exact e2, ?_⟩
      refine (ref04_Lay_ok (a := none) (c := 0) [] (Rd.nil _ _) row[k] (hok _ (List.getElem_mem hkl)) (by simp)).mono ?_
      rintro _ w12 ⟨_, rfl, h12⟩
      obtain ⟨xa, xc, rfl, n12⟩ := lay_good (fits_right hf hkl) h12
      rw [List.nil_append] at n12 ⊢
      have S := S.grown n12.bel
      have hpre : ((row.take k).flatMap layL).length + (layL row[k]).length ≤ (rowL row).length := by
        rw [← List.length_append, show (row.take k).flatMap layL ++ layL row[k] = (row.take (k + 1)).flatMap layL by rw [List.take_succ_eq_append_getElem hkl, List.flatMap_append]; simp]
        have e : rowL row = (row.take (k + 1)).flatMap layL ++ (row.drop (k + 1)).flatMap layL := by rw [← List.flatMap_append, List.take_append_drop]; rfl
        rw [e, List.length_append]
        omega
      refine ⟨_, _, _, _, rfl, stAppK S 0 rfl rfl n12.rd (by rw [hout', List.length_append]; omega) fun a' c' w14 S => ⟨_, _, _, rfl, ?_⟩⟩
      rw [wrap_succ (by omega)]
      refine ⟨⟨k + 1, out' ++ layL row[k], a', c', rfl, by omega, ?_, S⟩, by simp only [Int.toNat_natCast]; omega⟩
      rw [hout', List.take_succ_eq_append_getElem hkl, List.flatMap_append]
      simp
    · obtain rfl : k = cs.length := by omega
      rw [wrap_succ (by omega)]
      rw [List.take_of_length_le (by omega)] at hout'
      refine ⟨⟨i + 1, out', _, _, rfl, by omega, ?_, fun r hr' => ?_, S⟩, by simp only [Int.toNat_natCast]; omega⟩
      · rw [hout', hout, List.take_succ_eq_append_getElem hir, List.flatMap_append, ei]
        simp [rowL]
      · rw [List.take_succ_eq_append_getElem hir] at hr'
        rcases List.mem_append.1 hr' with h | h
        · exact hfit r h
        · rw [List.mem_singleton.1 h, ei]; exact hf
  · obtain rfl : i = ps.length := by omega
    rw [List.take_of_length_le (by omega)] at hout hfit
    have hok : SegOk cs (rws ps) := ⟨hR, by omega, hfit, hv⟩
    have e : out = l ++ rowsL (rws ps) := by rw [hout, rowsL, hwl, List.append_assoc]
    subst e
    exact .inr ⟨hok, _, _, rfl, stNew S 0 rfl⟩
theorem ref22_Create_ok (hcs : Rd w a (colsL cs)) (hn : cs.length ≤ 9223372036854775807) (hq : ∀ c ∈ cs, c.1.size ≤ 9223372036854775807) :
    Calls Tryz.prog f.ref22_Create #[.slice a cs.length c] w (Ret fun v w' => v = creV cs ∧ Below w.heap.size w w') := by
  apply R.ref22_Create_calls
  unfold R.ref22_Create
  refine (ST.start w).newB fun b2 w1 _ B1 S => ?_
  have h1 : Rd w1 (some ⟨b2, 0, none⟩) (([1] : List UInt8).map byteV) := S.rdc 0 rfl
  refine (ref05_Lay_ok (l := [1]) (c := 1) h1 (by simp) (hcs.grown B1) hn hq).mono ?_
  rintro _ w2 ⟨_, rfl, h2⟩
  rcases h2 with ⟨hR, rfl, B2⟩ | ⟨hR, a', c', rfl, h2⟩
  · refine ⟨_, _, _, _, rfl, IFB_ne (fun _ => ⟨?_, below_trans B1 B2⟩) (fun h => by cases h)⟩
    simp [creV, hR]
    rfl
  · refine ⟨_, _, _, _, rfl, IFB_ne (fun h => absurd rfl h) (fun _ => string_of_bytes tbytes rfl h2.rd ⟨_, rfl, ?_, below_trans B1 h2.bel⟩)⟩
    simp [creV, hR, creL]
theorem ref22_Ingest_ok (x y : Int) (hcs : Rd w a (colsL cs)) (hn : cs.length ≤ 9223372036854775807) (hq : ∀ c ∈ cs, c.1.size ≤ 9223372036854775807) (hr : RowsAt w a2 ps) (hm : ps.length ≤ 9223372036854775807) (hv : ∀ r ∈ rws ps, ∀ v ∈ r, ValOk v) :
    Calls Tryz.prog f.ref22_Ingest #[.int .i64 x, .int .i64 y, .slice a cs.length c, .slice a2 ps.length c2] w (Ret fun v w' => v = ingV x y cs (rws ps) ∧ Below w.heap.size w w') := by
  apply R.ref22_Ingest_calls
  unfold R.ref22_Ingest
  have bad2 : (argBad x y ∨ rws ps = []) → Value.tuple #[.string ⟨#[]⟩, .int .i64 2] = ingV x y cs (rws ps) ∧ Below w.heap.size w w := fun h => by
    have e : ingE x y cs (rws ps) = 2 := if_pos h
    refine ⟨?_, .refl _ _⟩
    rw [ingV, e, if_neg (by decide)]
    rfl
  refine IFB_dec (fun h => bad2 (.inl (.inl h))) (fun h1 => IFB_dec (fun h => bad2 (.inl (.inr (.inl h)))) (fun h2 => IFB_dec (fun h => bad2 (.inl (.inr (.inr (.inl h))))) (fun h3 => IFB_dec (fun h => bad2 (.inl (.inr (.inr (.inr h))))) (fun h4 => IFB_eq (fun h => bad2 (.inr ?_)) (fun h5 => ?_)))))
  · have : ps.length = 0 := by omega
    rw [List.length_eq_zero_iff.1 this]
    rfl
  have hno : ¬ (argBad x y ∨ rws ps = []) := by
    rintro (h | h)
    · unfold argBad at h; omega
    · apply h5
      have : ps.length = 0 := by simpa [rws] using h
      omega
  refine (ST.start w).newB fun b9 w3 _ _ S => ?_
  have hl1 : Rd w3 (some ⟨b9, 0, none⟩) (([2] : List UInt8).map byteV) := S.rdc 0 rfl
  have ex : IntKind.u64.wrap x = ((x.toNat : Nat) : Int) := by rw [wrap_u64_id (by omega) (by omega)]; omega
  have ey : IntKind.u64.wrap y = ((y.toNat : Nat) : Int) := by rw [wrap_u64_id (by omega) (by omega)]; omega
  rw [ex, ey]
  have dx := digitsL_len10 (n := x.toNat) (by omega)
  have dy := digitsL_len10 (n := y.toNat) (by omega)
  refine (ref_Number_ok (c := 1) [2] hl1 x.toNat (by omega) (by simp)).mono ?_
  rintro _ w4 ⟨_, rfl, a4, c4, rfl, h4⟩
  have S := stAddB S h4
  refine ⟨_, _, _, rfl, (ref_Number_ok _ h4.rd y.toNat (by omega) (by simp only [List.length_append, List.length_cons, List.length_nil]; omega)).mono ?_⟩
  rintro _ w5 ⟨_, rfl, a5, c5, rfl, h5⟩
  have S := stAddB S h5
  obtain ⟨l5, hl5⟩ : ∃ l5, l5 = [2] ++ digitsL x.toNat ++ digitsL y.toNat := ⟨_, rfl⟩
  rw [← hl5] at h5 S ⊢
  have hl5l : l5.length ≤ 21 := by rw [hl5]; simp only [List.length_append, List.length_cons, List.length_nil]; omega
  refine ⟨_, _, _, rfl, (ref05_Lay_ok (l := l5) h5.rd (by omega) (hcs.grown S.bel) hn hq).mono ?_⟩
  rintro _ w6 ⟨_, rfl, h6⟩
  have bad5 : ∀ (e : Int), segE cs (rws ps) = e → e ≠ 0 → ∀ {wx : World}, Below w.heap.size w wx → Value.tuple #[.string ⟨#[]⟩, .int .i64 e] = ingV x y cs (rws ps) ∧ Below w.heap.size w wx := fun e he h0 wx B => by
    have e2 : ingE x y cs (rws ps) = e := by rw [ingE, if_neg hno, he, if_pos h0]
    refine ⟨?_, B⟩
    rw [ingV, e2, if_neg h0]
    rfl
  rcases h6 with ⟨hR, rfl, B6⟩ | ⟨hR, a6, c6, rfl, h6⟩
  · exact ⟨_, _, _, _, rfl, IFB_ne (fun _ => bad5 50 (by rw [segE, if_pos hR]) (by decide) (below_trans S.bel B6)) (fun h => by cases h)⟩
  have S := stAddB S h6
  have hsl := schL_len hR
  obtain ⟨l6, hl6⟩ : ∃ l6, l6 = l5 ++ schL cs := ⟨_, rfl⟩
  rw [← hl6] at h6 S ⊢
  have hl6l : l6.length ≤ 10000 := by rw [hl6, List.length_append]; omega
  refine ⟨_, _, _, _, rfl, IFB_ne (fun h => absurd rfl h) (fun _ => (ref05_LayRows_ok (c := c6) (c2 := c) (c3 := c2) h6.rd (by omega) (hcs.grown S.bel) hn hq (hr.grown S.bel) hm hv).mono ?_)⟩
  rintro _ w7 ⟨_, rfl, h7⟩
  rcases h7 with ⟨_, rfl, h0, B7⟩ | ⟨hok, a7, c7, rfl, h7⟩
  · exact ⟨_, _, _, _, rfl, IFB_ne (fun _ => bad5 _ rfl h0 (below_trans S.bel B7)) (fun h => absurd h h0)⟩
  have h0 : segE cs (rws ps) = 0 := by
    by_cases h : segE cs (rws ps) = 0
    · exact h
    · exact absurd hok (segE_bad h)
  have e : l6 ++ rowsL (rws ps) = ingL x.toNat y.toNat cs (rws ps) := by rw [hl6, hl5, ingL]; simp
  rw [e] at h7 ⊢
  refine ⟨_, _, _, _, rfl, IFB_ne (fun h => absurd rfl h) (fun _ => IFB_dec (fun hb => ⟨?_, below_trans S.bel h7.bel⟩) (fun hb => string_of_bytes tbytes rfl h7.rd ⟨_, rfl, ?_, below_trans S.bel h7.bel⟩))⟩
  · have e2 : ingE x y cs (rws ps) = 130 := by rw [ingE, if_neg hno, if_neg (by rw [h0]; decide), if_pos (by omega)]
    rw [ingV, e2, if_neg (by decide)]
    rfl
  · have e2 : ingE x y cs (rws ps) = 0 := by rw [ingE, if_neg hno, if_neg (by rw [h0]; decide), if_neg (by omega)]
    rw [ingV, e2, if_pos rfl]
end
theorem prts_one (ps : List Prt) : ∀ u ∈ prtsL ps, u.oneCell' = true := by
  intro u hu
  obtain ⟨v, _, hv⟩ := List.mem_flatMap.1 hu
  simp only [prtC, List.mem_cons, List.not_mem_nil, or_false] at hv
  rcases hv with rfl | rfl <;> rfl
theorem CloneP_ok {w : World} {a : Option Addr} {c : Nat} {vs : List Prt} (h : Rd w a (prtsL vs)) (hl : vs.length ≤ 100000) : Calls Tryz.prog f.slices_Clone_api_Part_api_Part #[.slice a vs.length c] w (Ret fun v w' => ∃ a' c', v = .slice a' vs.length c' ∧ ST w w' [prtsI a' c' vs]) := by
  apply R.slices_Clone_api_Part_api_Part_calls
  unfold R.slices_Clone_api_Part_api_Part
  cases a with
  | none =>
    have := rd_none (k := 1) (fun _ => rfl) h
    subst this
    exact IFB_true ⟨none, 0, rfl, (ST.start w).nil _ _⟩
  | some q =>
    refine IFB_false ((ST.start w).newB fun b2 w1 _ B1 S => ?_)
    have S := S.chg 0 rfl (.refl _ _) (It.row ty.api_Part 2 (some ⟨b2, 0, none⟩) 0 0 []) (row_empty (S.blk 0 rfl)) (fun k hk => .inl hk)
    refine S.app 0 rfl tPrts rfl (by omega) (by omega) (h.grown B1) (mm := vs.length) (prts_len vs) (prts_one vs) (by omega) fun a' c' w' S => ⟨_, _, _, rfl, a', c', by rw [Nat.zero_add], ?_⟩
    simp only [Nat.zero_add, List.nil_append] at S
    exact S
section
variable {w0 w : World} {H : List It} {bc bm n N cc pc : Nat} {ca pa : Option Addr} {C : CatS}
theorem Parts_ok (S : ST w0 w (catH bc ca cc pa pc bm n C ++ H)) (hC : C.parts.length ≤ 256) : Calls Tryz.prog f.catalog_Catalog_Parts #[.pointer (some ⟨bc, 0, none⟩)] w (Ret fun v w' => ∃ a' c', v = .slice a' C.parts.length c' ∧ ST w w' [prtsI a' c' C.parts]) := by
  apply R.catalog_Catalog_Parts_calls
  unfold R.catalog_Catalog_Parts
  refine IFB_false ⟨_, _, _, S.cell 0 rfl rfl, (CloneP_ok (S.rd 2 rfl) (by omega)).mono ?_⟩
  rintro _ w1 ⟨_, rfl, a', c', rfl, T⟩
  exact ⟨_, _, _, rfl, a', c', rfl, T⟩
theorem apply_create (S : ST w0 w (catH bc ca cc pa pc bm n C ++ H)) (hca : ca = none ↔ C.cols = []) (hN : n ≤ N) (s : ByteArray) (h1 : (sget s 0).toNat = 1) (h0 : 0 < s.size) (hle : s.size ≤ 262144) :
    Calls Tryz.prog f.catalog_Catalog_Apply #[.pointer (some ⟨bc, 0, none⟩), .string s] w (Ret (Did w0 H bc bm (N + 1) (Cmd1 C (bl s)))) := by
  have hbl := bl_length s
  refine apply_core S hca hN s (fun h => by omega) (fun rf hsel _ _ H' b a c wx hc S => ?_)
  rcases hsel with ⟨_, rfl⟩ | ⟨h, _⟩ | ⟨h, _⟩
  · exact create_ok S hc (by omega) hca hN
  · omega
  · omega
theorem apply_ingest (T : Tabs w0) (S : ST w0 w (catH bc ca cc pa pc bm n C ++ H)) (hC : CatOK C) (hca : ca = none ↔ C.cols = []) (hN : n ≤ N) (hN2 : N < 1000000) (s : ByteArray) (h1 : (sget s 0).toNat = 2) (h0 : 0 < s.size) (hle : s.size ≤ 262144) :
    Calls Tryz.prog f.catalog_Catalog_Apply #[.pointer (some ⟨bc, 0, none⟩), .string s] w (Ret (Did w0 H bc bm (N + 1) (Cmd2 C (bl s)))) := by
  have hbl := bl_length s
  refine apply_core S hca hN s (fun h => by omega) (fun rf hsel _ _ H' b a c wx hc S => ?_)
  rcases hsel with ⟨h, _⟩ | ⟨_, rfl⟩ | ⟨h, _⟩
  · omega
  · exact ingest_ok T S hc (by omega) hC hca hN hN2
  · omega
end
theorem column_ok (w : World) : Calls Tryz.prog f.law22_column #[] w (Ret fun v w' => ∃ b, v = .slice (some ⟨b, 0, none⟩) 1 1 ∧ ST w w' [It.cells b #[.string ⟨#[97]⟩, .int .i64 1, .bool false] ty.api_Column]) := by
  apply R.law22_column_calls
  unfold R.law22_column
  exact (ST.start w).newB fun b w1 _ _ S => ⟨b, rfl, S⟩
theorem num_ok (x : Int) (w : World) : Calls Tryz.prog f.law22_num #[.int .i64 x] w (Ret fun v w' => ∃ b, v = .slice (some ⟨b, 0, none⟩) 1 1 ∧ ST w w' [It.cells b #[.int .i64 1, .int .i64 x, .string ⟨#[]⟩] ty.api_Value]) := by
  apply R.law22_num_calls
  unfold R.law22_num
  exact (ST.start w).newB fun b w1 _ _ S => ⟨b, rfl, S⟩
def cs0 : List Col := [(⟨#[97]⟩, 1, false)]
def rows0 : List (List Val) := [[(1, 5, ⟨#[]⟩)], [(1, 6, ⟨#[]⟩)]]
theorem right0 : rightCols cs0 = true := by kernel_rfl
theorem ok0 : SegOk cs0 rows0 where
  right := right0
  len := by decide
  fits := fun r hr => by
    simp only [rows0, List.mem_cons, List.not_mem_nil, or_false] at hr
    rcases hr with rfl | rfl <;> kernel_rfl
  ok := fun r hr v hv => by
    simp only [rows0, List.mem_cons, List.not_mem_nil, or_false] at hr
    rcases hr with rfl | rfl
    · rw [List.mem_singleton.1 hv]; exact ⟨by decide, by decide⟩
    · rw [List.mem_singleton.1 hv]; exact ⟨by decide, by decide⟩
theorem seg0 : segE cs0 rows0 = 0 := by
  by_cases h : segE cs0 rows0 = 0
  · exact h
  · exact absurd ok0 (segE_bad h)
theorem len0 : (ingL 7 1 cs0 rows0).length ≤ 40000 := by
  have h1 := digitsL_len10 (n := 7) (by omega)
  have h2 := digitsL_len10 (n := 1) (by omega)
  have h3 := schL_len right0
  have h4 := digitsL_len10 (n := 2) (by omega)
  have h5 := row_len ok0 (r := [(1, 5, ⟨#[]⟩)]) (by simp [rows0])
  have h6 := row_len ok0 (r := [(1, 6, ⟨#[]⟩)]) (by simp [rows0])
  have e : rowsL rows0 = digitsL 2 ++ (rowL [(1, 5, ⟨#[]⟩)] ++ (rowL [(1, 6, ⟨#[]⟩)] ++ [])) := rfl
  simp only [ingL, List.length_cons, List.length_append, e, List.length_nil]
  omega
theorem ingE0 : ingE 7 1 cs0 rows0 = 0 := by
  have h1 : ¬ (argBad 7 1 ∨ rows0 = []) := by
    rintro (h | h)
    · unfold argBad at h; omega
    · cases h
  have h2 := len0
  rw [ingE, if_neg h1, if_neg (by rw [seg0]; decide), if_neg]
  show ¬ 262144 < (ingL 7 1 cs0 rows0).length
  omega
theorem cre_back {cs : List Col} (hR : rightCols cs = true) : takeSch (creL cs) 1 = some (cs, (creL cs).length) := by
  have := takeSch_drop hR (l := creL cs) (at_ := 1) (r := []) (by simp [creL])
  rw [show ((1 : Nat) : Int) = 1 from rfl] at this
  rw [this]
  simp [creL]
  omega
theorem ing_back {x y : Nat} {cs : List Col} {rows : List (List Val)} (hx : x ≤ greatN) (hy1 : 1 ≤ y) (hy : y ≤ greatN) (hs : SegOk cs rows) (hne : rows ≠ []) : ingR (ingL x y cs rows) 1 = some ((x, y, cs, rows), (ingL x y cs rows).length) := by
  have gx : x < 18446744073709551616 := by unfold greatN at hx; omega
  have gy : y < 18446744073709551616 := by unfold greatN at hy; omega
  have h1 := takeN_drop (l := ingL x y cs rows) (at_ := 1) (r := digitsL y ++ (schL cs ++ rowsL rows)) gx (by simp [ingL])
  have d1 : (ingL x y cs rows).drop (1 + (digitsL x).length) = digitsL y ++ (schL cs ++ rowsL rows) := by
    rw [← List.drop_drop]
    simp [ingL]
  have h2 := takeN_drop gy d1
  have d2 : (ingL x y cs rows).drop (1 + (digitsL x).length + (digitsL y).length) = schL cs ++ rowsL rows := drop_app d1
  have h3 := takeSch_drop hs.right d2
  have d3 : (ingL x y cs rows).drop (1 + (digitsL x).length + (digitsL y).length + (schL cs).length) = rowsL rows ++ [] := by rw [drop_app d2, List.append_nil]
  have h4 := takeRows_drop hs d3
  unfold ingR numR
  rw [h1, Option.bind_some, if_pos ⟨by simp only; omega, hx⟩, Option.bind_some]
  simp only
  rw [h2, Option.bind_some, if_pos ⟨hy1, hy⟩, Option.bind_some]
  simp only
  rw [h3, Option.bind_some]
  simp only
  rw [h4, Option.bind_some, if_neg hne]
  simp only [ingL, List.length_cons, List.length_append, Option.some.injEq, Prod.mk.injEq, true_and]
  omega
theorem ing_len (x y : Nat) (cs : List Col) (rows : List (List Val)) : 0 < (ingL x y cs rows).length := by simp [ingL]
theorem cmd1_one {C : CatS} {cs : List Col} (hR : rightCols cs = true) {d : Nat × Nat} {fs : List Fil} {C' : CatS} (h : Cmd1 C (creL cs) d fs C') : CreR C cs d fs C' := by
  have hb := cre_back hR
  rcases h with ⟨cs', h1, h2⟩ | ⟨h1, _⟩
  · rw [hb] at h1
    obtain ⟨rfl, _⟩ := Prod.mk.inj (Option.some.inj h1)
    exact h2
  · exact absurd hb (h1 cs)
theorem cmd2_one {C : CatS} {x y : Nat} {cs : List Col} {rows : List (List Val)} (hx : x ≤ greatN) (hy1 : 1 ≤ y) (hy : y ≤ greatN) (hs : SegOk cs rows) (hne : rows ≠ []) {d : Nat × Nat} {fs : List Fil} {C' : CatS} (h : Cmd2 C (ingL x y cs rows) d fs C') : IngR C x y cs rows d fs C' := by
  have hb := ing_back hx hy1 hy hs hne
  rcases h with ⟨z, h1, h2⟩ | ⟨h1, _⟩
  · rw [hb] at h1
    obtain ⟨rfl, _⟩ := Prod.mk.inj (Option.some.inj h1)
    exact h2
  · exact absurd hb (h1 _)
theorem ing_first {d : Nat × Nat} {fs : List Fil} {C' : CatS} (h : IngR ⟨cs0, [], []⟩ 7 1 cs0 rows0 d fs C') : ∃ nm dt, d = (0, 2) ∧ fs = [(nm, dt)] ∧ nm.size = 64 ∧ C' = ⟨cs0, [(nm, 2)], [(7, 1, 0, 2)]⟩ := by
  rcases h with ⟨t, ht, _⟩ | ⟨t, ht, _⟩ | ⟨_, h, _⟩ | ⟨_, _, C1, hA, rfl⟩
  · cases ht
  · cases ht
  · cases h
  · rcases hA with ⟨h, _⟩ | ⟨_, h, _⟩ | ⟨_, _, b, hb, rfl, rfl, rfl⟩
    · exact absurd rfl h
    · cases h
    · exact ⟨_, _, rfl, rfl, nameS_size _, rfl⟩
theorem ing_again {nm : ByteArray} {d : Nat × Nat} {fs : List Fil} {C' : CatS} (h : IngR ⟨cs0, [(nm, 2)], [(7, 1, 0, 2)]⟩ 7 1 cs0 rows0 d fs C') : d = (0, 2) ∧ fs = [] ∧ C' = ⟨cs0, [(nm, 2)], [(7, 1, 0, 2)]⟩ := by
  have hm : mapOf [(7, 1, 0, 2)] 7 = some (1, 0, 2) := by decide
  rcases h with ⟨t, ht, _, rfl, rfl, rfl⟩ | ⟨t, ht, h, _⟩ | ⟨h, _⟩ | ⟨h, _⟩
  · have ht : mapOf [(7, 1, 0, 2)] 7 = some t := ht
    rw [hm] at ht
    cases ht
    exact ⟨rfl, rfl, rfl⟩
  · have ht : mapOf [(7, 1, 0, 2)] 7 = some t := ht
    rw [hm] at ht
    cases ht
    exact absurd h (by decide)
  · have h : mapOf [(7, 1, 0, 2)] 7 = none := h
    rw [hm] at h
    cases h
  · have := h _ hm
    exact absurd this (by decide)
set_option maxHeartbeats 2000000 in
theorem shown_ok {w : World} (T : Tabs w) : Calls Tryz.prog f.law22_shown #[] w (Ret fun v w' => v = .bool true ∧ Below w.heap.size w w') := by
  apply R.law22_shown_calls
  unfold R.law22_shown
  refine (New_ok w).mono ?_
  rintro _ w1 ⟨_, rfl, bc, bm, rfl, S⟩
  refine ⟨_, rfl, (column_ok w1).mono ?_⟩
  rintro _ w2 ⟨_, rfl, q1, rfl, P⟩
  have S := S.join P
  have hq0 : ∀ c ∈ cs0, c.1.size ≤ 9223372036854775807 := fun c hc => by rw [List.mem_singleton.1 hc]; decide
  refine ⟨_, _, _, rfl, (Create_ok (c := 1) (cs := cs0) (S.rdc 0 rfl) (by decide) hq0).mono ?_⟩
  rintro _ w3 ⟨_, rfl, rfl, B3⟩
  have S := S.grown B3
  have e1 : creV cs0 = .tuple #[.string (sof (creL cs0)), .int .i64 0] := if_pos right0
  rw [e1]
  refine ⟨_, _, rfl, (column_ok w3).mono ?_⟩
  rintro _ w4 ⟨_, rfl, q2, rfl, P⟩
  have S := S.join P
  refine ⟨_, _, _, rfl, (num_ok 5 w4).mono ?_⟩
  rintro _ w5 ⟨_, rfl, q3, rfl, P⟩
  have S := S.join P
  refine ⟨_, _, _, rfl, (num_ok 6 w5).mono ?_⟩
  rintro _ w6 ⟨_, rfl, q4, rfl, P⟩
  have S := S.join P
  refine ⟨_, _, _, rfl, S.newB fun b14 w7 _ _ S => ?_⟩
  have hr : RowsAt w7 (some ⟨b14, 0, none⟩) [(some ⟨q3, 0, none⟩, 1, [(1, 5, ⟨#[]⟩)]), (some ⟨q4, 0, none⟩, 1, [(1, 6, ⟨#[]⟩)])] := ⟨S.rdc 0 rfl, fun p hp => by
    simp only [List.mem_cons, List.not_mem_nil, or_false] at hp
    rcases hp with rfl | rfl
    · exact S.rdc 2 rfl
    · exact S.rdc 1 rfl⟩
  refine (Ingest_ok (c := 1) (c2 := 2) (cs := cs0) 7 1 (S.rdc 3 rfl) (by decide) hq0 hr (by simp) ok0.ok).mono ?_
  rintro _ w8 ⟨_, rfl, rfl, B8⟩
  have S := S.grown B8
  obtain ⟨l2, hl2⟩ : ∃ l2, l2 = ingL 7 1 cs0 rows0 := ⟨_, rfl⟩
  have e2 : ingV 7 1 cs0 (rws [((some ⟨q3, 0, none⟩ : Option Addr), 1, [((1 : Int), (5 : Int), (⟨#[]⟩ : ByteArray))]), (some ⟨q4, 0, none⟩, 1, [(1, 6, ⟨#[]⟩)])]) = .tuple #[.string (sof l2), .int .i64 0] := by
    rw [hl2]
    exact if_pos ingE0
  rw [e2]
  have hlen := len0
  have hpos := ing_len 7 1 cs0 rows0
  rw [← hl2] at hlen hpos
  have S : ST w w8 (catH bc none 0 none 0 bm 0 ⟨[], [], []⟩ ++ []) := S.drop 5
  have hcl : (creL cs0).length ≤ 601 := by have := schL_len right0; simp only [creL, List.length_cons]; omega
  have hcp : 0 < (creL cs0).length := by simp [creL]
  refine ⟨_, _, rfl, (apply_create (N := 0) S ⟨fun _ => rfl, fun _ => rfl⟩ (Nat.le_refl _) (sof (creL cs0)) (by rw [sget_eq, bl_sof]; rfl) (by rw [size_sof]; exact hcp) (by rw [size_sof]; omega)).mono ?_⟩
  clear S
  rintro _ w9 ⟨_, rfl, d, fs, C1, fa, ca, cc, pa, pc, n1, hQ, rfl, hca, hn, S⟩
  rw [bl_sof] at hQ
  rcases cmd1_one right0 hQ with ⟨h, _⟩ | ⟨_, rfl, rfl, rfl⟩
  · exact absurd rfl h
  refine ⟨_, _, _, _, _, rfl, S.newB fun b22 w10 _ _ S => S.sto 0 rfl (cs' := #[.int .i64 0, .int .i64 0]) (by simp) rfl fun w11 S => S.sto 0 rfl (cs' := #[.int .i64 0, .int .i64 0]) (by simp) rfl fun w12 S => ?_⟩
  have S : ST w w12 ([It.cells b22 #[.int .i64 0, .int .i64 0] ty.api_Done, It.rd fa (filesL [])] ++ (catH bc ca cc pa pc bm n1 ⟨cs0, [], []⟩ ++ [])) := S
  have S := ST.mid (catH bc ca cc pa pc bm n1 ⟨cs0, [], []⟩) S
  have hC0 : CatOK ⟨cs0, [], []⟩ := ⟨by decide, by simp, by simp, .inr right0⟩
  have hing : (sget (sof l2) 0).toNat = 2 := by rw [sget_eq, bl_sof, hl2]; rfl
  refine (apply_ingest (N := 1) T S hC0 hca hn (by decide) (sof l2) hing (by rw [size_sof]; exact hpos) (by rw [size_sof]; omega)).mono ?_
  clear S
  rintro _ w13 ⟨_, rfl, d, fs, C2, fa2, ca2, cc2, pa2, pc2, n2, hQ, rfl, hca2, hn2, S⟩
  rw [bl_sof, hl2] at hQ
  obtain ⟨nm, dt, rfl, rfl, hnm, rfl⟩ := ing_first (cmd2_one (by decide) (by decide) (by decide) ok0 (by simp [rows0]) hQ)
  refine ⟨_, _, _, _, _, rfl, S.newB fun b27 w14 _ _ S => S.sto 0 rfl (cs' := #[.int .i64 0, .int .i64 0]) (by simp) rfl fun w15 S => S.sto 0 rfl (cs' := #[.int .i64 0, .int .i64 2]) (by simp) rfl fun w16 S => ?_⟩
  have S : ST w w16 ([It.cells b27 #[.int .i64 0, .int .i64 2] ty.api_Done, It.rd fa2 (filesL [(nm, dt)])] ++ (catH bc ca2 cc2 pa2 pc2 bm n2 ⟨cs0, [(nm, 2)], [(7, 1, 0, 2)]⟩ ++ ([It.cells b22 #[.int .i64 0, .int .i64 0] ty.api_Done, It.rd fa (filesL [])] ++ []))) := S
  have S := ST.mid (catH bc ca2 cc2 pa2 pc2 bm n2 ⟨cs0, [(nm, 2)], [(7, 1, 0, 2)]⟩) S
  have hC2 : CatOK ⟨cs0, [(nm, 2)], [(7, 1, 0, 2)]⟩ := ⟨by simp, fun p hp => by rw [List.mem_singleton.1 hp]; exact ⟨hnm, by simp, by simp⟩, fun c hc => by rw [List.mem_singleton.1 hc]; exact ⟨by decide, ⟨by decide, by decide⟩, by decide, by decide⟩, .inr right0⟩
  refine (apply_ingest (N := 2) T S hC2 hca2 hn2 (by decide) (sof l2) hing (by rw [size_sof]; exact hpos) (by rw [size_sof]; omega)).mono ?_
  clear S
  rintro _ w17 ⟨_, rfl, d, fs, C3, fa3, ca3, cc3, pa3, pc3, n3, hQ, rfl, hca3, hn3, S⟩
  rw [bl_sof, hl2] at hQ
  obtain ⟨rfl, rfl, rfl⟩ := ing_again (cmd2_one (by decide) (by decide) (by decide) ok0 (by simp [rows0]) hQ)
  refine ⟨_, _, _, _, _, rfl, S.newB fun b32 w18 _ _ S => S.sto 0 rfl (cs' := #[.int .i64 0, .int .i64 0]) (by simp) rfl fun w19 S => S.sto 0 rfl (cs' := #[.int .i64 0, .int .i64 2]) (by simp) rfl fun w20 S => ?_⟩
  refine IFB_eq (fun _ => ?_) (fun h => absurd rfl h)
  refine IFB_eq (fun _ => ?_) (fun h => absurd rfl h)
  refine ⟨_, S.cell 8 rfl rfl, _, S.cell 8 rfl rfl, IFB_of (fun _ => ?_) (fun h => absurd h (by decide))⟩
  refine ⟨_, S.cell 6 rfl rfl, _, S.cell 6 rfl rfl, IFB_of (fun _ => ?_) (fun h => absurd h (by decide))⟩
  refine IFB_eq (fun _ => ?_) (fun h => absurd rfl h)
  refine ⟨_, S.cell 0 rfl rfl, _, S.cell 0 rfl rfl, _, S.cell 6 rfl rfl, _, S.cell 6 rfl rfl, IFB_of (fun _ => ?_) (fun h => absurd h (by decide))⟩
  refine IFB_eq (fun _ => ?_) (fun h => absurd rfl h)
  have S := S.drop 2
  refine (Parts_ok (H := _) S hC2.np).mono ?_
  rintro _ w21 ⟨_, rfl, a', c', rfl, P⟩
  exact ⟨_, _, _, rfl, rfl, below_trans S.bel P.bel⟩
def mrgL (ns : List ByteArray) (s : ByteArray) : List UInt8 := 3 :: (digitsL ns.length ++ (ns ++ [s]).flatMap textL)
def mrgBad (ns : List ByteArray) (s : ByteArray) : Prop := ns.length < 2 ∨ 256 < ns.length ∨ 262144 < s.size ∨ ∃ x ∈ ns, x.size ≠ 64
instance (ns : List ByteArray) (s : ByteArray) : Decidable (mrgBad ns s) := by unfold mrgBad; infer_instance
def mrgE (ns : List ByteArray) (s : ByteArray) : Int := if mrgBad ns s then 2 else if 262144 < (mrgL ns s).length then 130 else 0
def mrgV (ns : List ByteArray) (s : ByteArray) : Value := if mrgE ns s = 0 then .tuple #[.string (sof (mrgL ns s)), .int .i64 0] else .tuple #[.string (sof []), .int .i64 (mrgE ns s)]
theorem text_len {s : ByteArray} (h : s.size ≤ 262144) : (textL s).length ≤ 262154 := by
  have := digitsL_len10 (n := s.size) (by omega)
  simp only [textL, List.length_append, bl_length]
  omega
theorem texts_len {ns : List ByteArray} (h : ∀ s ∈ ns, s.size ≤ 262144) : (ns.flatMap textL).length ≤ ns.length * 262154 := by
  induction ns with
  | nil => simp
  | cons s ns ih =>
    have h1 := text_len (h s (by simp))
    have h2 := ih fun x hx => h x (by simp [hx])
    rw [List.flatMap_cons, List.length_append, List.length_cons]
    omega
theorem strN_at {w : World} {a : Option Addr} {ns : List ByteArray} (h : Rd w a (ns.map Value.string)) {i : Nat} (hi : i < ns.length) : ∃ p, a = some p ∧ w.cell? (p.add (i * 1)) = some (.string ns[i]) := by
  obtain ⟨p, hp, h0⟩ := h i _ (by rw [List.getElem?_map, List.getElem?_eq_getElem hi]; rfl)
  exact ⟨p, hp, by rw [Nat.mul_one]; exact h0⟩
theorem tStrsL : slT Tryz.prog ty.L_string = some (ty.string, 1, 16, .string ⟨#[]⟩) := by kernel_rfl
section
variable {w0 w : World} {H : List It} {a : Option Addr} {c : Nat} {ns : List ByteArray}
theorem Merge_c1_ok (s : ByteArray) (w : World) : Calls Tryz.prog f.catalog_Merge_c1 #[.string s] w (Ret fun v w' => v = .bool (decide (s.size ≠ 64)) ∧ w' = w) := by
  apply R.catalog_Merge_c1_calls
  unfold R.catalog_Merge_c1
  refine ⟨?_, rfl⟩
  congr 1
  by_cases h : s.size = 64
  · simp [h]
  · have : ¬ (s.size : Int) = 64 := by omega
    simp [h, this]
theorem IndexStr_ok (h : Rd w a (ns.map Value.string)) (hn : ns.length ≤ 9223372036854775807) : Calls Tryz.prog f.slices_IndexFunc_string_string #[.slice a ns.length c, .func (.func f.catalog_Merge_c1) #[] #[]] w (Ret fun v w' => ∃ z : Int, v = .int .i64 z ∧ w' = w ∧ (0 ≤ z ↔ ∃ x ∈ ns, x.size ≠ 64)) := by
  apply R.slices_IndexFunc_string_string_calls
  unfold R.slices_IndexFunc_string_string
  refine ⟨fun s wx => ∃ i : Nat, s = [.int .i64 (i : Int)] ∧ i ≤ ns.length ∧ (∀ x ∈ ns.take i, x.size = 64) ∧ wx = w, fun s _ => match s with
    | [.int _ i] => ns.length - i.toNat
    | _ => 0, ⟨0, rfl, by omega, by simp, rfl⟩, ?_⟩
  rintro _ w1 ⟨i, hs, hi, hall, rfl⟩
  cases hs
  refine IFB_dec (fun hlt => ?_) (fun hge => ⟨_, rfl, rfl, ?_⟩)
  · have hil : i < ns.length := by omega
    obtain ⟨p, rfl, hc⟩ := strN_at h hil
    refine ⟨⟨by omega, by omega⟩, _, by rw [Int.toNat_natCast]; exact hc, ?_⟩
    rw [show enters Tryz.prog f.catalog_Merge_c1 = true by kernel_rfl]
    refine (Merge_c1_ok ns[i] w1).mono ?_
    rintro _ w2 ⟨_, rfl, rfl, rfl⟩
    refine ⟨_, rfl, IFB_dec (fun h2 => ⟨_, rfl, rfl, ⟨fun _ => ⟨_, List.getElem_mem hil, h2⟩, fun _ => by omega⟩⟩) (fun h2 => ?_)⟩
    rw [wrap_succ (by omega)]
    refine ⟨⟨i + 1, rfl, by omega, fun x hx => ?_, rfl⟩, by simp only [Int.toNat_natCast]; omega⟩
    rw [List.take_succ_eq_append_getElem hil] at hx
    rcases List.mem_append.1 hx with h | h
    · exact hall x h
    · rw [List.mem_singleton.1 h]
      exact Decidable.not_not.1 h2
  · rw [List.take_of_length_le (by omega)] at hall
    constructor
    · intro h; omega
    · rintro ⟨x, hx, h2⟩
      exact absurd (hall x hx) h2
theorem CloneS_ok (h : Rd w a (ns.map Value.string)) (hl : ns.length ≤ 100000) : Calls Tryz.prog f.slices_Clone_string_string #[.slice a ns.length c] w (Ret fun v w' => ∃ a' c', v = .slice a' ns.length c' ∧ ST w w' [It.row ty.string 1 a' ns.length c' (ns.map Value.string)]) := by
  apply R.slices_Clone_string_string_calls
  unfold R.slices_Clone_string_string
  cases a with
  | none =>
    have h' : Rd w none (ns.flatMap fun s => [Value.string s]) := by rw [show ns.flatMap (fun s => [Value.string s]) = ns.map Value.string from flat1 Value.string ns]; exact h
    have := rd_none (k := 0) (fun _ => rfl) h'
    subst this
    exact IFB_true ⟨none, 0, rfl, (ST.start w).nil _ _⟩
  | some q =>
    refine IFB_false ((ST.start w).newB fun b2 w1 _ B1 S => ?_)
    have S := S.chg 0 rfl (.refl _ _) (It.row ty.string 1 (some ⟨b2, 0, none⟩) 0 0 []) (row_empty (S.blk 0 rfl)) (fun k hk => .inl hk)
    refine S.app 0 rfl tStrsL rfl (by omega) (by omega) (h.grown B1) (mm := ns.length) (by simp) (fun u hu => by obtain ⟨s, _, rfl⟩ := List.mem_map.1 hu; rfl) (by omega) fun a' c' w' S => ⟨_, _, _, rfl, a', c', by rw [Nat.zero_add], ?_⟩
    simp only [Nat.zero_add, List.nil_append] at S
    exact S
theorem mrg_bad (s : ByteArray) (h : mrgBad ns s) : Value.tuple #[.string ⟨#[]⟩, .int .i64 2] = mrgV ns s := by
  have e : mrgE ns s = 2 := if_pos h
  rw [mrgV, e, if_neg (by decide)]
  rfl
set_option maxHeartbeats 1000000 in
theorem Merge_ok (h : Rd w a (ns.map Value.string)) (hn : ns.length ≤ 9223372036854775807) (s : ByteArray) : Calls Tryz.prog f.catalog_Merge #[.slice a ns.length c, .string s] w (Ret fun v w' => v = mrgV ns s ∧ Below w.heap.size w w') := by
  apply R.catalog_Merge_calls
  unfold R.catalog_Merge
  refine IFB_dec (fun h => ⟨mrg_bad s (.inl (by omega)), .refl _ _⟩) (fun h1 => IFB_dec (fun h => ⟨mrg_bad s (.inr (.inl (by omega))), .refl _ _⟩) (fun h2 => IFB_dec (fun h => ⟨mrg_bad s (.inr (.inr (.inl (by omega)))), .refl _ _⟩) (fun h3 => ?_)))
  have hC : Calls Tryz.prog f.slices_ContainsFunc_string_string #[.slice a ns.length c, .func (.func f.catalog_Merge_c1) #[] #[]] w (Ret fun v w' => ∃ z : Bool, v = .bool z ∧ w' = w ∧ (z = true ↔ ∃ x ∈ ns, x.size ≠ 64)) := by
    apply R.slices_ContainsFunc_string_string_calls
    unfold R.slices_ContainsFunc_string_string
    refine (IndexStr_ok h hn).mono ?_
    rintro _ w1 ⟨_, rfl, z, rfl, rfl, hz⟩
    exact ⟨_, rfl, _, rfl, rfl, by rw [decide_eq_true_eq]; exact hz⟩
  refine hC.mono ?_
  rintro _ w1 ⟨_, rfl, z, rfl, rfl, hz⟩
  refine ⟨_, rfl, IFB_of (fun hb => ⟨mrg_bad s (.inr (.inr (.inr (hz.1 hb)))), .refl _ _⟩) (fun hb => ?_)⟩
  have h64 : ∀ x ∈ ns, x.size = 64 := fun x hx => Decidable.byContradiction fun hne => by
    rw [hz.2 ⟨x, hx, hne⟩] at hb
    cases hb
  have hno : ¬ mrgBad ns s := by
    rintro (h | h | h | ⟨x, hx, h⟩)
    · omega
    · omega
    · omega
    · exact h (h64 x hx)
  refine (ST.start w1).newB fun b5 w2 _ _ S => ?_
  have hl1 : Rd w2 (some ⟨b5, 0, none⟩) (([3] : List UInt8).map byteV) := S.rdc 0 rfl
  have d1 := digitsL_len10 (n := ns.length) (by omega)
  rw [wrap_u64_id (by omega) (by omega)]
  refine (wire_Number_ok (c := 1) [3] hl1 ns.length (by omega) (by simp)).mono ?_
  rintro _ w3 ⟨_, rfl, a3, c3, rfl, g3⟩
  have S := stAddB S g3
  refine ⟨_, _, _, rfl, (CloneS_ok (h.grown S.bel) (by omega)).mono ?_⟩
  rintro _ w4 ⟨_, rfl, a4, c4, rfl, P⟩
  have S := S.join P
  refine ⟨_, _, _, rfl, S.newB fun b10 w5 _ _ S => ?_⟩
  refine S.app 1 rfl tStrsL rfl (by omega) (by omega) (S.rdc 0 rfl) (mm := 1) rfl (by simp; rfl) (by omega) fun a6 c6 w6 S => ⟨_, _, _, rfl, ?_⟩
  obtain ⟨ms, hms⟩ : ∃ ms, ms = ns ++ [s] := ⟨_, rfl⟩
  have hml : ms.length = ns.length + 1 := by rw [hms]; simp
  have S : ST w1 w6 [bytesI a3 c3 ([3] ++ digitsL ns.length), It.rd a6 (ms.map Value.string)] := by
    have S := (S.drop 1).toRd 0 rfl
    have S := S.sub (H' := [It.rd a6 (ns.map Value.string ++ [Value.string s]), bytesI a3 c3 ([3] ++ digitsL ns.length)]) (.cons_cons _ (.cons_cons _ (List.nil_sublist _)))
    have e : ns.map Value.string ++ [Value.string s] = ms.map Value.string := by rw [hms]; simp
    rw [e] at S
    exact S.pull 1 rfl
  have hsz : ∀ x ∈ ms, x.size ≤ 262144 := fun x hx => by
    rw [hms] at hx
    rcases List.mem_append.1 hx with h | h
    · have := h64 x h; omega
    · rw [List.mem_singleton.1 h]; omega
  have hlim : ∀ i, ((ms.take i).flatMap textL).length ≤ 67500000 := fun i => by
    have h1 := texts_len (ns := ms.take i) fun x hx => hsz x (List.mem_of_mem_take hx)
    have h2 : (ms.take i).length ≤ 257 := by rw [List.length_take]; omega
    have : (ms.take i).length * 262154 ≤ 257 * 262154 := Nat.mul_le_mul_right _ h2
    omega
  rw [← hml]
  refine ⟨fun s wx => ∃ (i : Nat) (out : List UInt8) (oa : Option Addr) (oc : Nat), s = [.slice oa out.length oc, .int .i64 (i : Int)] ∧ i ≤ ms.length ∧ out = [3] ++ digitsL ns.length ++ (ms.take i).flatMap textL ∧ ST w1 wx [bytesI oa oc out, It.rd a6 (ms.map Value.string)], fun s _ => match s with
    | [_, .int _ i] => ms.length - i.toNat
    | _ => 0, ⟨0, _, a3, c3, rfl, by omega, by simp, S⟩, ?_⟩
  clear S
  rintro oa _ oc _ w7 ⟨i, out, _, _, hst, hi, hout, S⟩
  cases hst
  have hol : out.length ≤ 68000000 := by
    have := hlim i
    rw [hout]
    simp only [List.length_append, List.length_cons, List.length_nil]
    omega
  refine IFB_dec (fun hlt => ?_) (fun hge => ?_)
  · have hil : i < ms.length := by omega
    obtain ⟨p, rfl, hc⟩ := strN_at (S.get 1 rfl) hil
    have h5 := hsz ms[i] (List.getElem_mem hil)
    refine ⟨⟨by omega, by omega⟩, _, by rw [Int.toNat_natCast]; exact hc, ?_⟩
    refine (wire_Text_ok out (stRdB S 0 rfl) ms[i] (by omega) (by omega)).mono ?_
    rintro _ w9 ⟨_, rfl, a9, c9, rfl, g9⟩
    have S := stAddB S g9
    rw [wrap_succ (by omega)]
    refine ⟨_, _, _, _, rfl, ⟨i + 1, out ++ textL ms[i], a9, c9, rfl, by omega, ?_, S.sub (.cons_cons _ (.cons _ (List.Sublist.refl _)))⟩, by simp only [Int.toNat_natCast]; omega⟩
    rw [hout, List.take_succ_eq_append_getElem hil, List.flatMap_append]
    simp
  · obtain rfl : i = ms.length := by omega
    rw [List.take_length] at hout
    have e : out = mrgL ns s := by rw [hout, hms, mrgL]; simp
    subst e
    refine (bounded_ok (stRdB S 0 rfl)).mono ?_
    rintro _ w8 ⟨_, rfl, rfl, rfl⟩
    by_cases hb : 262144 < (mrgL ns s).length
    · rw [if_pos hb]
      refine ⟨_, _, rfl, ?_, S.bel⟩
      have e2 : mrgE ns s = 130 := by rw [mrgE, if_neg hno, if_pos hb]
      rw [mrgV, e2, if_neg (by decide)]
    · rw [if_neg hb]
      refine ⟨_, _, rfl, ?_, S.bel⟩
      have e2 : mrgE ns s = 0 := by rw [mrgE, if_neg hno, if_neg hb]
      rw [mrgV, e2, if_pos rfl]
set_option maxHeartbeats 1000000 in
theorem ref22_Merge_ok (h : Rd w a (ns.map Value.string)) (hn : ns.length ≤ 9223372036854775807) (s : ByteArray) : Calls Tryz.prog f.ref22_Merge #[.slice a ns.length c, .string s] w (Ret fun v w' => v = mrgV ns s ∧ Below w.heap.size w w') := by
  apply R.ref22_Merge_calls
  unfold R.ref22_Merge
  refine IFB_dec (fun h => ⟨mrg_bad s (.inl (by omega)), .refl _ _⟩) (fun h1 => IFB_dec (fun h => ⟨mrg_bad s (.inr (.inl (by omega))), .refl _ _⟩) (fun h2 => IFB_dec (fun h => ⟨mrg_bad s (.inr (.inr (.inl (by omega)))), .refl _ _⟩) (fun h3 => ?_)))
  refine (ST.start w).newB fun b5 w2 _ _ S => ?_
  have hl1 : Rd w2 (some ⟨b5, 0, none⟩) (([3] : List UInt8).map byteV) := S.rdc 0 rfl
  have d1 := digitsL_len10 (n := ns.length) (by omega)
  rw [wrap_u64_id (by omega) (by omega)]
  refine (ref_Number_ok (c := 1) [3] hl1 ns.length (by omega) (by simp)).mono ?_
  rintro _ w3 ⟨_, rfl, a3, c3, rfl, g3⟩
  have S := (stAddB S g3).keep 1
  refine ⟨_, _, _, rfl, fun s wx => ∃ (i : Nat) (out : List UInt8) (oa : Option Addr) (oc : Nat), s = [.slice oa out.length oc, .int .i64 (i : Int)] ∧ i ≤ ns.length ∧ out = [3] ++ digitsL ns.length ++ (ns.take i).flatMap textL ∧ (∀ x ∈ ns.take i, x.size = 64) ∧ ST w wx [bytesI oa oc out], fun s _ => match s with
    | [_, .int _ i] => ns.length - i.toNat
    | _ => 0, ⟨0, _, a3, c3, rfl, by omega, by simp, by simp, S⟩, ?_⟩
  clear S
  rintro oa _ oc _ w7 ⟨i, out, _, _, hst, hi, hout, hall, S⟩
  cases hst
  have hol : out.length ≤ 68000000 := by
    have h1 := texts_len (ns := ns.take i) fun x hx => by have := hall x hx; omega
    have h2 : (ns.take i).length ≤ 257 := by rw [List.length_take]; omega
    have : (ns.take i).length * 262154 ≤ 257 * 262154 := Nat.mul_le_mul_right _ h2
    rw [hout]
    simp only [List.length_append, List.length_cons, List.length_nil]
    omega
  refine IFB_dec (fun hlt => ?_) (fun hge => ?_)
  · have hil : i < ns.length := by omega
    obtain ⟨p, rfl, hc⟩ := strN_at (h.grown S.bel) hil
    refine ⟨⟨by omega, by omega⟩, _, by rw [Int.toNat_natCast]; exact hc, ?_⟩
    refine IFB_ne (fun h5 => ⟨mrg_bad s (.inr (.inr (.inr ⟨_, List.getElem_mem hil, by omega⟩))), S.bel⟩) (fun h5 => ?_)
    refine ⟨⟨by omega, by omega⟩, _, by rw [Int.toNat_natCast]; exact hc, ?_⟩
    refine (ref_Text_ok out (stRdB S 0 rfl) ns[i] (by omega) (by omega)).mono ?_
    rintro _ w9 ⟨_, rfl, a9, c9, rfl, g9⟩
    have S := stAddB S g9
    rw [wrap_succ (by omega)]
    refine ⟨_, _, _, _, rfl, ⟨i + 1, out ++ textL ns[i], a9, c9, rfl, by omega, ?_, fun x hx => ?_, S.keep 1⟩, by simp only [Int.toNat_natCast]; omega⟩
    · rw [hout, List.take_succ_eq_append_getElem hil, List.flatMap_append]
      simp
    · rw [List.take_succ_eq_append_getElem hil] at hx
      rcases List.mem_append.1 hx with h | h
      · exact hall x h
      · rw [List.mem_singleton.1 h]; omega
  · obtain rfl : i = ns.length := by omega
    rw [List.take_length] at hout hall
    have hno : ¬ mrgBad ns s := by
      rintro (h | h | h | ⟨x, hx, h⟩)
      · omega
      · omega
      · omega
      · exact h (hall x hx)
    refine (ref_Text_ok out (stRdB S 0 rfl) s (by omega) (by omega)).mono ?_
    rintro _ w5 ⟨_, rfl, a5, c5, rfl, g5⟩
    have e : out ++ textL s = mrgL ns s := by rw [hout, mrgL]; simp
    rw [e] at g5 ⊢
    have B5 := below_trans S.bel g5.bel
    refine ⟨_, _, _, _, rfl, IFB_dec (fun hb => ⟨?_, B5⟩) (fun hb => string_of_bytes tbytes rfl g5.rd ⟨_, rfl, ?_, B5⟩)⟩
    · have e2 : mrgE ns s = 130 := by rw [mrgE, if_neg hno, if_pos (by omega)]
      rw [mrgV, e2, if_neg (by decide)]
      rfl
    · have e2 : mrgE ns s = 0 := by rw [mrgE, if_neg hno, if_neg (by omega)]
      rw [mrgV, e2, if_pos rfl]
end
theorem creV_form (cs : List Col) : ∃ s e, creV cs = .tuple #[.string s, .int .i64 e] := by unfold creV; split <;> exact ⟨_, _, rfl⟩
theorem ingV_form (x y : Int) (cs : List Col) (rows : List (List Val)) : ∃ s e, ingV x y cs rows = .tuple #[.string s, .int .i64 e] := by unfold ingV; split <;> exact ⟨_, _, rfl⟩
theorem mrgV_form (ns : List ByteArray) (s : ByteArray) : ∃ t e, mrgV ns s = .tuple #[.string t, .int .i64 e] := by unfold mrgV; split <;> exact ⟨_, _, rfl⟩
theorem IFB_same {s : ByteArray} {A B : Prop} (h : A) : IFB (bytesEq s s) A B := IFB_of (fun _ => h) (fun h => by rw [bytesEq_iff] at h; simp at h)
theorem take_len {α : Type} (l : List α) (n : Nat) : l.take (l.take n).length = l.take n := by
  rw [List.length_take]
  rcases Nat.le_total n l.length with h | h
  · rw [Nat.min_eq_left h]
  · rw [Nat.min_eq_right h, List.take_length, List.take_of_length_le h]
section
variable {w : World} {a a2 a3 : Option Addr} {c c2 c3 : Nat} {cs : List Col} {ps : List RowP} {ns : List ByteArray}
theorem RowsAt.first (h : RowsAt w a ps) (n : Nat) (hn : n ≤ c) : RowsAt w (SLA a 0 c 1) (ps.take n) := by
  refine ⟨?_, fun p hp => h.each p (List.mem_of_mem_take hp)⟩
  have := h.top.sla 0 n c 1 hn
  simp only [List.drop_zero, Nat.sub_zero, Nat.mul_one] at this
  rwa [List.map_take]
theorem CatalogWords_core (T : Tabs w) (x y : Int) (hcs : Rd w a (colsL cs)) (hn : cs.length ≤ 9223372036854775807) (hq : ∀ c ∈ cs, c.1.size ≤ 9223372036854775807) (hr : RowsAt w a2 ps) (hm : ps.length ≤ 9223372036854775807) (hv : ∀ r ∈ rws ps, ∀ v ∈ r, ValOk v) (hpc : ps.length ≤ c2)
    (hns : Rd w a3 (ns.map Value.string)) (hnn : ns.length ≤ 9223372036854775807) (hnc : ns.length ≤ c3) (s : ByteArray) :
    Calls Tryz.prog f.law22_CatalogWords #[.int .i64 x, .int .i64 y, .slice a cs.length c, .slice a2 ps.length c2, .slice a3 ns.length c3, .string s] w (Ret fun v w' => v = .bool true ∧ Below w.heap.size w w') := by
  apply R.law22_CatalogWords_calls
  unfold R.law22_CatalogWords
  refine (shown_ok T).mono ?_
  rintro _ w1 ⟨_, rfl, rfl, B1⟩
  have e1 : (if 40 < (ps.length : Int) then 40 else (ps.length : Int)) = ((ps.take 40).length : Int) := by rw [List.length_take]; split <;> omega
  have e2 : (if 300 < (ns.length : Int) then 300 else (ns.length : Int)) = ((ns.take 300).length : Int) := by rw [List.length_take]; split <;> omega
  have l1 : (ps.take 40).length ≤ ps.length := by rw [List.length_take]; omega
  have l2 : (ns.take 300).length ≤ ns.length := by rw [List.length_take]; omega
  obtain ⟨t, ht⟩ : ∃ t, t = ByteArray.extract s 0 ((if 1000 < (s.size : Int) then 1000 else (s.size : Int)).toNat) := ⟨_, rfl⟩
  have e3 : (0 : Int) ≤ (if 1000 < (s.size : Int) then 1000 else (s.size : Int)) ∧ (if 1000 < (s.size : Int) then 1000 else (s.size : Int)) ≤ (s.size : Int) := by split <;> omega
  rw [← ht, e1, e2]
  simp only [Int.toNat_natCast, Nat.sub_zero]
  have hr' : RowsAt w (SLA a2 0 c2 1) (ps.take 40) := by
    have := hr.first (c := c2) (ps.take 40).length (by omega)
    rwa [take_len] at this
  have hns' : Rd w (SLA a3 0 c3 1) ((ns.take 300).map Value.string) := by
    have := hns.sla 0 (ns.take 300).length c3 1 (by omega)
    simp only [List.drop_zero, Nat.sub_zero, Nat.mul_one] at this
    rwa [← List.map_take, take_len] at this
  have hv' : ∀ r ∈ rws (ps.take 40), ∀ v ∈ r, ValOk v := fun r hr => hv r (by
    obtain ⟨p, hp, rfl⟩ := List.mem_map.1 hr
    exact List.mem_map.2 ⟨p, List.mem_of_mem_take hp, rfl⟩)
  refine ⟨_, rfl, ⟨by omega, by omega, by omega⟩, ⟨by omega, by omega, by omega⟩, ⟨by omega, e3.1, e3.2⟩, ?_⟩
  refine (Create_ok (hcs.grown B1) hn hq).mono ?_
  rintro _ w2 ⟨_, rfl, rfl, B2⟩
  obtain ⟨u1, f1, g1⟩ := creV_form cs
  have C2 := below_trans B1 B2
  rw [g1]
  refine ⟨_, _, rfl, (ref22_Create_ok (hcs.grown C2) hn hq).mono ?_⟩
  rintro _ w3 ⟨_, rfl, rfl, B3⟩
  have C3 := below_trans C2 B3
  rw [g1]
  refine ⟨_, _, rfl, (Ingest_ok x y (hcs.grown C3) hn hq (hr'.grown C3) (by omega) hv').mono ?_⟩
  rintro _ w4 ⟨_, rfl, rfl, B4⟩
  have C4 := below_trans C3 B4
  obtain ⟨u2, f2, g2⟩ := ingV_form x y cs (rws (ps.take 40))
  rw [g2]
  refine ⟨_, _, rfl, (ref22_Ingest_ok x y (hcs.grown C4) hn hq (hr'.grown C4) (by omega) hv').mono ?_⟩
  rintro _ w5 ⟨_, rfl, rfl, B5⟩
  have C5 := below_trans C4 B5
  rw [g2]
  refine ⟨_, _, rfl, (Merge_ok (hns'.grown C5) (by omega) t).mono ?_⟩
  rintro _ w6 ⟨_, rfl, rfl, B6⟩
  have C6 := below_trans C5 B6
  obtain ⟨u3, f3, g3⟩ := mrgV_form (ns.take 300) t
  rw [g3]
  refine ⟨_, _, rfl, (ref22_Merge_ok (hns'.grown C6) (by omega) t).mono ?_⟩
  rintro _ w7 ⟨_, rfl, rfl, B7⟩
  have C7 := below_trans C6 B7
  rw [g3]
  refine ⟨_, _, rfl, IFB_true (IFB_same (IFB_eq (fun _ => IFB_same (IFB_eq (fun _ => IFB_same ⟨?_, C7⟩) (fun h => absurd rfl h))) (fun h => absurd rfl h)))⟩
  simp
theorem CatalogWords_ok (T : Tabs w) (x : Int) (_wx : (Lit.int .i64 x).wf = true) (y : Int) (_wy : (Lit.int .i64 y).wf = true) (a : Option Addr) (cs : List Col) (c : Nat) (g : GL w colC colQ a cs c) (_y : c * Tryz.prog.bytesOf ty.api_Column ≤ reachBytes)
    (a2 : Option Addr) (ps : List RowP) (c2 : Nat) (g2 : GL w rwC (RowQ w) a2 ps c2) (_y2 : c2 * Tryz.prog.bytesOf ty.api_Row ≤ reachBytes) (a3 : Option Addr) (ns : List ByteArray) (c3 : Nat) (g3 : GL w strC strQ a3 ns c3) (_y3 : c3 * Tryz.prog.bytesOf ty.string ≤ reachBytes) (s : ByteArray) (_y4 : s.size ≤ reachBytes) :
    Calls Tryz.prog f.law22_CatalogWords #[.int .i64 x, .int .i64 y, .slice a cs.length c, .slice a2 ps.length c2, .slice a3 ns.length c3, .string s] w (Ret fun v w' => v = .bool true ∧ Below w.heap.size w w') := by
  obtain ⟨h1, h2, h3⟩ := cols_arg g
  obtain ⟨h4, h5, h6, _⟩ := rows_arg g2
  have h7 : Rd w a3 (ns.map Value.string) := by
    have := g3.2.2.2.1
    rwa [show ns.flatMap strC = ns.map Value.string from flat1 Value.string ns] at this
  exact CatalogWords_core T x y h1 h2 h3 h4 h5 h6 g2.1 h7 (Nat.le_trans (Nat.le_trans g3.1 g3.2.1) (by decide)) g3.1 s
end
end Go.Proofs.YtpnaifmmggnimaaGreatDoor
