/-
  Texts of this claim, laid one behind the other by a program of mine (install.py): G.Ct7, G.Ct8, G.Ct9, G.Ct10, G.Ct11.
-/
import Derived.Test.YtpnaifmmggnimaaGreatDoorM7
namespace Go.Proofs.YtpnaifmmggnimaaGreatDoor
set_option maxRecDepth 100000
open Go.Dn Go.Proofs
open Go.RowKit (Below)
set_option linter.unusedVariables false
section
variable {w0 w : World} {H : List It} {b : Nat} {a : Option Addr} {c at_ : Nat} {bad : Bool} {l : List UInt8}
theorem rrows_bad {ca : Option Addr} {cn cc : Nat} (S : ST w0 w H) (n : Nat) (hn : H[n]? = some (rdrI b a l.length c at_ true)) :
    Calls Tryz.prog f.catalog_reader_rows #[.pointer (some ⟨b, 0, none⟩), .slice ca cn cc] w (Ret fun v w' => v = .slice none 0 0 ∧ w' = w) := by
  apply R.catalog_reader_rows_calls
  unfold R.catalog_reader_rows
  exact ⟨_, S.cell n hn rfl, IFB_of (fun _ => ⟨rfl, rfl⟩) (fun h => by cases h)⟩
theorem rrows_ok {ca : Option Addr} {cc : Nat} {cs : List Col} (S : ST w0 w H) (n m : Nat) (hn : H[n]? = some (rdrI b a l.length c at_ false)) (hm : H[m]? = some (It.rd a (l.map byteV))) (hc : l.length ≤ c) (hs : l.length ≤ 1000000000)
    (hcs : Rd w ca (colsL cs)) (hcn : cs.length ≤ 9223372036854775807) (hq : ∀ c ∈ cs, c.1.size ≤ 9223372036854775807) :
    Calls Tryz.prog f.catalog_reader_rows #[.pointer (some ⟨b, 0, none⟩), .slice ca cs.length cc] w (Ret fun v w' => ∃ (ra : Option Addr) (rc : Nat) (ps : List RowP) (at' : Nat) (bad' : Bool), v = .slice ra ps.length rc ∧
      ST w0 w' (rowsI ra rc ps :: (H.set n (rdrI b a l.length c at' bad') ++ ps.map rowI)) ∧ ((bad' = false ∧ takeRows l cs (at_ : Int) = some (rws ps, at') ∧ ps ≠ []) ∨ (bad' = true ∧ ∀ x, takeRows l cs (at_ : Int) = some x → x.1 = []))) := by
  apply R.catalog_reader_rows_calls
  unfold R.catalog_reader_rows
  refine ⟨_, S.cell n hn rfl, IFB_of (fun h => by cases h) (fun _ => ?_)⟩
  refine S.draw fun w1 B1 S => ⟨_, _, _, S.cell n hn rfl, _, S.cell n hn rfl, ?_⟩
  refine (schema_TakeRows_ok (S.get m hm) hc hs (at_ : Int) (hcs.grown B1) hcn hq).mono ?_
  rintro _ w2 ⟨_, rfl, hx⟩
  cases ho : takeRows l cs (at_ : Int) with
  | none =>
    rw [ho] at hx
    obtain ⟨e, he, rfl, B⟩ := hx
    have S := S.grown B
    refine ⟨_, _, _, _, _, rfl, IFB_ne (fun _ => ?_) (fun h => absurd h he)⟩
    have hlt := (List.getElem?_eq_some_iff.1 hn).1
    simp only [PTR]
    refine S.sto n hn (i := 2) (cs' := #[.slice a l.length c, .int .i64 (at_ : Int), .bool true]) (by simp) rfl fun w3 S => ?_
    refine S.sto n (List.getElem?_set_self hlt) (i := 1) (cs' := #[.slice a l.length c, .int .i64 0, .bool true]) (by simp) rfl fun w4 S => ?_
    rw [List.set_set] at S
    exact ⟨none, 0, [], 0, true, rfl, (by
      have S := S.nil ty.api_Row 1
      rw [List.map_nil, List.append_nil]
      exact S), .inr ⟨rfl, fun x hx => by cases hx⟩⟩
  | some x =>
    rw [ho] at hx
    obtain ⟨ra, rc, ps, rfl, hps, R⟩ := hx
    have S := S.join R
    have S : ST w0 w2 (H ++ (rowsI ra rc ps :: ps.map rowI)) := S.perm List.perm_append_comm
    have hlt := (List.getElem?_eq_some_iff.1 hn).1
    have hn' : (H ++ (rowsI ra rc ps :: ps.map rowI))[n]? = some (rdrI b a l.length c at_ false) := by rw [List.getElem?_append_left hlt]; exact hn
    have hlt' := (List.getElem?_eq_some_iff.1 hn').1
    refine ⟨_, _, _, _, _, rfl, IFB_ne (fun h => absurd rfl h) (fun _ => ?_)⟩
    simp only [PTR]
    refine S.sto n hn' (i := 2) (cs' := #[.slice a l.length c, .int .i64 (at_ : Int), .bool ((ps.length : Int) == 0)]) (by simp) rfl fun w3 S => ?_
    refine S.sto n (List.getElem?_set_self hlt') (i := 1) (cs' := #[.slice a l.length c, .int .i64 (x.2 : Int), .bool ((ps.length : Int) == 0)]) (by simp) rfl fun w4 S => ?_
    rw [List.set_set, List.set_append_left _ _ hlt] at S
    refine ⟨ra, rc, ps, x.2, ((ps.length : Int) == 0), rfl, S.perm List.perm_middle, ?_⟩
    cases hl : ps with
    | nil =>
      refine .inr ⟨rfl, fun y hy => ?_⟩
      cases hy
      rw [← hps, hl]
      rfl
    | cons p qs =>
      refine .inl ⟨?_, ?_, by simp⟩
      · simp
        omega
      · rw [← hl, hps]
def ingR (l : List UInt8) (at_ : Nat) : Option ((Nat × Nat × List Col × List (List Val)) × Nat) :=
  (numR l 0 greatN at_).bind fun x => (numR l 1 greatN x.2).bind fun y => (takeSch l (y.2 : Int)).bind fun z => (takeRows l z.1 (z.2 : Int)).bind fun u => if u.1 = [] then none else some ((x.1, y.1, z.1, u.1), u.2)
def RdrP (w0 : World) (H : List It) (bc bm N b : Nat) (a : Option Addr) (n c : Nat) (C : CatS) (Q : Nat × Nat → List Fil → CatS → Prop) (v : Value) (w' : World) : Prop :=
  ∃ at' bad' g ca Z pc cc pa ca' m, v = .func (.func g) #[] ca ∧ enters Tryz.prog g = true ∧ ST w0 w' (rdrI b a n c at' bad' :: (Z ++ (catH bc ca' cc pa pc bm m C ++ H))) ∧ (ca' = none ↔ C.cols = []) ∧ m ≤ N ∧
    ((bad' = true ∨ at' ≠ n) → Q (220, 0) [] C) ∧
    (bad' = false → at' = n → ∀ wx, ST w0 wx (rdrI b a n c at' bad' :: (Z ++ (catH bc ca' cc pa pc bm m C ++ H))) → Calls Tryz.prog g ca wx (Ret (Did w0 H bc bm (N + 1) Q)))
def Cmd1 (C : CatS) (l : List UInt8) (d : Nat × Nat) (fs : List Fil) (C' : CatS) : Prop :=
  (∃ cs, takeSch l 1 = some (cs, l.length) ∧ CreR C cs d fs C') ∨ ((∀ cs, takeSch l 1 ≠ some (cs, l.length)) ∧ d = (220, 0) ∧ fs = [] ∧ C' = C)
def Cmd2 (C : CatS) (l : List UInt8) (d : Nat × Nat) (fs : List Fil) (C' : CatS) : Prop :=
  (∃ x, ingR l 1 = some (x, l.length) ∧ IngR C x.1 x.2.1 x.2.2.1 x.2.2.2 d fs C') ∨ ((∀ x, ingR l 1 ≠ some (x, l.length)) ∧ d = (220, 0) ∧ fs = [] ∧ C' = C)
theorem create_ok {bc bm n N cc pc : Nat} {ca pa : Option Addr} {C : CatS} (S : ST w0 w (rdrI b a l.length c 1 false :: It.rd a (l.map byteV) :: (catH bc ca cc pa pc bm n C ++ H))) (hc : l.length ≤ c) (hs : l.length ≤ 1000000000) (hca : ca = none ↔ C.cols = []) (hN : n ≤ N) :
    Calls Tryz.prog f.catalog_Catalog_create #[.pointer (some ⟨bc, 0, none⟩), .pointer (some ⟨b, 0, none⟩)] w (Ret (RdrP w0 H bc bm N b a l.length c C (Cmd1 C l))) := by
  apply R.catalog_Catalog_create_calls
  unfold R.catalog_Catalog_create
  refine S.newB fun b3 w1 _ _ S => ?_
  refine (rschema_ok S 1 2 rfl rfl hc hs).mono ?_
  rintro _ w2 ⟨_, rfl, sa, sc, cs, at', bad', rfl, S, hG, _⟩
  refine ⟨_, _, _, rfl, S.newB fun b6 w3 _ _ S => S.sto 0 rfl (cs' := #[.slice sa cs.length sc]) (by simp) rfl fun w4 S => ?_⟩
  have S : ST w0 w4 (rdrI b a l.length c at' bad' :: ([It.cells b6 #[.slice sa cs.length sc] ty.L_api_Column, colsI sa sc cs, It.cells b3 #[.pointer (some ⟨bc, 0, none⟩)] ty.P_catalog_Catalog, It.rd a (l.map byteV)] ++ (catH bc ca cc pa pc bm n C ++ H))) := S.pull 3 rfl
  refine ⟨at', bad', f.catalog_Catalog_create_c1, #[.pointer (some ⟨b3, 0, none⟩), .pointer (some ⟨b6, 0, none⟩)], _, pc, cc, pa, ca, n, rfl, by kernel_rfl, S, hca, hN, fun h => .inr ⟨fun cs' e => ?_, rfl, rfl, rfl⟩, fun hb ha wx S => ?_⟩
  · rcases hG with ⟨h1, _, h2⟩ | ⟨_, h2 | h2⟩
    · rw [show ((1 : Nat) : Int) = 1 from rfl, e] at h2
      cases h2
      rcases h with h | h
      · rw [h1] at h; cases h
      · exact h rfl
    · cases h2
    · rw [show ((1 : Nat) : Int) = 1 from rfl, e] at h2; cases h2
  · subst hb
    subst ha
    obtain ⟨_, h2⟩ := hG.ok
    have hR := takeSch_right h2
    have S := S.drop 1
    have S : ST w0 wx (It.cells b3 #[.pointer (some ⟨bc, 0, none⟩)] ty.P_catalog_Catalog :: It.cells b6 #[.slice sa cs.length sc] ty.L_api_Column :: colsI sa sc cs :: (catH bc ca cc pa pc bm n C ++ H)) :=
      (S.pull 2 rfl).sub (.cons_cons _ (.cons_cons _ (.cons_cons _ (.cons _ (List.Sublist.refl _)))))
    refine (create1_ok (N := N) S hR hca hN).mono ?_
    rintro _ w' ⟨v, rfl, d, fs, C', fa, ca2, cc2, pa2, pc2, n2, h3, h4, h5, h6, h7⟩
    exact ⟨v, rfl, d, fs, C', fa, ca2, cc2, pa2, pc2, n2, .inl ⟨cs, h2, h3⟩, h4, h5, by omega, h7⟩
theorem Got.some {α : Type} {bad' : Bool} {o : Option α} {x y : α} (h : Got false bad' o x) (hy : o = Option.some y) : bad' = false ∧ x = y := by
  rcases h with ⟨h1, _, h2⟩ | ⟨_, h2 | h2⟩
  · rw [hy] at h2
    exact ⟨h1, (Option.some.inj h2).symm⟩
  · cases h2
  · rw [hy] at h2; cases h2
theorem ingR_some {l : List UInt8} {at_ : Nat} {x : Nat × Nat × List Col × List (List Val)} {k : Nat} (h : ingR l at_ = some (x, k)) :
    ∃ a1 a2 a3, numR l 0 greatN at_ = some (x.1, a1) ∧ numR l 1 greatN a1 = some (x.2.1, a2) ∧ takeSch l (a2 : Int) = some (x.2.2.1, a3) ∧ takeRows l x.2.2.1 (a3 : Int) = some (x.2.2.2, k) ∧ x.2.2.2 ≠ [] := by
  unfold ingR at h
  obtain ⟨y1, h1, h⟩ := Option.bind_eq_some_iff.1 h
  obtain ⟨y2, h2, h⟩ := Option.bind_eq_some_iff.1 h
  obtain ⟨y3, h3, h⟩ := Option.bind_eq_some_iff.1 h
  obtain ⟨y4, h4, h⟩ := Option.bind_eq_some_iff.1 h
  split at h
  · cases h
  · rename_i hne
    cases h
    exact ⟨y1.2, y2.2, y3.2, h1, h2, h3, h4, hne⟩
set_option maxHeartbeats 1000000 in
theorem ingest_ok (T : Tabs w0) {bc bm n N cc pc : Nat} {ca pa : Option Addr} {C : CatS} (S : ST w0 w (rdrI b a l.length c 1 false :: It.rd a (l.map byteV) :: (catH bc ca cc pa pc bm n C ++ H))) (hc : l.length ≤ c) (hs : l.length ≤ 1000000000) (hC : CatOK C) (hca : ca = none ↔ C.cols = []) (hN : n ≤ N) (hN2 : N < 1000000) :
    Calls Tryz.prog f.catalog_Catalog_ingest #[.pointer (some ⟨bc, 0, none⟩), .pointer (some ⟨b, 0, none⟩)] w (Ret (RdrP w0 H bc bm N b a l.length c C (Cmd2 C l))) := by
  apply R.catalog_Catalog_ingest_calls
  unfold R.catalog_Catalog_ingest
  refine S.newB fun b3 w1 _ _ S => ?_
  refine (rnumber_ok S 1 2 rfl rfl hc hs 0 greatN (Nat.le_refl _)).mono ?_
  rintro _ w2 ⟨_, rfl, z1, at1, bad1, rfl, S, G1⟩
  refine ⟨_, rfl, (rnumber_ok S 1 2 rfl rfl hc hs 1 greatN (Nat.le_refl _)).mono ?_⟩
  rintro _ w3 ⟨_, rfl, z2, at2, bad2, rfl, S, G2⟩
  refine ⟨_, rfl, S.newB fun b8 w4 _ _ S => S.newB fun b9 w5 _ _ S => S.sto 1 rfl (cs' := #[.int .i64 (z1 : Int)]) (by simp) rfl fun w6 S => S.sto 0 rfl (cs' := #[.int .i64 (z2 : Int)]) (by simp) rfl fun w7 S => ?_⟩
  refine (rschema_ok S 3 4 rfl rfl hc hs).mono ?_
  rintro _ w8 ⟨_, rfl, sa, sc, cs, at3, bad3, rfl, S, G3, _⟩
  refine ⟨_, _, _, rfl, S.newB fun b12 w9 _ _ S => S.sto 0 rfl (cs' := #[.slice sa cs.length sc]) (by simp) rfl fun w10 S => ⟨_, _, _, S.cell 0 rfl rfl, ?_⟩⟩
  have hsome : ∀ x k, ingR l 1 = some (x, k) → bad3 = false ∧ z1 = x.1 ∧ z2 = x.2.1 ∧ cs = x.2.2.1 ∧ takeRows l cs (at3 : Int) = some (x.2.2.2, k) ∧ x.2.2.2 ≠ [] := fun x k e => by
    obtain ⟨a1, a2, a3, h1, h2, h3, h4, h5⟩ := ingR_some e
    obtain ⟨rfl, e1⟩ := G1.some h1
    obtain ⟨rfl, rfl⟩ := Prod.mk.inj e1
    obtain ⟨rfl, e2⟩ := G2.some h2
    obtain ⟨rfl, rfl⟩ := Prod.mk.inj e2
    obtain ⟨rfl, e3⟩ := G3.some h3
    obtain ⟨rfl, rfl⟩ := Prod.mk.inj e3
    exact ⟨rfl, rfl, rfl, rfl, h4, h5⟩
  cases bad3 with
  | true =>
    refine (rrows_bad S 5 rfl).mono ?_
    rintro _ w11 ⟨_, rfl, rfl, rfl⟩
    refine ⟨_, _, _, rfl, S.newB fun b16 w12 _ _ S => S.sto 0 rfl (cs' := #[.slice none 0 0]) (by simp) rfl fun w13 S => ?_⟩
    have S : ST w0 w13 (rdrI b a l.length c at3 true :: ([It.cells b16 #[.slice none 0 0] ty.L_api_Row, It.cells b12 #[.slice sa cs.length sc] ty.L_api_Column, colsI sa sc cs, It.cells b9 #[.int .i64 (z2 : Int)] ty.int64, It.cells b8 #[.int .i64 (z1 : Int)] ty.int64, It.cells b3 #[.pointer (some ⟨bc, 0, none⟩)] ty.P_catalog_Catalog,
      It.rd a (l.map byteV)] ++ (catH bc ca cc pa pc bm n C ++ H))) := S.pull 6 rfl
    exact ⟨at3, true, f.catalog_Catalog_ingest_c1, _, _, pc, cc, pa, ca, n, rfl, by kernel_rfl, S, hca, hN, fun _ => .inr ⟨fun x e => (by have := (hsome x _ e).1; cases this), rfl, rfl, rfl⟩, fun h => by cases h⟩
  | false =>
    obtain ⟨hb2, h3⟩ := G3.ok
    subst hb2
    obtain ⟨hb1, h2⟩ := G2.ok
    subst hb1
    obtain ⟨_, h1⟩ := G1.ok
    have hR := takeSch_right h3
    have hcl := right_len hR
    have hq : ∀ c ∈ cs, c.1.size ≤ 9223372036854775807 := fun c hc => by have := (right_col hR hc).2.2.2; omega
    refine (rrows_ok (cc := sc) S 5 6 rfl rfl hc hs (S.rd 1 rfl) (by simp only at hcl; omega) hq).mono ?_
    rintro _ w11 ⟨_, rfl, ra, rc, ps, at4, bad4, rfl, S, G4⟩
    refine ⟨_, _, _, rfl, S.newB fun b16 w12 _ _ S => S.sto 0 rfl (cs' := #[.slice ra ps.length rc]) (by simp) rfl fun w13 S => ?_⟩
    have S := (((((((S.pull 3 rfl).pull 3 rfl).pull 4 rfl).pull 5 rfl).pull 6 rfl).pull 8 rfl).pull 8 rfl)
    let Z : List It := [It.cells b3 #[.pointer (some ⟨bc, 0, none⟩)] ty.P_catalog_Catalog, It.cells b8 #[.int .i64 (z1 : Int)] ty.int64, It.cells b9 #[.int .i64 (z2 : Int)] ty.int64, It.cells b12 #[.slice sa cs.length sc] ty.L_api_Column, colsI sa sc cs,
      It.cells b16 #[.slice ra ps.length rc] ty.L_api_Row, rowsI ra rc ps]
    have S : ST w0 w13 (rdrI b a l.length c at4 bad4 :: It.rd a (l.map byteV) :: (Z ++ ((catH bc ca cc pa pc bm n C ++ H) ++ ps.map rowI))) := S
    have S : ST w0 w13 (rdrI b a l.length c at4 bad4 :: It.rd a (l.map byteV) :: (Z ++ (ps.map rowI ++ (catH bc ca cc pa pc bm n C ++ H)))) := S.perm (List.Perm.append_left (_ :: _ :: Z) List.perm_append_comm)
    rw [← List.append_assoc] at S
    refine ⟨at4, bad4, f.catalog_Catalog_ingest_c1, _, It.rd a (l.map byteV) :: (Z ++ ps.map rowI), pc, cc, pa, ca, n, rfl, by kernel_rfl, S, hca, hN, fun h => .inr ⟨fun x e => ?_, rfl, rfl, rfl⟩, fun hb ha wx S => ?_⟩
    · obtain ⟨_, _, _, _, h4, h5⟩ := hsome x _ e
      rcases G4 with ⟨g1, g2, _⟩ | ⟨_, g2⟩
      · rw [h4] at g2
        obtain ⟨_, rfl⟩ := Prod.mk.inj (Option.some.inj g2)
        rcases h with h | h
        · rw [g1] at h; cases h
        · exact h rfl
      · exact h5 (g2 _ h4)
    · subst hb
      subst ha
      rcases G4 with ⟨_, g2, g3⟩ | ⟨g1, _⟩
      case inr => cases g1
      have hok := (takeRows_ok g2).1
      have S : ST w0 wx (rdrI b a l.length c l.length false :: It.rd a (l.map byteV) :: ((Z ++ ps.map rowI) ++ (catH bc ca cc pa pc bm n C ++ H))) := S
      rw [List.append_assoc] at S
      have S : ST w0 wx (Z ++ (catH bc ca cc pa pc bm n C ++ (ps.map rowI ++ H))) := (S.drop 2).perm (List.Perm.append_left Z (List.perm_append_comm_assoc _ _ _))
      refine (ingest1_ok (N := N) T S hok hq (numR_seg h1).2.2 (numR_seg h2).2.2 hC hca hN hN2).mono ?_
      rintro _ w' ⟨v, rfl, d, fs, C', fa, ca2, cc2, pa2, pc2, n2, e3, e4, e5, e6, e7⟩
      refine ⟨v, rfl, d, fs, C', fa, ca2, cc2, pa2, pc2, n2, .inl ⟨(z1, z2, cs, rws ps), ?_, e3⟩, e4, e5, e6, e7⟩
      have hne : rws ps ≠ [] := by
        intro h
        apply g3
        simpa [rws] using h
      unfold ingR
      rw [h1, Option.bind_some, h2, Option.bind_some, h3, Option.bind_some, g2, Option.bind_some, if_neg hne]
end
def Sel (s : ByteArray) (rf : FuncId) : Prop :=
  ((sget s 0).toNat = 1 ∧ rf = f.catalog_Catalog_create) ∨ ((sget s 0).toNat = 2 ∧ rf = f.catalog_Catalog_ingest) ∨ ((sget s 0).toNat = 3 ∧ rf = f.catalog_Catalog_merge)
theorem Apply_c1_ok (p : Option Addr) (w : World) : Calls Tryz.prog f.catalog_Catalog_Apply_c1 #[.pointer p] w (Ret fun v w' => v = .nilFunc ∧ w' = w) := by
  apply R.catalog_Catalog_Apply_c1_calls
  unfold R.catalog_Catalog_Apply_c1
  exact ⟨rfl, rfl⟩
theorem rdrI_one (b : Nat) (a : Option Addr) (n c : Nat) : It.cells b #[.slice a n c, .int .i64 1, .bool false] ty.catalog_reader = rdrI b a n c 1 false := rfl
section
variable {w0 w : World} {H : List It} {bc bm n N cc pc : Nat} {ca pa : Option Addr} {C : CatS}
set_option maxHeartbeats 1000000 in
theorem apply_core {Q : Nat × Nat → List Fil → CatS → Prop} (S : ST w0 w (catH bc ca cc pa pc bm n C ++ H)) (hca : ca = none ↔ C.cols = []) (hN : n ≤ N) (s : ByteArray)
    (hfail : s.size = 0 ∨ 262144 < s.size ∨ ((sget s 0).toNat ≠ 1 ∧ (sget s 0).toNat ≠ 2 ∧ (sget s 0).toNat ≠ 3) → Q (220, 0) [] C)
    (hread : ∀ rf, Sel s rf → 0 < s.size → s.size ≤ 262144 → ∀ (H : List It) (b : Nat) (a : Option Addr) (c : Nat) (wx : World), (bl s).length ≤ c → ST w0 wx (rdrI b a (bl s).length c 1 false :: It.rd a ((bl s).map byteV) :: (catH bc ca cc pa pc bm n C ++ H)) →
      Calls Tryz.prog rf #[.pointer (some ⟨bc, 0, none⟩), .pointer (some ⟨b, 0, none⟩)] wx (Ret (RdrP w0 H bc bm N b a (bl s).length c C Q))) :
    Calls Tryz.prog f.catalog_Catalog_Apply #[.pointer (some ⟨bc, 0, none⟩), .string s] w (Ret (Did w0 H bc bm (N + 1) Q)) := by
  apply R.catalog_Catalog_Apply_calls
  unfold R.catalog_Catalog_Apply
  have hbl := bl_length s
  refine S.newB fun b3 w1 _ _ S => IFB_of (fun h => by cases h) (fun _ => ?_)
  have kfail : ∀ {wx : World}, (s.size = 0 ∨ 262144 < s.size ∨ ((sget s 0).toNat ≠ 1 ∧ (sget s 0).toNat ≠ 2 ∧ (sget s 0).toNat ≠ 3)) → ST w0 wx (catH bc ca cc pa pc bm n C ++ H) → Did w0 H bc bm (N + 1) Q (.tuple #[.agg #[.int .i64 220, .int .i64 0], .slice none 0 0]) wx := fun h S =>
    ⟨(220, 0), [], C, none, ca, cc, pa, pc, n, hfail h, rfl, hca, by omega, stNoFile S⟩
  refine IFB_of (fun h => fail_tail (K := Did w0 H bc bm (N + 1) Q) S 220 fun w' S => kfail (.inl ?_) S) (fun h0 => ?_)
  · rw [bytesEq_iff, decide_eq_true_eq] at h
    subst h
    rfl
  have h0' : 0 < s.size := by
    rcases Nat.eq_zero_or_pos s.size with h | h
    · have : bytesEq s ⟨#[]⟩ = true := by
        rw [bytesEq_iff, decide_eq_true_eq]
        have hd : s.data.size = 0 := h
        cases s with
        | mk d => 
          have : d = #[] := Array.eq_empty_of_size_eq_zero hd
          rw [this]
      rw [this] at h0; cases h0
    · exact h
  refine IFB_dec (fun h => fail_tail (K := Did w0 H bc bm (N + 1) Q) S 220 fun w' S => kfail (.inr (.inl (by omega))) S) (fun hle => ?_)
  have S : ST w0 w1 (catH bc ca cc pa pc bm n C ++ (It.cells b3 #[.int .i64 0, .int .i64 0] ty.api_Done :: H)) := S.perm List.perm_middle.symm
  refine bytes_of_string tbytes s w1 fun b0 c0 cells e0 w2 hb0 B2 hg2 hcs hsc htk => ?_
  have hr : Rd w2 (some ⟨b0, 0, none⟩) ((bl s).map byteV) := by
    have := (Rd.of_block0 hg2).take s.size
    rw [htk] at this
    exact this
  have S := stAddRd S B2 (⟨hr, fun k hk => by cases hk; exact Nat.le_of_eq hb0.symm⟩ : RdN w1 w2 _ _)
  refine ⟨_, _, _, rfl, S.newB fun b24 w12 _ _ S => ?_⟩
  rw [rdrI_one, ← hbl] at S
  refine ⟨fun s' wx => ∃ rf fi, s' = [.func (.func rf) fi #[]] ∧ ((Sel s rf ∧ fi = #[.pointer (some ⟨bc, 0, none⟩)]) ∨ (rf = f.catalog_Catalog_Apply_c1 ∧ fi = #[] ∧ ((sget s 0).toNat ≠ 1 ∧ (sget s 0).toNat ≠ 2 ∧ (sget s 0).toNat ≠ 3))) ∧
    ST w0 wx (rdrI b24 (some ⟨b0, 0, none⟩) (bl s).length c0 1 false :: It.rd (some ⟨b0, 0, none⟩) ((bl s).map byteV) :: (catH bc ca cc pa pc bm n C ++ (It.cells b3 #[.int .i64 0, .int .i64 0] ty.api_Done :: H))), ⟨⟨by omega, by omega⟩, ?_⟩, ?_⟩
  · refine IFB_eq (fun h => ⟨_, _, rfl, .inl ⟨.inl ⟨by omega, rfl⟩, rfl⟩, S⟩) (fun h1 => IFB_eq (fun h => ⟨_, _, rfl, .inl ⟨.inr (.inl ⟨by omega, rfl⟩), rfl⟩, S⟩) (fun h2 => IFB_eq (fun h => ⟨_, _, rfl, .inl ⟨.inr (.inr ⟨by omega, rfl⟩), rfl⟩, S⟩) (fun h3 => ⟨_, _, rfl, .inr ⟨rfl, rfl, by omega, by omega, by omega⟩, S⟩)))
  clear S
  rintro rf fi _ w13 ⟨_, _, hs, hsel, S⟩
  cases hs
  rcases hsel with ⟨hsel, rfl⟩ | ⟨rfl, rfl, hno⟩
  · have hen : enters Tryz.prog rf = true := by
      rcases hsel with ⟨_, rfl⟩ | ⟨_, rfl⟩ | ⟨_, rfl⟩
      · kernel_rfl
      · kernel_rfl
      · kernel_rfl
    rw [hen]
    refine (hread rf hsel h0' (by omega) _ b24 _ c0 w13 (by omega) S).mono ?_
    clear S
    rintro _ w14 ⟨_, rfl, at', bad', g, ca2, Z, pc2, cc2, pa2, ca3, m, rfl, hen2, S, hca2, hm, hf2, hgood⟩
    refine .inl ⟨_, _, _, rfl, (rwhole_ok S 0 rfl).mono ?_⟩
    clear S
    rintro _ w15 ⟨_, rfl, rfl, S⟩
    refine ⟨_, rfl, IFB_not (IFB_of (fun hw => ?_) (fun hw => ?_))⟩
    · simp only [Bool.and_eq_true, Bool.not_eq_true', decide_eq_true_eq] at hw
      rw [hen2]
      refine (hgood hw.1 hw.2 w15 S).mono ?_
      clear S
      rintro _ w19 ⟨_, rfl, d, fs, C', fa, ca4, cc4, pa4, pc4, n4, hQ, rfl, h5, h6, S⟩
      obtain ⟨d1, d2⟩ := d
      refine ⟨_, _, _, _, _, rfl, S.sto 5 rfl (cs' := #[.int .i64 (d1 : Int), .int .i64 0]) (by simp) rfl fun w20 S => S.sto 5 rfl (cs' := #[.int .i64 (d1 : Int), .int .i64 (d2 : Int)]) (by simp) rfl fun w21 S => ⟨_, S.cell 5 rfl rfl, _, S.cell 5 rfl rfl, ?_⟩⟩
      exact ⟨(d1, d2), fs, C', fa, ca4, cc4, pa4, pc4, n4, hQ, rfl, h5, h6, S.sub (.cons_cons _ (.cons_cons _ (.cons_cons _ (.cons_cons _ (.cons_cons _ (.cons _ (List.Sublist.refl _)))))))⟩
    · have hw' : bad' = true ∨ at' ≠ (bl s).length := by
        simp only [Bool.and_eq_false_iff, Bool.not_eq_false', decide_eq_false_iff_not] at hw
        exact hw
      have S := ((S.drop 1).sub (List.sublist_append_right Z _)).perm List.perm_middle
      exact fail_tail (K := Did w0 H bc bm (N + 1) Q) S 220 fun w' S => ⟨(220, 0), [], C, none, ca3, cc2, pa2, pc2, m, hf2 hw', rfl, hca2, by omega, stNoFile S⟩
  · rw [show enters Tryz.prog f.catalog_Catalog_Apply_c1 = true by kernel_rfl]
    refine (Apply_c1_ok _ w13).mono ?_
    rintro _ w14 ⟨_, rfl, rfl, rfl⟩
    have S := (S.drop 2).perm List.perm_middle
    exact .inr ⟨rfl, fail_tail (K := Did w0 H bc bm (N + 1) Q) S 220 fun w' S => kfail (.inr (.inr hno)) S⟩
theorem apply_nil (s : ByteArray) (w : World) : Calls Tryz.prog f.catalog_Catalog_Apply #[.pointer none, .string s] w (Ret fun v w' => v = .tuple #[.agg #[.int .i64 1, .int .i64 0], .slice none 0 0] ∧ Below w.heap.size w w') := by
  apply R.catalog_Catalog_Apply_calls
  unfold R.catalog_Catalog_Apply
  exact (ST.start w).newB fun b3 w1 _ _ S => IFB_true (fail_tail (K := fun v w' => v = .tuple #[.agg #[.int .i64 1, .int .i64 0], .slice none 0 0] ∧ Below w.heap.size w w') S 1 fun w' S => ⟨rfl, S.bel⟩)
end
def creL (cs : List Col) : List UInt8 := 1 :: schL cs
def creV (cs : List Col) : Value := if rightCols cs then .tuple #[.string (sof (creL cs)), .int .i64 0] else .tuple #[.string (sof []), .int .i64 50]
def ingL (x y : Nat) (cs : List Col) (rows : List (List Val)) : List UInt8 := 2 :: (digitsL x ++ digitsL y ++ schL cs ++ rowsL rows)
def argBad (x y : Int) : Prop := x < 0 ∨ 4611686018427387904 < x ∨ y < 1 ∨ 4611686018427387904 < y
instance (x y : Int) : Decidable (argBad x y) := by unfold argBad; infer_instance
def ingE (x y : Int) (cs : List Col) (rows : List (List Val)) : Int :=
  if argBad x y ∨ rows = [] then 2 else if segE cs rows ≠ 0 then segE cs rows else if 262144 < (ingL x.toNat y.toNat cs rows).length then 130 else 0
def ingV (x y : Int) (cs : List Col) (rows : List (List Val)) : Value :=
  if ingE x y cs rows = 0 then .tuple #[.string (sof (ingL x.toNat y.toNat cs rows)), .int .i64 0] else .tuple #[.string (sof []), .int .i64 (ingE x y cs rows)]
section
variable {w0 w : World} {H : List It} {a a2 : Option Addr} {c c2 : Nat} {cs : List Col} {ps : List RowP}
theorem Create_ok (hcs : Rd w a (colsL cs)) (hn : cs.length ≤ 9223372036854775807) (hq : ∀ c ∈ cs, c.1.size ≤ 9223372036854775807) :
    Calls Tryz.prog f.catalog_Create #[.slice a cs.length c] w (Ret fun v w' => v = creV cs ∧ Below w.heap.size w w') := by
  apply R.catalog_Create_calls
  unfold R.catalog_Create
  refine (ST.start w).newB fun b2 w1 _ B1 S => ?_
  have h1 : Rd w1 (some ⟨b2, 0, none⟩) (([1] : List UInt8).map byteV) := S.rdc 0 rfl
  refine (schema_Lay_ok (l := [1]) (c := 1) h1 (by simp) (hcs.grown B1) hn hq).mono ?_
  rintro _ w2 ⟨_, rfl, h2⟩
  rcases h2 with ⟨hR, rfl, B2⟩ | ⟨hR, a', c', rfl, h2⟩
  · refine ⟨_, _, _, _, rfl, string_of_bytes tbytes (l := []) rfl (Rd.nil _ _) ⟨_, rfl, ?_, below_trans B1 B2⟩⟩
    simp [creV, hR]
  · refine ⟨_, _, _, _, rfl, string_of_bytes tbytes rfl h2.rd ⟨_, rfl, ?_, below_trans B1 h2.bel⟩⟩
    simp [creV, hR, creL]
theorem isNumber_ok (x y : Int) (w : World) : Calls Tryz.prog f.catalog_isNumber #[.int .i64 x, .int .i64 y] w (Ret fun v w' => v = .bool (decide (y ≤ x ∧ x ≤ 4611686018427387904)) ∧ w' = w) := by
  apply R.catalog_isNumber_calls
  unfold R.catalog_isNumber
  refine IFB_dec (fun h => ⟨?_, rfl⟩) (fun h => ⟨?_, rfl⟩)
  · congr 1
    have : y ≤ x := h
    simp [this]
  · congr 1
    have : ¬ y ≤ x := h
    simp [this]
theorem bounded_ok {l : List UInt8} (hl : Rd w a (l.map byteV)) : Calls Tryz.prog f.catalog_bounded #[.slice a l.length c] w (Ret fun v w' => v = (if 262144 < l.length then .tuple #[.string (sof []), .int .i64 130] else .tuple #[.string (sof l), .int .i64 0]) ∧ w' = w) := by
  apply R.catalog_bounded_calls
  unfold R.catalog_bounded
  refine IFB_dec (fun h => ⟨?_, rfl⟩) (fun h => string_of_bytes tbytes rfl hl ⟨_, rfl, ?_, rfl⟩)
  · rw [if_pos (by omega)]; rfl
  · rw [if_neg (by omega)]
theorem Ingest_ok (x y : Int) (hcs : Rd w a (colsL cs)) (hn : cs.length ≤ 9223372036854775807) (hq : ∀ c ∈ cs, c.1.size ≤ 9223372036854775807) (hr : RowsAt w a2 ps) (hm : ps.length ≤ 9223372036854775807) (hv : ∀ r ∈ rws ps, ∀ v ∈ r, ValOk v) :
    Calls Tryz.prog f.catalog_Ingest #[.int .i64 x, .int .i64 y, .slice a cs.length c, .slice a2 ps.length c2] w (Ret fun v w' => v = ingV x y cs (rws ps) ∧ Below w.heap.size w w') := by
  apply R.catalog_Ingest_calls
  unfold R.catalog_Ingest
  have bad2 : (argBad x y ∨ rws ps = []) → ∀ {wx : World}, Below w.heap.size w wx → Value.tuple #[.string ⟨#[]⟩, .int .i64 2] = ingV x y cs (rws ps) ∧ Below w.heap.size w wx := fun h wx B => by
    have e : ingE x y cs (rws ps) = 2 := if_pos h
    refine ⟨?_, B⟩
    rw [ingV, e, if_neg (by decide)]
    rfl
  refine (isNumber_ok x 0 w).mono ?_
  rintro _ w1 ⟨_, rfl, rfl, rfl⟩
  refine ⟨_, rfl, IFB_not (IFB_dec (fun h1 => ?_) (fun h1 => bad2 (.inl (by unfold argBad; omega)) (.refl _ _)))⟩
  refine (isNumber_ok y 1 w1).mono ?_
  rintro _ w1 ⟨_, rfl, rfl, rfl⟩
  refine ⟨_, rfl, IFB_not (IFB_dec (fun h2 => ?_) (fun h2 => bad2 (.inl (by unfold argBad; omega)) (.refl _ _)))⟩
  refine IFB_eq (fun h => bad2 (.inr ?_) (.refl _ _)) (fun h3 => ?_)
  · have : ps.length = 0 := by omega
    rw [List.length_eq_zero_iff.1 this]
    rfl
  have hno : ¬ (argBad x y ∨ rws ps = []) := by
    rintro (h | h)
    · unfold argBad at h; omega
    · apply h3
      have : ps.length = 0 := by simpa [rws] using h
      omega
  refine (ST.start w1).newB fun b9 w3 _ _ S => ?_
  have hl1 : Rd w3 (some ⟨b9, 0, none⟩) (([2] : List UInt8).map byteV) := S.rdc 0 rfl
  have ex : IntKind.u64.wrap x = ((x.toNat : Nat) : Int) := by rw [wrap_u64_id (by omega) (by omega)]; omega
  have ey : IntKind.u64.wrap y = ((y.toNat : Nat) : Int) := by rw [wrap_u64_id (by omega) (by omega)]; omega
  rw [ex, ey]
  have dx := digitsL_len10 (n := x.toNat) (by omega)
  have dy := digitsL_len10 (n := y.toNat) (by omega)
  refine (wire_Number_ok (c := 1) [2] hl1 x.toNat (by omega) (by simp)).mono ?_
  rintro _ w4 ⟨_, rfl, a4, c4, rfl, h4⟩
  have S := stAddB S h4
  refine ⟨_, _, _, rfl, (wire_Number_ok _ h4.rd y.toNat (by omega) (by simp only [List.length_append, List.length_cons, List.length_nil]; omega)).mono ?_⟩
  rintro _ w5 ⟨_, rfl, a5, c5, rfl, h5⟩
  have S := stAddB S h5
  obtain ⟨l5, hl5⟩ : ∃ l5, l5 = [2] ++ digitsL x.toNat ++ digitsL y.toNat := ⟨_, rfl⟩
  rw [← hl5] at h5 S ⊢
  have hl5l : l5.length ≤ 21 := by rw [hl5]; simp only [List.length_append, List.length_cons, List.length_nil]; omega
  refine ⟨_, _, _, rfl, (schema_Lay_ok (l := l5) h5.rd (by omega) (hcs.grown S.bel) hn hq).mono ?_⟩
  rintro _ w6 ⟨_, rfl, h6⟩
  have bad5 : ∀ (e : Int), segE cs (rws ps) = e → e ≠ 0 → ∀ {wx : World}, Below w1.heap.size w1 wx → Value.tuple #[.string ⟨#[]⟩, .int .i64 e] = ingV x y cs (rws ps) ∧ Below w1.heap.size w1 wx := fun e he h0 wx B => by
    have e2 : ingE x y cs (rws ps) = e := by rw [ingE, if_neg hno, he, if_pos h0]
    refine ⟨?_, B⟩
    rw [ingV, e2, if_neg h0]
    rfl
  rcases h6 with ⟨hR, rfl, B6⟩ | ⟨hR, a6, c6, rfl, h6⟩
  · refine ⟨_, _, _, _, rfl, fun s wx => s = [.slice none 0 0, .int .i64 50] ∧ wx = w6, IFB_eq (fun h => by cases h) (fun _ => ⟨rfl, rfl⟩), ?_⟩
    rintro _ _ _ _ wx ⟨hs, rfl⟩
    cases hs
    exact IFB_ne (fun _ => bad5 50 (by rw [segE, if_pos hR]) (by decide) (below_trans S.bel B6)) (fun h => by cases h)
  · have S := stAddB S h6
    have hsl := schL_len hR
    obtain ⟨l6, hl6⟩ : ∃ l6, l6 = l5 ++ schL cs := ⟨_, rfl⟩
    rw [← hl6] at h6 S ⊢
    have hl6l : l6.length ≤ 10000 := by rw [hl6, List.length_append]; omega
    refine ⟨_, _, _, _, rfl, fun s wx => Below w1.heap.size w1 wx ∧ ((segE cs (rws ps) ≠ 0 ∧ s = [.slice none 0 0, .int .i64 (segE cs (rws ps))]) ∨ (SegOk cs (rws ps) ∧ ∃ a c, s = [.slice a (l6 ++ rowsL (rws ps)).length c, .int .i64 0] ∧ Rd wx a ((l6 ++ rowsL (rws ps)).map byteV))),
      IFB_eq (fun _ => ?_) (fun h => absurd rfl h), ?_⟩
    · refine (schema_LayRows_ok (c := c6) (c2 := c) (c3 := c2) h6.rd (by omega) (hcs.grown S.bel) hn hq (hr.grown S.bel) hm hv).mono ?_
      rintro _ w7 ⟨_, rfl, h7⟩
      rcases h7 with ⟨_, rfl, h0, B7⟩ | ⟨hok, a7, c7, rfl, h7⟩
      · exact ⟨_, _, _, _, rfl, below_trans S.bel B7, .inl ⟨h0, rfl⟩⟩
      · exact ⟨_, _, _, _, rfl, below_trans S.bel h7.bel, .inr ⟨hok, a7, c7, rfl, h7.rd⟩⟩
    · rintro _ _ _ _ wx ⟨B, hs⟩
      rcases hs with ⟨h0, hs⟩ | ⟨hok, a7, c7, hs, hrd⟩
      · cases hs
        exact IFB_ne (fun _ => bad5 _ rfl h0 B) (fun h => absurd h h0)
      · cases hs
        have h0 : segE cs (rws ps) = 0 := by
          by_cases h : segE cs (rws ps) = 0
          · exact h
          · exact absurd hok (segE_bad h)
        refine IFB_ne (fun h => absurd rfl h) (fun _ => (bounded_ok hrd).mono ?_)
        rintro _ w9 ⟨_, rfl, rfl, rfl⟩
        have e : l6 ++ rowsL (rws ps) = ingL x.toNat y.toNat cs (rws ps) := by rw [hl6, hl5, ingL]; simp
        rw [e]
        by_cases hb : 262144 < (ingL x.toNat y.toNat cs (rws ps)).length
        · rw [if_pos hb]
          refine ⟨_, _, rfl, ?_, B⟩
          have e2 : ingE x y cs (rws ps) = 130 := by rw [ingE, if_neg hno, if_neg (by rw [h0]; decide), if_pos hb]
          rw [ingV, e2, if_neg (by decide)]
        · rw [if_neg hb]
          refine ⟨_, _, rfl, ?_, B⟩
          have e2 : ingE x y cs (rws ps) = 0 := by rw [ingE, if_neg hno, if_neg (by rw [h0]; decide), if_neg hb]
          rw [ingV, e2, if_pos rfl]
theorem New_ok (w : World) : Calls Tryz.prog f.catalog_New #[] w (Ret fun v w' => ∃ bc bm, v = .pointer (some ⟨bc, 0, none⟩) ∧ ST w w' (catH bc none 0 none 0 bm 0 ⟨[], [], []⟩)) := by
  apply R.catalog_New_calls
  unfold R.catalog_New
  refine (ST.start w).newMapI (k := ty.int64) ty.map_int64_catalog_client (fun bm w1 S hb => ⟨_, rfl, S.newB fun b3 w2 _ _ S => ⟨b3, bm, rfl, ?_⟩⟩) rfl
  have S : ST w w2 (It.cells b3 #[.slice none 0 0, .slice none 0 0, .map (some bm)] ty.catalog_Catalog :: It.mapI Tryz.prog ty.int64 bm 0 (gOf []) :: []) := by
    rw [gOf_nil]
    exact S
  have S := (S.nil ty.api_Part 2).nil ty.api_Column 3
  exact S.pull 2 rfl
end
theorem prts_one (ps : List Prt) : ∀ u ∈ prtsL ps, u.oneCell' = true := by
  intro u hu
  obtain ⟨v, _, hv⟩ := List.mem_flatMap.1 hu
  simp only [prtC, List.mem_cons, List.not_mem_nil, or_false] at hv
  rcases hv with rfl | rfl <;> rfl
theorem CloneP_ok {w : World} {a : Option Addr} {c : Nat} {vs : List Prt} (h : Rd w a (prtsL vs)) (hl : vs.length ≤ 100000) : Calls Tryz.prog f.slices_Clone_api_Part_api_Part #[.slice a vs.length c] w (Ret fun v w' => ∃ a' c', v = .slice a' vs.length c' ∧ ST w w' [prtsI a' c' vs]) := by
  apply R.slices_Clone_api_Part_api_Part_calls
  unfold R.slices_Clone_api_Part_api_Part
  cases a with
  | none =>
    have := rd_none (k := 1) (fun _ => rfl) h
    subst this
    exact IFB_true ⟨none, 0, rfl, (ST.start w).nil _ _⟩
  | some q =>
    refine IFB_false ((ST.start w).newB fun b2 w1 _ B1 S => ?_)
    have S := S.chg 0 rfl (.refl _ _) (It.row ty.api_Part 2 (some ⟨b2, 0, none⟩) 0 0 []) (row_empty (S.blk 0 rfl)) (fun k hk => .inl hk)
    refine S.app 0 rfl tPrts rfl (by omega) (by omega) (h.grown B1) (mm := vs.length) (prts_len vs) (prts_one vs) (by omega) fun a' c' w' S => ⟨_, _, _, rfl, a', c', by rw [Nat.zero_add], ?_⟩
    simp only [Nat.zero_add, List.nil_append] at S
    exact S
section
variable {w0 w : World} {H : List It} {bc bm n N cc pc : Nat} {ca pa : Option Addr} {C : CatS}
theorem Parts_ok (S : ST w0 w (catH bc ca cc pa pc bm n C ++ H)) (hC : C.parts.length ≤ 256) : Calls Tryz.prog f.catalog_Catalog_Parts #[.pointer (some ⟨bc, 0, none⟩)] w (Ret fun v w' => ∃ a' c', v = .slice a' C.parts.length c' ∧ ST w w' [prtsI a' c' C.parts]) := by
  apply R.catalog_Catalog_Parts_calls
  unfold R.catalog_Catalog_Parts
  refine IFB_false ⟨_, _, _, S.cell 0 rfl rfl, (CloneP_ok (S.rd 2 rfl) (by omega)).mono ?_⟩
  rintro _ w1 ⟨_, rfl, a', c', rfl, T⟩
  exact ⟨_, _, _, rfl, a', c', rfl, T⟩
theorem apply_create (S : ST w0 w (catH bc ca cc pa pc bm n C ++ H)) (hca : ca = none ↔ C.cols = []) (hN : n ≤ N) (s : ByteArray) (h1 : (sget s 0).toNat = 1) (h0 : 0 < s.size) (hle : s.size ≤ 262144) :
    Calls Tryz.prog f.catalog_Catalog_Apply #[.pointer (some ⟨bc, 0, none⟩), .string s] w (Ret (Did w0 H bc bm (N + 1) (Cmd1 C (bl s)))) := by
  have hbl := bl_length s
  refine apply_core S hca hN s (fun h => by omega) (fun rf hsel _ _ H' b a c wx hc S => ?_)
  rcases hsel with ⟨_, rfl⟩ | ⟨h, _⟩ | ⟨h, _⟩
  · exact create_ok S hc (by omega) hca hN
  · omega
  · omega
theorem apply_ingest (T : Tabs w0) (S : ST w0 w (catH bc ca cc pa pc bm n C ++ H)) (hC : CatOK C) (hca : ca = none ↔ C.cols = []) (hN : n ≤ N) (hN2 : N < 1000000) (s : ByteArray) (h1 : (sget s 0).toNat = 2) (h0 : 0 < s.size) (hle : s.size ≤ 262144) :
    Calls Tryz.prog f.catalog_Catalog_Apply #[.pointer (some ⟨bc, 0, none⟩), .string s] w (Ret (Did w0 H bc bm (N + 1) (Cmd2 C (bl s)))) := by
  have hbl := bl_length s
  refine apply_core S hca hN s (fun h => by omega) (fun rf hsel _ _ H' b a c wx hc S => ?_)
  rcases hsel with ⟨h, _⟩ | ⟨_, rfl⟩ | ⟨h, _⟩
  · omega
  · exact ingest_ok T S hc (by omega) hC hca hN hN2
  · omega
end
theorem column_ok (w : World) : Calls Tryz.prog f.law22_column #[] w (Ret fun v w' => ∃ b, v = .slice (some ⟨b, 0, none⟩) 1 1 ∧ ST w w' [It.cells b #[.string ⟨#[97]⟩, .int .i64 1, .bool false] ty.api_Column]) := by
  apply R.law22_column_calls
  unfold R.law22_column
  exact (ST.start w).newB fun b w1 _ _ S => ⟨b, rfl, S⟩
theorem num_ok (x : Int) (w : World) : Calls Tryz.prog f.law22_num #[.int .i64 x] w (Ret fun v w' => ∃ b, v = .slice (some ⟨b, 0, none⟩) 1 1 ∧ ST w w' [It.cells b #[.int .i64 1, .int .i64 x, .string ⟨#[]⟩] ty.api_Value]) := by
  apply R.law22_num_calls
  unfold R.law22_num
  exact (ST.start w).newB fun b w1 _ _ S => ⟨b, rfl, S⟩
def cs0 : List Col := [(⟨#[97]⟩, 1, false)]
def rows0 : List (List Val) := [[(1, 5, ⟨#[]⟩)], [(1, 6, ⟨#[]⟩)]]
theorem right0 : rightCols cs0 = true := by kernel_rfl
theorem ok0 : SegOk cs0 rows0 where
  right := right0
  len := by decide
  fits := fun r hr => by
    simp only [rows0, List.mem_cons, List.not_mem_nil, or_false] at hr
    rcases hr with rfl | rfl <;> kernel_rfl
  ok := fun r hr v hv => by
    simp only [rows0, List.mem_cons, List.not_mem_nil, or_false] at hr
    rcases hr with rfl | rfl
    · rw [List.mem_singleton.1 hv]; exact ⟨by decide, by decide⟩
    · rw [List.mem_singleton.1 hv]; exact ⟨by decide, by decide⟩
theorem seg0 : segE cs0 rows0 = 0 := by
  by_cases h : segE cs0 rows0 = 0
  · exact h
  · exact absurd ok0 (segE_bad h)
theorem len0 : (ingL 7 1 cs0 rows0).length ≤ 40000 := by
  have h1 := digitsL_len10 (n := 7) (by omega)
  have h2 := digitsL_len10 (n := 1) (by omega)
  have h3 := schL_len right0
  have h4 := digitsL_len10 (n := 2) (by omega)
  have h5 := row_len ok0 (r := [(1, 5, ⟨#[]⟩)]) (by simp [rows0])
  have h6 := row_len ok0 (r := [(1, 6, ⟨#[]⟩)]) (by simp [rows0])
  have e : rowsL rows0 = digitsL 2 ++ (rowL [(1, 5, ⟨#[]⟩)] ++ (rowL [(1, 6, ⟨#[]⟩)] ++ [])) := rfl
  simp only [ingL, List.length_cons, List.length_append, e, List.length_nil]
  omega
theorem ingE0 : ingE 7 1 cs0 rows0 = 0 := by
  have h1 : ¬ (argBad 7 1 ∨ rows0 = []) := by
    rintro (h | h)
    · unfold argBad at h; omega
    · cases h
  have h2 := len0
  rw [ingE, if_neg h1, if_neg (by rw [seg0]; decide), if_neg]
  show ¬ 262144 < (ingL 7 1 cs0 rows0).length
  omega
theorem cre_back {cs : List Col} (hR : rightCols cs = true) : takeSch (creL cs) 1 = some (cs, (creL cs).length) := by
  have := takeSch_drop hR (l := creL cs) (at_ := 1) (r := []) (by simp [creL])
  rw [show ((1 : Nat) : Int) = 1 from rfl] at this
  rw [this]
  simp [creL]
  omega
theorem ing_back {x y : Nat} {cs : List Col} {rows : List (List Val)} (hx : x ≤ greatN) (hy1 : 1 ≤ y) (hy : y ≤ greatN) (hs : SegOk cs rows) (hne : rows ≠ []) : ingR (ingL x y cs rows) 1 = some ((x, y, cs, rows), (ingL x y cs rows).length) := by
  have gx : x < 18446744073709551616 := by unfold greatN at hx; omega
  have gy : y < 18446744073709551616 := by unfold greatN at hy; omega
  have h1 := takeN_drop (l := ingL x y cs rows) (at_ := 1) (r := digitsL y ++ (schL cs ++ rowsL rows)) gx (by simp [ingL])
  have d1 : (ingL x y cs rows).drop (1 + (digitsL x).length) = digitsL y ++ (schL cs ++ rowsL rows) := by
    rw [← List.drop_drop]
    simp [ingL]
  have h2 := takeN_drop gy d1
  have d2 : (ingL x y cs rows).drop (1 + (digitsL x).length + (digitsL y).length) = schL cs ++ rowsL rows := drop_app d1
  have h3 := takeSch_drop hs.right d2
  have d3 : (ingL x y cs rows).drop (1 + (digitsL x).length + (digitsL y).length + (schL cs).length) = rowsL rows ++ [] := by rw [drop_app d2, List.append_nil]
  have h4 := takeRows_drop hs d3
  unfold ingR numR
  rw [h1, Option.bind_some, if_pos ⟨by simp only; omega, hx⟩, Option.bind_some]
  simp only
  rw [h2, Option.bind_some, if_pos ⟨hy1, hy⟩, Option.bind_some]
  simp only
  rw [h3, Option.bind_some]
  simp only
  rw [h4, Option.bind_some, if_neg hne]
  simp only [ingL, List.length_cons, List.length_append, Option.some.injEq, Prod.mk.injEq, true_and]
  omega
theorem ing_len (x y : Nat) (cs : List Col) (rows : List (List Val)) : 0 < (ingL x y cs rows).length := by simp [ingL]
theorem cmd1_one {C : CatS} {cs : List Col} (hR : rightCols cs = true) {d : Nat × Nat} {fs : List Fil} {C' : CatS} (h : Cmd1 C (creL cs) d fs C') : CreR C cs d fs C' := by
  have hb := cre_back hR
  rcases h with ⟨cs', h1, h2⟩ | ⟨h1, _⟩
  · rw [hb] at h1
    obtain ⟨rfl, _⟩ := Prod.mk.inj (Option.some.inj h1)
    exact h2
  · exact absurd hb (h1 cs)
theorem cmd2_one {C : CatS} {x y : Nat} {cs : List Col} {rows : List (List Val)} (hx : x ≤ greatN) (hy1 : 1 ≤ y) (hy : y ≤ greatN) (hs : SegOk cs rows) (hne : rows ≠ []) {d : Nat × Nat} {fs : List Fil} {C' : CatS} (h : Cmd2 C (ingL x y cs rows) d fs C') : IngR C x y cs rows d fs C' := by
  have hb := ing_back hx hy1 hy hs hne
  rcases h with ⟨z, h1, h2⟩ | ⟨h1, _⟩
  · rw [hb] at h1
    obtain ⟨rfl, _⟩ := Prod.mk.inj (Option.some.inj h1)
    exact h2
  · exact absurd hb (h1 _)
theorem ing_first {d : Nat × Nat} {fs : List Fil} {C' : CatS} (h : IngR ⟨cs0, [], []⟩ 7 1 cs0 rows0 d fs C') : ∃ nm dt, d = (0, 2) ∧ fs = [(nm, dt)] ∧ nm.size = 64 ∧ C' = ⟨cs0, [(nm, 2)], [(7, 1, 0, 2)]⟩ := by
  rcases h with ⟨t, ht, _⟩ | ⟨t, ht, _⟩ | ⟨_, h, _⟩ | ⟨_, _, C1, hA, rfl⟩
  · cases ht
  · cases ht
  · cases h
  · rcases hA with ⟨h, _⟩ | ⟨_, h, _⟩ | ⟨_, _, b, hb, rfl, rfl, rfl⟩
    · exact absurd rfl h
    · cases h
    · exact ⟨_, _, rfl, rfl, nameS_size _, rfl⟩
theorem ing_again {nm : ByteArray} {d : Nat × Nat} {fs : List Fil} {C' : CatS} (h : IngR ⟨cs0, [(nm, 2)], [(7, 1, 0, 2)]⟩ 7 1 cs0 rows0 d fs C') : d = (0, 2) ∧ fs = [] ∧ C' = ⟨cs0, [(nm, 2)], [(7, 1, 0, 2)]⟩ := by
  have hm : mapOf [(7, 1, 0, 2)] 7 = some (1, 0, 2) := by decide
  rcases h with ⟨t, ht, _, rfl, rfl, rfl⟩ | ⟨t, ht, h, _⟩ | ⟨h, _⟩ | ⟨h, _⟩
  · have ht : mapOf [(7, 1, 0, 2)] 7 = some t := ht
    rw [hm] at ht
    cases ht
    exact ⟨rfl, rfl, rfl⟩
  · have ht : mapOf [(7, 1, 0, 2)] 7 = some t := ht
    rw [hm] at ht
    cases ht
    exact absurd h (by decide)
  · have h : mapOf [(7, 1, 0, 2)] 7 = none := h
    rw [hm] at h
    cases h
  · have := h _ hm
    exact absurd this (by decide)
set_option maxHeartbeats 2000000 in
theorem shown_ok {w : World} (T : Tabs w) : Calls Tryz.prog f.law22_shown #[] w (Ret fun v w' => v = .bool true ∧ Below w.heap.size w w') := by
  apply R.law22_shown_calls
  unfold R.law22_shown
  refine (New_ok w).mono ?_
  rintro _ w1 ⟨_, rfl, bc, bm, rfl, S⟩
  refine ⟨_, rfl, (column_ok w1).mono ?_⟩
  rintro _ w2 ⟨_, rfl, q1, rfl, P⟩
  have S := S.join P
  have hq0 : ∀ c ∈ cs0, c.1.size ≤ 9223372036854775807 := fun c hc => by rw [List.mem_singleton.1 hc]; decide
  refine ⟨_, _, _, rfl, (Create_ok (c := 1) (cs := cs0) (S.rdc 0 rfl) (by decide) hq0).mono ?_⟩
  rintro _ w3 ⟨_, rfl, rfl, B3⟩
  have S := S.grown B3
  have e1 : creV cs0 = .tuple #[.string (sof (creL cs0)), .int .i64 0] := if_pos right0
  rw [e1]
  refine ⟨_, _, rfl, (column_ok w3).mono ?_⟩
  rintro _ w4 ⟨_, rfl, q2, rfl, P⟩
  have S := S.join P
  refine ⟨_, _, _, rfl, (num_ok 5 w4).mono ?_⟩
  rintro _ w5 ⟨_, rfl, q3, rfl, P⟩
  have S := S.join P
  refine ⟨_, _, _, rfl, (num_ok 6 w5).mono ?_⟩
  rintro _ w6 ⟨_, rfl, q4, rfl, P⟩
  have S := S.join P
  refine ⟨_, _, _, rfl, S.newB fun b14 w7 _ _ S => ?_⟩
  have hr : RowsAt w7 (some ⟨b14, 0, none⟩) [(some ⟨q3, 0, none⟩, 1, [(1, 5, ⟨#[]⟩)]), (some ⟨q4, 0, none⟩, 1, [(1, 6, ⟨#[]⟩)])] := ⟨S.rdc 0 rfl, fun p hp => by
    simp only [List.mem_cons, List.not_mem_nil, or_false] at hp
    rcases hp with rfl | rfl
    · exact S.rdc 2 rfl
    · exact S.rdc 1 rfl⟩
  refine (Ingest_ok (c := 1) (c2 := 2) (cs := cs0) 7 1 (S.rdc 3 rfl) (by decide) hq0 hr (by simp) ok0.ok).mono ?_
  rintro _ w8 ⟨_, rfl, rfl, B8⟩
  have S := S.grown B8
  obtain ⟨l2, hl2⟩ : ∃ l2, l2 = ingL 7 1 cs0 rows0 := ⟨_, rfl⟩
  have e2 : ingV 7 1 cs0 (rws [((some ⟨q3, 0, none⟩ : Option Addr), 1, [((1 : Int), (5 : Int), (⟨#[]⟩ : ByteArray))]), (some ⟨q4, 0, none⟩, 1, [(1, 6, ⟨#[]⟩)])]) = .tuple #[.string (sof l2), .int .i64 0] := by
    rw [hl2]
    exact if_pos ingE0
  rw [e2]
  have hlen := len0
  have hpos := ing_len 7 1 cs0 rows0
  rw [← hl2] at hlen hpos
  have S : ST w w8 (catH bc none 0 none 0 bm 0 ⟨[], [], []⟩ ++ []) := S.drop 5
  have hcl : (creL cs0).length ≤ 601 := by have := schL_len right0; simp only [creL, List.length_cons]; omega
  have hcp : 0 < (creL cs0).length := by simp [creL]
  refine ⟨_, _, rfl, (apply_create (N := 0) S ⟨fun _ => rfl, fun _ => rfl⟩ (Nat.le_refl _) (sof (creL cs0)) (by rw [sget_eq, bl_sof]; rfl) (by rw [size_sof]; exact hcp) (by rw [size_sof]; omega)).mono ?_⟩
  clear S
  rintro _ w9 ⟨_, rfl, d, fs, C1, fa, ca, cc, pa, pc, n1, hQ, rfl, hca, hn, S⟩
  rw [bl_sof] at hQ
  rcases cmd1_one right0 hQ with ⟨h, _⟩ | ⟨_, rfl, rfl, rfl⟩
  · exact absurd rfl h
  refine ⟨_, _, _, _, _, rfl, S.newB fun b22 w10 _ _ S => S.sto 0 rfl (cs' := #[.int .i64 0, .int .i64 0]) (by simp) rfl fun w11 S => S.sto 0 rfl (cs' := #[.int .i64 0, .int .i64 0]) (by simp) rfl fun w12 S => ?_⟩
  have S : ST w w12 ([It.cells b22 #[.int .i64 0, .int .i64 0] ty.api_Done, It.rd fa (filesL [])] ++ (catH bc ca cc pa pc bm n1 ⟨cs0, [], []⟩ ++ [])) := S
  have S := ST.mid (catH bc ca cc pa pc bm n1 ⟨cs0, [], []⟩) S
  have hC0 : CatOK ⟨cs0, [], []⟩ := ⟨by decide, by simp, by simp, .inr right0⟩
  have hing : (sget (sof l2) 0).toNat = 2 := by rw [sget_eq, bl_sof, hl2]; rfl
  refine (apply_ingest (N := 1) T S hC0 hca hn (by decide) (sof l2) hing (by rw [size_sof]; exact hpos) (by rw [size_sof]; omega)).mono ?_
  clear S
  rintro _ w13 ⟨_, rfl, d, fs, C2, fa2, ca2, cc2, pa2, pc2, n2, hQ, rfl, hca2, hn2, S⟩
  rw [bl_sof, hl2] at hQ
  obtain ⟨nm, dt, rfl, rfl, hnm, rfl⟩ := ing_first (cmd2_one (by decide) (by decide) (by decide) ok0 (by simp [rows0]) hQ)
  refine ⟨_, _, _, _, _, rfl, S.newB fun b27 w14 _ _ S => S.sto 0 rfl (cs' := #[.int .i64 0, .int .i64 0]) (by simp) rfl fun w15 S => S.sto 0 rfl (cs' := #[.int .i64 0, .int .i64 2]) (by simp) rfl fun w16 S => ?_⟩
  have S : ST w w16 ([It.cells b27 #[.int .i64 0, .int .i64 2] ty.api_Done, It.rd fa2 (filesL [(nm, dt)])] ++ (catH bc ca2 cc2 pa2 pc2 bm n2 ⟨cs0, [(nm, 2)], [(7, 1, 0, 2)]⟩ ++ ([It.cells b22 #[.int .i64 0, .int .i64 0] ty.api_Done, It.rd fa (filesL [])] ++ []))) := S
  have S := ST.mid (catH bc ca2 cc2 pa2 pc2 bm n2 ⟨cs0, [(nm, 2)], [(7, 1, 0, 2)]⟩) S
  have hC2 : CatOK ⟨cs0, [(nm, 2)], [(7, 1, 0, 2)]⟩ := ⟨by simp, fun p hp => by rw [List.mem_singleton.1 hp]; exact ⟨hnm, by simp, by simp⟩, fun c hc => by rw [List.mem_singleton.1 hc]; exact ⟨by decide, ⟨by decide, by decide⟩, by decide, by decide⟩, .inr right0⟩
  refine (apply_ingest (N := 2) T S hC2 hca2 hn2 (by decide) (sof l2) hing (by rw [size_sof]; exact hpos) (by rw [size_sof]; omega)).mono ?_
  clear S
  rintro _ w17 ⟨_, rfl, d, fs, C3, fa3, ca3, cc3, pa3, pc3, n3, hQ, rfl, hca3, hn3, S⟩
  rw [bl_sof, hl2] at hQ
  obtain ⟨rfl, rfl, rfl⟩ := ing_again (cmd2_one (by decide) (by decide) (by decide) ok0 (by simp [rows0]) hQ)
  refine ⟨_, _, _, _, _, rfl, S.newB fun b32 w18 _ _ S => S.sto 0 rfl (cs' := #[.int .i64 0, .int .i64 0]) (by simp) rfl fun w19 S => S.sto 0 rfl (cs' := #[.int .i64 0, .int .i64 2]) (by simp) rfl fun w20 S => ?_⟩
  refine IFB_eq (fun _ => ?_) (fun h => absurd rfl h)
  refine IFB_eq (fun _ => ?_) (fun h => absurd rfl h)
  refine ⟨_, S.cell 8 rfl rfl, _, S.cell 8 rfl rfl, IFB_of (fun _ => ?_) (fun h => absurd h (by decide))⟩
  refine ⟨_, S.cell 6 rfl rfl, _, S.cell 6 rfl rfl, IFB_of (fun _ => ?_) (fun h => absurd h (by decide))⟩
  refine IFB_eq (fun _ => ?_) (fun h => absurd rfl h)
  refine ⟨_, S.cell 0 rfl rfl, _, S.cell 0 rfl rfl, _, S.cell 6 rfl rfl, _, S.cell 6 rfl rfl, IFB_of (fun _ => ?_) (fun h => absurd h (by decide))⟩
  refine IFB_eq (fun _ => ?_) (fun h => absurd rfl h)
  have S := S.drop 2
  refine (Parts_ok (H := _) S hC2.np).mono ?_
  rintro _ w21 ⟨_, rfl, a', c', rfl, P⟩
  exact ⟨_, _, _, rfl, rfl, below_trans S.bel P.bel⟩
theorem CatClient_nil (id : Int) (w : World) : Calls Tryz.prog f.catalog_Catalog_Client #[.pointer none, .int .i64 id] w (Ret fun v w' => v = .tuple #[.int .i64 0, .agg #[.int .i64 0, .int .i64 0]] ∧ Below w.heap.size w w') := by
  apply R.catalog_Catalog_Client_calls
  unfold R.catalog_Catalog_Client
  exact (ST.start w).newB fun b3 w1 _ _ S => IFB_true (S.sto 0 rfl (cs' := #[.int .i64 0, .int .i64 0]) (by simp) rfl fun w2 S => S.sto 0 rfl (cs' := #[.int .i64 0, .int .i64 0]) (by simp) rfl fun w3 S => ⟨_, S.cell 0 rfl rfl, _, S.cell 0 rfl rfl, rfl, S.bel⟩)
theorem CatCols_nil (w : World) : Calls Tryz.prog f.catalog_Catalog_Cols #[.pointer none] w (Ret fun v w' => v = .slice none 0 0 ∧ w' = w) := by
  apply R.catalog_Catalog_Cols_calls
  unfold R.catalog_Catalog_Cols
  exact IFB_true ⟨rfl, rfl⟩
theorem CatParts_nil (w : World) : Calls Tryz.prog f.catalog_Catalog_Parts #[.pointer none] w (Ret fun v w' => v = .slice none 0 0 ∧ w' = w) := by
  apply R.catalog_Catalog_Parts_calls
  unfold R.catalog_Catalog_Parts
  exact IFB_true ⟨rfl, rfl⟩
theorem CatSnap_nil (w : World) : Calls Tryz.prog f.catalog_Catalog_Snapshot #[.pointer none] w (Ret fun v w' => v = .string ⟨#[]⟩ ∧ w' = w) := by
  apply R.catalog_Catalog_Snapshot_calls
  unfold R.catalog_Catalog_Snapshot
  exact IFB_true ⟨rfl, rfl⟩
theorem CatalogNone_ok {w : World} (T : Tabs w) (s : ByteArray) : Calls Tryz.prog f.law22_CatalogNone #[.string s] w (Ret fun v w' => v = .bool true ∧ Below w.heap.size w w') := by
  apply R.law22_CatalogNone_calls
  unfold R.law22_CatalogNone
  refine (shown_ok T).mono ?_
  rintro _ w1 ⟨_, rfl, rfl, B1⟩
  refine ⟨_, rfl, (apply_nil s w1).mono ?_⟩
  rintro _ w2 ⟨_, rfl, rfl, B2⟩
  have S := (ST.start w).grown (below_trans B1 B2)
  refine ⟨_, _, _, _, _, rfl, S.newB fun b8 w3 _ _ S => S.sto 0 rfl (cs' := #[.int .i64 1, .int .i64 0]) (by simp) rfl fun w4 S => S.sto 0 rfl (cs' := #[.int .i64 1, .int .i64 0]) (by simp) rfl fun w5 S => (CatClient_nil 1 w5).mono ?_⟩
  rintro _ w6 ⟨_, rfl, rfl, B6⟩
  have S := S.grown B6
  refine ⟨_, _, _, rfl, S.newB fun b13 w7 _ _ S => S.sto 0 rfl (cs' := #[.int .i64 0, .int .i64 0]) (by simp) rfl fun w8 S => S.sto 0 rfl (cs' := #[.int .i64 0, .int .i64 0]) (by simp) rfl fun w9 S => IFB_true ⟨_, S.cell 1 rfl rfl, _, S.cell 1 rfl rfl, IFB_of (fun _ => ?_) (fun h => absurd h (by decide))⟩⟩
  refine IFB_eq (fun _ => ?_) (fun h => absurd rfl h)
  refine IFB_eq (fun _ => ?_) (fun h => absurd rfl h)
  refine ⟨_, S.cell 0 rfl rfl, _, S.cell 0 rfl rfl, IFB_of (fun _ => ?_) (fun h => absurd h (by decide))⟩
  refine (CatCols_nil w9).mono ?_
  rintro _ w10 ⟨_, rfl, rfl, rfl⟩
  refine ⟨_, _, _, rfl, IFB_eq (fun _ => ?_) (fun h => absurd rfl h)⟩
  refine (CatParts_nil _).mono ?_
  rintro _ w11 ⟨_, rfl, rfl, rfl⟩
  refine ⟨_, _, _, rfl, IFB_eq (fun _ => ?_) (fun h => absurd rfl h)⟩
  refine (CatSnap_nil _).mono ?_
  rintro _ w12 ⟨_, rfl, rfl, rfl⟩
  refine ⟨_, rfl, ?_, S.bel⟩
  rw [bytesEq_iff]
  simp
end Go.Proofs.YtpnaifmmggnimaaGreatDoor
