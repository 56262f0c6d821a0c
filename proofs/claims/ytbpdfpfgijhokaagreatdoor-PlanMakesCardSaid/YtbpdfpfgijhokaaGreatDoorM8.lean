/-
  Texts of this claim, laid one behind the other by a program of mine (install.py): P.Pl7, P.Rp5, P.Rp6, P.Tree, P.PlW, P.PlX, P.PlY, P.PlArg.
-/
import Derived.Test.YtbpdfpfgijhokaaGreatDoorM7
import Derived.Test.YtbpdfpfgijhokaaGreatDoorM4
import Derived.Test.YtbpdfpfgijhokaaGreatDoorM3
namespace Go.Proofs.YtbpdfpfgijhokaaGreatDoor
set_option maxRecDepth 100000
open Go.Dn Go.Proofs
open Go.RowKit (Below)
set_option linter.unusedVariables false
theorem up_oneI {l m : List Int} (h1 : l.Pairwise (· < ·)) (h2 : m.Pairwise (· < ·)) (hm : ∀ x, x ∈ l ↔ x ∈ m) : l = m := by
  have n1 : l.Nodup := h1.imp fun h e => by omega
  have n2 : m.Nodup := h2.imp fun h e => by omega
  have hp : l.Perm m := (List.perm_ext_iff_of_nodup n1 n2).2 hm
  exact List.Perm.eq_of_pairwise (le := fun a b => a < b) (fun a b _ _ h1 h2 => absurd h2 (by omega)) h1 h2 hp
def Places (cs : List Col) (xs : List Ex) (l : List Int) : Prop := ∀ n : Int, n ∈ l ↔ ∃ c : Nat, n = c ∧ xs.any (ux cs c) = true
theorem places_needed {cs : List Col} {q : Qu} {l : List Int} (h : Places cs (partsQ q) l) : Lib.compact (l.mergeSort fun x y => decide (x ≤ y)) = (neededL cs q).map fun n : Nat => (n : Int) := by
  obtain ⟨h1, h2⟩ := compactI_up l
  refine up_oneI h1 ?_ fun x => ?_
  · rw [List.pairwise_map]
    exact (needed_up cs q).imp fun h => by omega
  · rw [h2, h x, List.mem_map]
    constructor
    · rintro ⟨c, rfl, hc⟩; exact ⟨c, needed_mem.2 hc, rfl⟩
    · rintro ⟨c, hc, rfl⟩; exact ⟨c, rfl, needed_mem.1 hc⟩
section
variable {w : World} {p : Pl} {a0 ai aw ag ao a6 : Option Addr} {c0 ci cw cg co c6 : Nat}
theorem plan_Needs_ok (E : Env w) (A : PlAt w p a0 ai aw ag ao a6) (hs : smallQ p.q = true) : Calls Tryz.prog f.plan_Needs #[.agg ⟨plL p a0 c0 ai ci aw cw ag cg ao co a6 c6⟩] w (Ret fun r w' => NeedsV p.cs p.q w w' r) := by
  apply R.plan_Needs_calls
  unfold R.plan_Needs
  refine (ST.start w).newB fun b9 w1 _ _ S1 => S1.newB fun b10 w2 _ _ S2 => ⟨_, _, _, S2.cell 1 rfl rfl, _, _, _, S2.cell 1 rfl rfl, _, _, _, S2.cell 1 rfl rfl, _, _, _, S2.cell 1 rfl rfl, _, S2.cell 1 rfl rfl, plan_parts_ok.mono ?_⟩
  rintro _ w3 ⟨_, rfl, bx, rfl, P3⟩
  have S3 : ST w w3 [quI bx p.q ai aw ag ao ci cw cg co, intsI none 0 [], It.cells b10 #[.slice none 0 0] ty.L_int, plI b9 p a0 c0 ai ci aw cw ag cg ao co a6 c6] := (S2.nil ty.int 1).join P3
  refine ⟨_, _, _, rfl, by kernel_rfl, fun rr hst hpe hy => ?_⟩
  have S4 := S3.range rr
  obtain ⟨L, hL⟩ : ∃ L, L = w3.heap.size + 1 := ⟨_, rfl⟩
  obtain ⟨m, hm⟩ : ∃ m, m = w3.heap.size := ⟨_, rfl⟩
  rw [← hL] at S4 hy ⊢
  rw [← hm] at S4 ⊢
  have S5 : ST w ((w3.alloc (.deferred (some []))).alloc (.loop rr)) (quI bx p.q ai aw ag ao ci cw cg co :: ([It.obj m (.deferred (some []))] ++ [intsI none 0 [], It.cells b10 #[.slice none 0 0] ty.L_int, It.obj L (.loop rr), plI b9 p a0 c0 ai ci aw cw ag cg ao co a6 c6])) :=
    (((((S4.pull 5 rfl).pull 1 rfl).pull 5 rfl).pull 5 rfl).pull 4 rfl).pull 5 rfl
  have hpl := prts_len hs
  obtain ⟨M, hM⟩ : ∃ M, M = 1000000 := ⟨_, rfl⟩
  refine (parts_c1_ok (I := fun done B => ∃ (l : List Int) (sa : Option Addr) (sc : Nat), Places p.cs (done.map (·.2.2)) l ∧ l.length ≤ done.length * M ∧ B = [intsI sa sc l, It.cells b10 #[.slice sa l.length sc] ty.L_int, It.obj L (.loop rr), plI b9 p a0 c0 ai ci aw cw ag cg ao co a6 c6]) (J := fun _ => False) ?_ A.q ⟨[], none, 0, ?_, by simp, rfl⟩ S5).mono ?_
  · rintro done x rest vs HN _ w4 htot ⟨l, sa, sc, hP, hll, rfl⟩ S ⟨cs2, rfl, hx⟩
    obtain ⟨a4, cap4, _, rfl, _⟩ := ExC.open hx
    have S := ST.mid (B := []) [intsI sa sc l, It.cells b10 #[.slice sa l.length sc] ty.L_int, It.obj L (.loop rr), plI b9 p a0 c0 ai ci aw cw ag cg ao co a6 c6] S
    have hdl : done.length ≤ 21 := by
      have := congrArg List.length htot
      simp only [List.length_append, List.length_cons] at this
      omega
    have hll2 : done.length * M ≤ 21000000 := by subst hM; omega
    refine hy _ _ _ _ _ _ _ _ _ _ _ w4 (S.get 2 rfl) ?_
    refine S.lit8 fun b27 w13 _ S => S.begr 3 rfl fun w14 S => ⟨_, S.cell 0 rfl rfl, _, S.cell 0 rfl rfl, _, S.cell 0 rfl rfl, _, S.cell 0 rfl rfl, _, S.cell 0 rfl rfl, _, _, _, S.cell 0 rfl rfl, (expr_Uses_st (E.grown S.bel) (hx.grown S.bel)).mono ?_⟩
    rintro _ w15 ⟨_, rfl, at_, ct, t, rfl, hrise, htn, P15⟩
    have S15 := S.join P15
    refine ⟨_, _, _, rfl, ?_⟩
    refine forUp t.length (fun k w16 => ∃ (l2 : List Int) (sa : Option Addr) (sc : Nat), (∀ n : Int, n ∈ l2 ↔ ∃ c : Nat, n = c ∧ ((done.map (·.2.2)).any (ux p.cs c) || (t.take k).any fun s => decide (findC p.cs s = some c)) = true) ∧ l2.length ≤ done.length * M + k ∧
      ST w w16 (strsI at_ ct t :: It.cells b27 ⟨.int .i64 x.1 :: .bool x.2.1 :: exHead x.2.2 a4 cap4⟩ ty.plan_part :: intsI sa sc l2 :: It.cells b10 #[.slice sa l2.length sc] ty.L_int :: It.obj L (.loop { rr with state := .busy }) :: plI b9 p a0 c0 ai ci aw cw ag cg ao co a6 c6 :: (HN ++ []))) (by omega) ⟨l, sa, sc, fun n => by rw [hP n]; simp, hll, S15⟩ fun I2 M2 k w16 hk h next => ?_
    obtain ⟨l2, sa2, sc2, hm2, hl2, S16⟩ := h
    refine IFB_dec (fun hlt => ⟨⟨by omega, hlt⟩, ?_⟩) (fun hge => ?_)
    · have hkl : k < t.length := by omega
      obtain ⟨ps, hps, hc⟩ := strs_at (S16.rd 0 rfl) hkl
      subst hps
      refine ⟨_, by rw [Int.toNat_natCast, Nat.mul_one]; exact hc, _, _, _, S16.cell 5 rfl rfl, (schema_Find_ok (A.cs.grown S16.bel) A.ncs _).mono ?_⟩
      rintro _ w17 ⟨_, rfl, rfl, B17⟩
      have S17 := S16.grown B17
      have hsnoc : ∀ j, ((t.take (k + 1)).any fun s => decide (findC p.cs s = some j)) = (((t.take k).any fun s => decide (findC p.cs s = some j)) || decide (findC p.cs t[k] = some j)) := fun j => by
        rw [List.take_succ_eq_append_getElem hkl, List.any_append]; simp
      refine ⟨_, rfl, ?_⟩
      cases hf : findC p.cs t[k] with
      | none =>
        refine IFB_dec (fun h => absurd h (by show ¬ ((-1 : Int) ≥ 0); omega)) (fun _ => next _ hkl ⟨l2, sa2, sc2, fun n => ?_, by omega, S17⟩)
        rw [hm2]
        simp only [hsnoc, hf]
        simp
      | some j0 =>
        refine IFB_dec (fun _ => ⟨_, _, _, S17.cell 3 rfl rfl, S17.newB fun b44 w18 _ B18 S18 => ?_⟩) (fun h => absurd (show ((j0 : Nat) : Int) ≥ 0 by omega) h)
        refine S18.app 3 rfl tInts rfl (by omega) (by omega) (S18.rdc 0 rfl) (mm := 1) rfl (by intro u hu; simp at hu; rw [hu]; rfl) (by omega) fun a' c' w19 S19 => ⟨_, _, _, rfl, S19.sto 4 rfl (cs' := #[.slice a' (l2.length + 1) c']) (by simp) rfl fun w20 S20 => next _ hkl ⟨l2 ++ [(j0 : Int)], a', c', fun n => ?_, by simp; omega, ?_⟩⟩
        · rw [List.mem_append, hm2, List.mem_singleton]
          simp only [hsnoc, hf, Bool.or_eq_true, decide_eq_true_eq, Option.some.injEq]
          constructor
          · rintro (⟨c, rfl, h | h⟩ | rfl)
            · exact ⟨c, rfl, .inl h⟩
            · exact ⟨c, rfl, .inr (.inl h)⟩
            · exact ⟨j0, rfl, .inr (.inr rfl)⟩
          · rintro ⟨c, rfl, h | h | h⟩
            · exact .inl ⟨c, rfl, .inl h⟩
            · exact .inl ⟨c, rfl, .inr h⟩
            · exact .inr (by rw [h])
        · have S21 := S20.drop 1
          have e : (l2 ++ [(j0 : Int)]).length = l2.length + 1 := by simp
          rw [e]
          unfold intsI
          rw [List.map_append, e]
          exact S21
    · refine S16.endr0 4 hst hpe rfl fun w' S' => ⟨_, ST.unmid (B := []) [intsI sa2 sc2 l2, It.cells b10 #[.slice sa2 l2.length sc2] ty.L_int, It.obj L (.loop rr), plI b9 p a0 c0 ai ci aw cw ag cg ao co a6 c6] (S'.drop 2), .inl ⟨rfl, l2, sa2, sc2, fun n => ?_, by rw [List.length_append, List.length_singleton, Nat.add_mul, Nat.one_mul]; omega, rfl⟩⟩
      rw [List.take_of_length_le (by omega)] at hm2
      rw [hm2]
      simp only [uses_any hrise, List.map_append, List.any_append, List.map_cons, List.map_nil, List.any_cons, List.any_nil, Bool.or_false]
      rfl
  · intro n
    simp
  · rintro _ w21 ⟨_, rfl, B', S21, ⟨l, sa, sc, hP, hll, rfl⟩ | h⟩
    rotate_left
    · cases h
    have hll2 : (prts p.q).length * M ≤ 21000000 := by subst hM; omega
    have S21 := ST.mid (B := []) [intsI sa sc l, It.cells b10 #[.slice sa l.length sc] ty.L_int, It.obj L (.loop rr), plI b9 p a0 c0 ai ci aw cw ag cg ao co a6 c6] S21
    refine ⟨⟨_, rfl⟩, S21.endl0 2 hst hpe rfl fun w22 S22 => ⟨rfl, _, _, _, S22.cell 1 rfl rfl, (sortI_ok S22 0 rfl (by omega)).mono ?_⟩⟩
    rintro _ w23 ⟨_, rfl, rfl, S23⟩
    have hsl : (l.mergeSort fun x y => decide (x ≤ y)).length = l.length := List.length_mergeSort ..
    refine ⟨rfl, _, _, _, S23.cell 1 rfl rfl, ?_⟩
    rw [← hsl]
    refine (compactI_ok S23 0 rfl (by omega)).mono ?_
    rintro _ w24 ⟨_, rfl, rfl, S24⟩
    have S25 := S24.put 4 rfl (.deferred none)
    rw [prts_x] at hP
    refine ⟨_, _, _, rfl, S24.get 4 rfl, sa, sc, ?_, ?_, S25.bel⟩
    · rw [places_needed hP, List.length_map]
    · rw [← places_needed hP]; exact S25.rd 0 rfl
end
def txt0 : ByteArray := ⟨#[115, 101, 108, 101, 99, 116, 32, 98, 32, 97, 115, 32, 107, 44, 32, 115, 117, 109, 40, 97, 41, 32, 97, 115, 32, 115, 32, 103, 114, 111, 117, 112, 32, 98, 121, 32, 98]⟩
def T0 : List Tk := [(0, 1, ⟨#[115, 101, 108, 101, 99, 116]⟩), (7, 1, ⟨#[98]⟩), (9, 1, ⟨#[97, 115]⟩), (12, 1, ⟨#[107]⟩), (13, 4, ⟨#[44]⟩), (15, 1, ⟨#[115, 117, 109]⟩), (18, 4, ⟨#[40]⟩), (19, 1, ⟨#[97]⟩), (20, 4, ⟨#[41]⟩), (22, 1, ⟨#[97, 115]⟩), (25, 1, ⟨#[115]⟩), (27, 1, ⟨#[103, 114, 111, 117, 112]⟩), (33, 1, ⟨#[98, 121]⟩), (36, 1, ⟨#[98]⟩), (37, 0, ⟨#[]⟩)]
theorem toks0 : toksF (txt0.size + 1) (bl txt0) 0 = .ok T0 := by kernel_rfl
def i1 : Itm := (⟨#[107]⟩, 0, colX ⟨#[98]⟩)
def i2 : Itm := (⟨#[115]⟩, 3, colX ⟨#[97]⟩)
def Q0 : Qu := ⟨[i1, i2], [], [colX ⟨#[98]⟩], [], -1⟩
theorem lone1 : Lone T0 1 := ⟨by decide, fun _ => ⟨rfl, show isKeyB ⟨#[98]⟩ = false by decide⟩, fun _ => show ∀ s ∈ headW, seesB (7, 1, ⟨#[98]⟩) s = false by decide, by decide⟩
theorem lone7 : Lone T0 7 := ⟨by decide, fun _ => ⟨rfl, show isKeyB ⟨#[97]⟩ = false by decide⟩, fun _ => show ∀ s ∈ headW, seesB (19, 1, ⟨#[97]⟩) s = false by decide, by decide⟩
theorem lone13 : Lone T0 13 := ⟨by decide, fun _ => ⟨rfl, show isKeyB ⟨#[98]⟩ = false by decide⟩, fun _ => show ∀ s ∈ headW, seesB (36, 1, ⟨#[98]⟩) s = false by decide, by decide⟩
def zIt : Value := .agg #[.string ⟨#[]⟩, .int .i64 0, .int .i64 0, .string ⟨#[]⟩, .int .i64 0, .int .i64 0, .string ⟨#[]⟩, .slice none 0 0]
theorem tItems : slT Tryz.prog ty.L_api_Item = some (ty.api_Item, 8, 104, zIt) := by kernel_rfl
theorem it_one (i : Itm) (a : Option Addr) (cap : Nat) : ∀ u ∈ itHead i a cap, u.oneCell' = true := by
  intro u hu
  simp only [itHead, exHead, List.mem_cons, List.not_mem_nil, or_false] at hu
  rcases hu with rfl | rfl | rfl | rfl | rfl | rfl | rfl | rfl <;> rfl
theorem ex_one (x : Ex) (a : Option Addr) (cap : Nat) : ∀ u ∈ exHead x a cap, u.oneCell' = true := by
  intro u hu
  simp only [exHead, List.mem_cons, List.not_mem_nil, or_false] at hu
  rcases hu with rfl | rfl | rfl | rfl | rfl | rfl <;> rfl
abbrev qb (b : Nat) (ai : Option Addr) (ni ci : Nat) (ag : Option Addr) (ng cg : Nat) : It := It.cells b #[.slice ai ni ci, .slice none 0 0, .slice ag ng cg, .slice none 0 0, .int .i64 (-1)] ty.api_Query
abbrev zqb (b : Nat) : It := It.cells b #[.slice none 0 0, .slice none 0 0, .slice none 0 0, .slice none 0 0, .int .i64 0] ty.api_Query
abbrev itemsI (a : Option Addr) (n c : Nat) (rs : List Value) : It := It.row ty.api_Item 8 a n c rs
abbrev qK (b2 b3 : Nat) (ai : Option Addr) (ni ci : Nat) (rs : List Value) (ag : Option Addr) (ng cg : Nat) (gs : List Value) (H : List It) : List It := exsI ag ng cg gs :: itemsI ai ni ci rs :: qb b3 ai ni ci ag ng cg :: zqb b2 :: H
section
variable {w0 w : World} {H : List It} {b : Nat} {a : Option Addr} {c : Nat}
theorem rquery0 (S : ST w0 w (rpL b a c 0 T0 H)) : Calls Tryz.prog f.ref11_parser_query #[.pointer (some ⟨b, 0, none⟩)] w (Ret fun r w' => ∃ ai ci ag cg, r = .agg ⟨quL Q0 ai none ag none ci 0 cg 0⟩ ∧
    ST w0 w' (rpL b a c 14 T0 (exsI ag 1 cg (exHead (colX ⟨#[98]⟩) none 0) :: itemsI ai 2 ci (itHead i1 none 0 ++ itHead i2 none 0) :: H))) := by
  apply R.ref11_parser_query_calls
  unfold R.ref11_parser_query
  have hT : T0.length ≤ 1000000 := by decide
  refine S.newB fun b2 w1 _ _ S1 => S1.newB fun b3 w2 _ _ S2 => ?_
  refine S2.sto 0 rfl (cs' := #[.slice none 0 0, .slice none 0 0, .slice none 0 0, .slice none 0 0, .int .i64 0]) (by simp) rfl fun w3 S3 => S3.sto 0 rfl (cs' := #[.slice none 0 0, .slice none 0 0, .slice none 0 0, .slice none 0 0, .int .i64 0]) (by simp) rfl fun w4 S4 => S4.sto 0 rfl (cs' := #[.slice none 0 0, .slice none 0 0, .slice none 0 0, .slice none 0 0, .int .i64 0]) (by simp) rfl fun w5 S5 =>
    S5.sto 0 rfl (cs' := #[.slice none 0 0, .slice none 0 0, .slice none 0 0, .slice none 0 0, .int .i64 0]) (by simp) rfl fun w6 S6 => S6.sto 0 rfl (cs' := #[.slice none 0 0, .slice none 0 0, .slice none 0 0, .slice none 0 0, .int .i64 (-1)]) (by simp) rfl fun w7 S7 => ?_
  have S7 : ST w0 w7 (rpL b a c 0 T0 (qK b2 b3 none 0 0 [] none 0 0 [] H)) := (((S7.nil ty.api_Item 8).nil ty.api_Expr 6).pull 5 rfl).pull 5 rfl
  refine rneedsY S7 (by decide) hT (by decide) fun w8 S8 => ⟨rfl, S8.draw fun w9 _ S9 => ⟨_, _, _, S9.cell 4 rfl rfl, (ritem_plain hT lone1 (by decide) (by decide) (by decide) S9).mono ?_⟩⟩
  rintro _ w10 ⟨_, rfl, rfl, S10⟩
  refine ⟨_, _, _, _, _, _, _, _, _, _, rfl, S10.cell 4 rfl rfl, S10.newB fun b15 w11 _ _ S11 => ⟨S11.cell 5 rfl rfl, ?_⟩⟩
  refine S11.app 4 rfl tItems rfl (by omega) (by omega) (S11.rdc 0 rfl) (mm := 1) rfl (it_one i1 none 0) (by omega) fun a1 c1 w12 S12 => ⟨_, _, _, rfl, S12.sto 5 rfl (cs' := #[.slice a1 1 c1, .slice none 0 0, .slice none 0 0, .slice none 0 0, .int .i64 (-1)]) (by simp) rfl fun w13 S13 => ?_⟩
  have S13 : ST w0 w13 (rpL b a c 4 T0 (qK b2 b3 a1 1 c1 (itHead i1 none 0) none 0 0 [] H)) := S13.drop 1
  refine rtakesY S13 (by decide) hT (by decide) fun w14 S14 => ⟨_, rfl, fun st w => (st = [.bool true] ∧ ∃ ai ci, ST w0 w (rpL b a c 5 T0 (qK b2 b3 ai 1 ci (itHead i1 none 0) none 0 0 [] H))) ∨ (st = [.bool false] ∧ ∃ ai ci, ST w0 w (rpL b a c 11 T0 (qK b2 b3 ai 2 ci (itHead i1 none 0 ++ itHead i2 none 0) none 0 0 [] H))),
    fun st _ => match st with | [.bool true] => 1 | _ => 0, .inl ⟨rfl, a1, c1, S14⟩, ?_⟩
  rintro more w15 (⟨hst, ai, ci, S15⟩ | ⟨hst, ai, ci, S15⟩)
  · cases hst
    refine IFB_true (S15.draw fun w16 _ S16 => ⟨_, _, _, S16.cell 4 rfl rfl, (ritem_sum (i := 5) hT (by decide) (by decide) (by decide) (by decide) lone7 (by decide) (by decide) (by decide) S16).mono ?_⟩)
    rintro _ w17 ⟨_, rfl, rfl, S17⟩
    refine ⟨_, _, _, _, _, _, _, _, _, _, rfl, S17.cell 4 rfl rfl, S17.newB fun b32 w18 _ _ S18 => ⟨S18.cell 5 rfl rfl, ?_⟩⟩
    refine S18.app 4 rfl tItems rfl (by omega) (by omega) (S18.rdc 0 rfl) (mm := 1) rfl (it_one i2 none 0) (by omega) fun a2 c2 w19 S19 => ⟨_, _, _, rfl, S19.sto 5 rfl (cs' := #[.slice a2 2 c2, .slice none 0 0, .slice none 0 0, .slice none 0 0, .int .i64 (-1)]) (by simp) rfl fun w20 S20 => ?_⟩
    have S20 : ST w0 w20 (rpL b a c 11 T0 (qK b2 b3 a2 2 c2 (itHead i1 none 0 ++ itHead i2 none 0) none 0 0 [] H)) := S20.drop 1
    exact rtakesN S20 (by decide) hT (by decide) fun w21 S21 => ⟨_, rfl, .inr ⟨rfl, a2, c2, S21⟩, show 0 < 1 by decide⟩
  cases hst
  refine IFB_false (rtakesN S15 (by decide) hT (by decide) fun w22 S22 => ⟨_, rfl, fun _ w => ST w0 w (rpL b a c 11 T0 (qK b2 b3 ai 2 ci (itHead i1 none 0 ++ itHead i2 none 0) none 0 0 [] H)), IFB_false S22, fun w28 S28 => rtakesY S28 (by decide) hT (by decide) fun w29 S29 => ⟨_, rfl, fun _ w => ST w0 w (rpL b a c 13 T0 (qK b2 b3 ai 2 ci (itHead i1 none 0 ++ itHead i2 none 0) none 0 0 [] H)), IFB_true (rneedsY S29 (by decide) hT (by decide) fun w30 S30 => ⟨rfl, S30⟩), fun w31 S31 => ?_⟩⟩)
  refine ⟨fun st w => (st = [.bool true] ∧ ST w0 w (rpL b a c 13 T0 (qK b2 b3 ai 2 ci (itHead i1 none 0 ++ itHead i2 none 0) none 0 0 [] H))) ∨ (st = [.bool false] ∧ ∃ ag cg, ST w0 w (rpL b a c 14 T0 (qK b2 b3 ai 2 ci (itHead i1 none 0 ++ itHead i2 none 0) ag 1 cg (exHead (colX ⟨#[98]⟩) none 0) H))),
    fun st _ => match st with | [.bool true] => 1 | _ => 0, .inl ⟨rfl, S31⟩, ?_⟩
  rintro more w32 (⟨hst, S32⟩ | ⟨hst, ag, cg, S32⟩)
  · cases hst
    refine IFB_true (S32.draw fun w33 _ S33 => ⟨_, _, _, S33.cell 4 rfl rfl, (ror_ok hT lone13 S33).mono ?_⟩)
    rintro _ w34 ⟨_, rfl, rfl, S34⟩
    refine ⟨_, _, _, _, _, _, _, _, rfl, S34.cell 4 rfl rfl, S34.newB fun b65 w35 _ _ S35 => ⟨S35.cell 5 rfl rfl, ?_⟩⟩
    refine S35.app 3 rfl tExs rfl (by omega) (by omega) (S35.rdc 0 rfl) (mm := 1) rfl (ex_one (colX ⟨#[98]⟩) none 0) (by omega) fun a2 c2 w36 S36 => ⟨_, _, _, rfl, S36.sto 5 rfl (cs' := #[.slice ai 2 ci, .slice none 0 0, .slice a2 1 c2, .slice none 0 0, .int .i64 (-1)]) (by simp) rfl fun w37 S37 => ?_⟩
    have S37 : ST w0 w37 (rpL b a c 14 T0 (qK b2 b3 ai 2 ci (itHead i1 none 0 ++ itHead i2 none 0) a2 1 c2 (exHead (colX ⟨#[98]⟩) none 0) H)) := S37.drop 1
    exact rtakesN S37 (by decide) hT (by decide) fun w38 S38 => ⟨_, rfl, .inr ⟨rfl, a2, c2, S38⟩, show 0 < 1 by decide⟩
  cases hst
  obtain ⟨K, hK⟩ : ∃ K, K = rpL b a c 14 T0 (qK b2 b3 ai 2 ci (itHead i1 none 0 ++ itHead i2 none 0) ag 1 cg (exHead (colX ⟨#[98]⟩) none 0) H) := ⟨_, rfl⟩
  refine IFB_false (rtakesN S32 (by decide) hT (by decide) fun w39 S39 => ⟨_, rfl, fun _ w => ST w0 w K, IFB_false (by rw [hK]; exact S39), fun w41 S41 => ⟨fun st w => st = [.bool false] ∧ ST w0 w K, fun _ _ => 0, ⟨rfl, S41⟩, ?_⟩⟩)
  rintro _ w42 ⟨hst, S42⟩
  cases hst
  rw [hK] at S42
  refine IFB_false (rtakesN S42 (by decide) hT (by decide) fun w65 S65 => ⟨_, rfl, fun _ w => ST w0 w K, ⟨fun st w => st = [.bool false] ∧ ST w0 w K, S65.draw fun w66 _ S66 => IFB_false ⟨rfl, by rw [hK]; exact S66⟩, ?_⟩, ?_⟩)
  · rintro _ w67 ⟨hst, S67⟩
    cases hst
    exact IFB_false (IFB_false S67)
  · intro w92 S92
    rw [hK] at S92
    refine S92.draw fun w93 _ S93 => ⟨_, S93.cell 0 rfl rfl, IFB_true ?_⟩
    obtain ⟨p, hp, c0, c1, c2⟩ := tk_at (show Rd w93 a (tksL T0) from S93.get 1 rfl) (show 14 < T0.length by decide)
    subst hp
    refine ⟨_, _, _, S93.cell 0 rfl rfl, _, S93.cell 0 rfl rfl, ⟨by omega, by decide⟩, _, c1, PTR_i (S93.sto 0 rfl (i := 2) (cs' := #[.slice (some p) T0.length c, .int .i64 ((14 : Nat) : Int), .bool true]) (by simp) rfl fun w94 S94 => ⟨_, _, _, S94.cell 4 rfl rfl, _, _, _, S94.cell 4 rfl rfl, _, _, _, S94.cell 4 rfl rfl, _, _, _, S94.cell 4 rfl rfl, _, S94.cell 4 rfl rfl, ?_⟩)⟩
    refine S94.sto 5 rfl (cs' := #[.slice ai 2 ci, .slice none 0 0, .slice none 0 0, .slice none 0 0, .int .i64 0]) (by simp) rfl fun w95 S95 => S95.sto 5 rfl (cs' := #[.slice ai 2 ci, .slice none 0 0, .slice none 0 0, .slice none 0 0, .int .i64 0]) (by simp) rfl fun w96 S96 => S96.sto 5 rfl (cs' := #[.slice ai 2 ci, .slice none 0 0, .slice ag 1 cg, .slice none 0 0, .int .i64 0]) (by simp) rfl fun w97 S97 =>
      S97.sto 5 rfl (cs' := #[.slice ai 2 ci, .slice none 0 0, .slice ag 1 cg, .slice none 0 0, .int .i64 0]) (by simp) rfl fun w98 S98 => S98.sto 5 rfl (cs' := #[.slice ai 2 ci, .slice none 0 0, .slice ag 1 cg, .slice none 0 0, .int .i64 (-1)]) (by simp) rfl fun w99 S99 => ⟨_, _, _, S99.cell 5 rfl rfl, _, _, _, S99.cell 5 rfl rfl, _, _, _, S99.cell 5 rfl rfl, _, _, _, S99.cell 5 rfl rfl, _, S99.cell 5 rfl rfl, ai, ci, ag, cg, rfl, ?_⟩
    exact (((S99.pull 4 rfl).drop 1).pull 4 rfl).drop 1
end
theorem colX_c (w : World) {s : ByteArray} (h : s.size ≤ maxLen) : XC w (colX s) (exHead (colX s) none 0) :=
  ExC.close (rs := []) (Rd.nil _ _) (by simp) (Nat.le_refl _) (by decide) (fun _ => rfl) ⟨⟨by show -9223372036854775808 ≤ (1 : Int); decide, by show (1 : Int) ≤ 9223372036854775807; decide⟩, h, ⟨by show -9223372036854775808 ≤ (0 : Int); decide, by show (0 : Int) ≤ 9223372036854775807; decide⟩, ⟨by show -9223372036854775808 ≤ (0 : Int); decide, by show (0 : Int) ≤ 9223372036854775807; decide⟩, by show (0 : Nat) ≤ maxLen; omega⟩ ExL.nil
section
variable {w : World}
theorem qat_Q0 {ai ag : Option Addr} (h1 : Rd w ai (itHead i1 none 0 ++ itHead i2 none 0)) (h2 : Rd w ag (exHead (colX ⟨#[98]⟩) none 0)) : QAt w Q0 ai none ag none where
  it := ⟨_, h1, RowsC.append (RowsC.one ⟨_, rfl, colX_c w (by show 1 ≤ maxLen; decide), by show 1 ≤ maxLen; decide, by show i64 0; decide⟩) (RowsC.one ⟨_, rfl, colX_c w (by show 1 ≤ maxLen; decide), by show 1 ≤ maxLen; decide, by show i64 3; decide⟩)⟩
  wh := ⟨[], Rd.nil _ _, rfl⟩
  gr := ⟨_, h2, RowsC.one (colX_c w (by show 1 ≤ maxLen; decide))⟩
  od := ⟨[], Rd.nil _ _, rfl⟩
  nit := by decide
  nwh := by decide
  ngr := by decide
  nod := by decide
  lim := by decide
theorem right_Q0 : rightQ Q0 = true := by kernel_rfl
theorem rparse0 : Calls Tryz.prog f.ref11_Parse #[.string txt0] w (Ret fun v w' => ∃ ai ci ag cg, v = .tuple #[.agg ⟨quL Q0 ai none ag none ci 0 cg 0⟩, .int .i64 0, .int .i64 0] ∧ QAt w' Q0 ai none ag none ∧ 2 ≤ ci ∧ Below w.heap.size w w') := by
  apply R.ref11_Parse_calls
  unfold R.ref11_Parse
  refine (ST.start w).newB fun b2 w1 _ _ S1 => IFB_dec (fun h => absurd h (by decide)) (fun _ => (ref11_Tokens_ok (by decide)).mono ?_)
  rintro _ w7 ⟨v, rfl, hv⟩
  unfold ToksV at hv
  rw [toks0] at hv
  obtain ⟨a, c, rfl, P7⟩ := hv
  have S7 := S1.join P7
  refine ⟨_, _, _, _, _, rfl, IFB_not (IFB_true (S7.newB fun b17 w13 _ _ S13 => ?_))⟩
  have S14 : ST w w13 (rpL b17 a c 0 T0 [zqb b2]) := S13.toRd 1 rfl
  refine (rquery0 S14).mono ?_
  rintro _ w14 ⟨_, rfl, ai, ci, ag, cg, rfl, S15⟩
  refine ⟨_, _, _, _, _, _, _, _, _, _, _, _, _, rfl, S15.newB fun b24 w15 _ _ S16 => S16.sto5 0 rfl fun w20 S20 => ⟨_, S20.cell 1 rfl rfl, IFB_not (IFB_true ?_)⟩⟩
  have S20 : ST w w20 (quI b24 Q0 ai none ag none ci 0 cg 0 :: rpL b17 a c 14 T0 [exsI ag 1 cg (exHead (colX ⟨#[98]⟩) none 0), itemsI ai 2 ci (itHead i1 none 0 ++ itHead i2 none 0), zqb b2]) := S20
  have hQ : QAt w20 Q0 ai none ag none := qat_Q0 (S20.rd 4 rfl) (S20.rd 3 rfl)
  refine stQ S20 0 rfl (S20.call (ref11_Right_ok hQ) fun w27 _ S27 => ⟨_, rfl, IFB_not (IFB_yes right_Q0 (stQ S27 0 rfl (S27.sto5 5 rfl fun w37 S37 => ⟨_, _, _, S37.cell 5 rfl rfl, _, _, _, S37.cell 5 rfl rfl, _, _, _, S37.cell 5 rfl rfl, _, _, _, S37.cell 5 rfl rfl, _, S37.cell 5 rfl rfl, ai, ci, ag, cg, rfl, qat_Q0 (S37.rd 4 rfl) (S37.rd 3 rfl), (S37.rw 4 rfl).le, S37.bel⟩)))⟩)
/-! ### a query that sums gathers -/
def cs0 : List Col := [(⟨#[97]⟩, 1, false), (⟨#[98]⟩, 3, true)]
def out0 : List Col := [(⟨#[107]⟩, 3, true), (⟨#[115]⟩, 1, true)]
theorem plan0 : planOf cs0 Q0 = (⟨cs0, Q0, out0, true⟩, 0) := by kernel_rfl
theorem need0 : (neededL cs0 Q0).length = 2 := by kernel_rfl
theorem law12_shown_ok (E : Env w) : Calls Tryz.prog f.law12_shown #[] w (Ret fun r w' => r = .bool true ∧ Below w.heap.size w w') := by
  apply R.law12_shown_calls
  unfold R.law12_shown
  refine rparse0.mono ?_
  rintro _ w1 ⟨_, rfl, ai, ci, ag, cg, rfl, hQ, hci, B1⟩
  have E1 := E.grown B1
  refine ⟨_, _, _, _, _, _, _, _, _, _, _, _, _, _, _, rfl, (ST.start w1).newB fun b9 w2 _ B2 S2 => S2.sto5 0 rfl fun w7 S7 => S7.newB fun b10 w8 _ _ S8 => ?_⟩
  have S8 : ST w1 w8 [It.cells b10 ⟨colsL cs0⟩ ty.api_Column, quI b9 Q0 ai none ag none ci 0 cg 0] := S8
  refine stQ S8 1 rfl ((plan_Make_ok (E1.grown S8.bel) (cs := cs0) (S8.rdc 0 rfl) (by decide) (by decide) (hQ.grown S8.bel) hci).mono ?_)
  rintro _ w9 ⟨_, rfl, a0, c0, bi, di, bw, dw, bg, dg, bo, d_o, a6, c6, rfl, A, _, B9⟩
  rw [plan0] at A ⊢
  have hB : Below w.heap.size w w9 := below_j B1 (S8.grown B9).bel
  refine ⟨_, _, _, _, _, _, _, _, _, _, _, _, _, _, _, _, _, _, _, _, _, rfl, (ST.start w9).newB fun b26 w10 _ B10 S10 => S10.sto8 0 rfl fun w18 S18 => ?_⟩
  have S18 : ST w9 w18 [plI b26 ⟨cs0, Q0, out0, true⟩ a0 c0 bi di bw dw bg dg bo d_o a6 c6] := S18
  have A' := A.grown S18.bel
  obtain ⟨p, hp, x0, x1, x2⟩ := col_at A'.out (show 1 < out0.length by decide)
  subst hp
  refine IFB_eq (fun _ => ⟨_, S18.cell 0 rfl rfl, IFB_true ⟨_, _, _, S18.cell 0 rfl rfl, IFB_eq (fun _ => ⟨_, _, _, S18.cell 0 rfl rfl, ⟨by omega, by decide⟩, _, x0, _, x1, _, x2, IFB_yes (by decide) ?_⟩) (fun h => absurd rfl h)⟩⟩) (fun h => absurd rfl h)
  refine ⟨_, _, _, S18.cell 0 rfl rfl, _, _, _, S18.cell 0 rfl rfl, _, _, _, S18.cell 0 rfl rfl, _, _, _, S18.cell 0 rfl rfl, _, _, _, S18.cell 0 rfl rfl, _, S18.cell 0 rfl rfl, _, _, _, S18.cell 0 rfl rfl, _, S18.cell 0 rfl rfl, (plan_Needs_ok ((E.grown hB).grown S18.bel) A' (rightQ_small right_Q0).1).mono ?_⟩
  rintro _ w19 ⟨_, rfl, an, cn, rfl, hrd, B19⟩
  refine ⟨_, _, _, rfl, ?_, below_j hB (S18.grown B19).bel⟩
  rw [need0]
  rfl
end
section
variable {P : Program} {w : World}
theorem good_fields1 {n : Nat} {t : TypeId} {cs : List Value} {l : List (TypeId × Nat)} (h : Go.Dn.Good P w (n + 1) t cs) (ht : fieldsT P t = some l) :
    cs.length = P.cellsOf t ∧ ∀ x ∈ l, Go.Dn.Good P w n x.1 ((cs.drop x.2).take (P.cellsOf x.1)) := by
  unfold fieldsT at ht
  split at ht
  · rename_i fs hu
    unfold Go.Dn.Good at h
    rw [hu] at h
    cases ht
    refine ⟨h.1, fun x hx => ?_⟩
    obtain ⟨f, hf, rfl⟩ := List.mem_map.1 hx
    exact h.2 f hf
  · cases ht
theorem good_slice1 {n : Nat} {t e : TypeId} {cs : List Value} (h : Go.Dn.Good P w (n + 1) t cs) (ht : P.underlying t = some (.slice e)) : ∃ a len cap, cs = [.slice a len cap] ∧ len ≤ cap ∧ cap ≤ maxLen ∧ (a = none → cap = 0) ∧
    ∃ rows : List (List Value), rows.length = len ∧ Rd w a rows.flatten ∧ ∀ r ∈ rows, r.length = P.cellsOf e ∧ Go.Dn.Good P w n e r := by
  unfold Go.Dn.Good at h
  rw [ht] at h
  exact h
end
theorem wf64 {x : Int} (h : (Lit.int .i64 x).wf = true) : i64 x := by simpa [Lit.wf, IntKind.min, IntKind.max, IntKind.signed, IntKind.bits] using h
theorem cells_intP : Tryz.prog.cellsOf ty.int = 1 := by kernel_rfl
theorem cells_int64P : Tryz.prog.cellsOf ty.int64 = 1 := by kernel_rfl
theorem cells_strP : Tryz.prog.cellsOf ty.string = 1 := by kernel_rfl
theorem cells_boolP : Tryz.prog.cellsOf ty.bool = 1 := by kernel_rfl
theorem cells_valP : Tryz.prog.cellsOf ty.api_Value = 3 := by kernel_rfl
theorem cells_exP : Tryz.prog.cellsOf ty.api_Expr = 6 := by kernel_rfl
theorem cells_LexP : Tryz.prog.cellsOf ty.L_api_Expr = 1 := by kernel_rfl
theorem cells_itP : Tryz.prog.cellsOf ty.api_Item = 8 := by kernel_rfl
theorem cells_LitP : Tryz.prog.cellsOf ty.L_api_Item = 1 := by kernel_rfl
theorem cells_keyP : Tryz.prog.cellsOf ty.api_Key = 2 := by kernel_rfl
theorem cells_LkeyP : Tryz.prog.cellsOf ty.L_api_Key = 1 := by kernel_rfl
theorem cells_quP : Tryz.prog.cellsOf ty.api_Query = 5 := by kernel_rfl
theorem und_intP : Tryz.prog.underlying ty.int = some (.int .i64) := by kernel_rfl
theorem und_int64P : Tryz.prog.underlying ty.int64 = some (.int .i64) := by kernel_rfl
theorem und_strP : Tryz.prog.underlying ty.string = some .string := by kernel_rfl
theorem und_boolP : Tryz.prog.underlying ty.bool = some .bool := by kernel_rfl
theorem und_LexP : Tryz.prog.underlying ty.L_api_Expr = some (.slice ty.api_Expr) := by kernel_rfl
theorem und_LitP : Tryz.prog.underlying ty.L_api_Item = some (.slice ty.api_Item) := by kernel_rfl
theorem und_LkeyP : Tryz.prog.underlying ty.L_api_Key = some (.slice ty.api_Key) := by kernel_rfl
theorem fld_val : fieldsT Tryz.prog ty.api_Value = some [(ty.int, 0), (ty.int64, 1), (ty.string, 2)] := by kernel_rfl
theorem fld_ex : fieldsT Tryz.prog ty.api_Expr = some [(ty.int, 0), (ty.string, 1), (ty.api_Value, 2), (ty.L_api_Expr, 5)] := by kernel_rfl
theorem fld_it : fieldsT Tryz.prog ty.api_Item = some [(ty.string, 0), (ty.int, 1), (ty.api_Expr, 2)] := by kernel_rfl
theorem fld_key : fieldsT Tryz.prog ty.api_Key = some [(ty.int, 0), (ty.bool, 1)] := by kernel_rfl
theorem fld_qu : fieldsT Tryz.prog ty.api_Query = some [(ty.L_api_Item, 0), (ty.L_api_Expr, 1), (ty.L_api_Expr, 2), (ty.L_api_Key, 3), (ty.int, 4)] := by kernel_rfl
section
variable {w : World}
theorem good_val {n : Nat} {cs : List Value} (h : Go.Dn.Good Tryz.prog w n ty.api_Value cs) : ∃ v : Val, cs = [.int .i64 v.1, .int .i64 v.2.1, .string v.2.2] ∧ i64 v.1 ∧ i64 v.2.1 ∧ v.2.2.size ≤ maxLen := by
  obtain ⟨hl, m, hf⟩ := h.fields fld_val
  rw [cells_valP] at hl
  match cs, hl with
  | [v0, v1, v2], _ =>
    simp only [List.mem_cons, List.not_mem_nil, or_false, forall_eq_or_imp, forall_eq, cells_intP, cells_int64P, cells_strP] at hf
    obtain ⟨h0, h1, h2⟩ := hf
    obtain ⟨x0, e0, q0⟩ := h0.int und_intP
    obtain ⟨x1, e1, q1⟩ := h1.int und_int64P
    obtain ⟨x2, e2, q2⟩ := h2.str und_strP
    simp only [List.drop_zero, List.take_succ_cons, List.take_zero, List.drop_succ_cons, List.cons.injEq, and_true] at e0 e1 e2
    exact ⟨(x0, x1, x2), by rw [e0, e1, e2], wf64 q0, wf64 q1, q2⟩
theorem rows_all {α : Type} {C : α → List Value → Prop} : ∀ {rows : List (List Value)}, (∀ r ∈ rows, ∃ x, C x r) → ∃ xs : List α, xs.length = rows.length ∧ RowsC C xs rows.flatten
  | [], _ => ⟨[], rfl, rfl⟩
  | r :: rows, h => by
    obtain ⟨x, hx⟩ := h r (by simp)
    obtain ⟨xs, h1, h2⟩ := rows_all (rows := rows) fun r hr => h r (by simp [hr])
    exact ⟨x :: xs, by simp [h1], by rw [List.flatten_cons]; exact ⟨r, _, rfl, hx, h2⟩⟩
theorem good_ex : ∀ (n : Nat) (cs : List Value), Go.Dn.Good Tryz.prog w n ty.api_Expr cs → ∃ x, ExC (fun _ => False) w x cs := by
  intro n
  induction n using Nat.strongRecOn with
  | ind n ih =>
    intro cs h
    cases n with
    | zero => exact h.elim
    | succ n =>
      obtain ⟨hl, hf⟩ := good_fields1 h fld_ex
      rw [cells_exP] at hl
      match cs, hl with
      | [v0, v1, v2, v3, v4, v5], _ =>
        simp only [List.mem_cons, List.not_mem_nil, or_false, forall_eq_or_imp, forall_eq, cells_intP, cells_strP, cells_valP, cells_LexP] at hf
        obtain ⟨h0, h1, h2, h5⟩ := hf
        obtain ⟨x0, e0, q0⟩ := h0.int und_intP
        obtain ⟨x1, e1, q1⟩ := h1.str und_strP
        obtain ⟨v, e2, q2, q3, q4⟩ := good_val h2
        cases n with
        | zero => exact h5.elim
        | succ n =>
          obtain ⟨a, len, cap, e5, g1, g2, g3, rows, rfl, g4, g5⟩ := good_slice1 h5 und_LexP
          obtain ⟨ks, k1, k2⟩ := rows_all (C := ExC (fun _ => False) w) (rows := rows) fun r hr => ih n (by omega) r (g5 r hr).2
          simp only [List.drop_zero, List.take_succ_cons, List.take_zero, List.drop_succ_cons, List.cons.injEq, and_true] at e0 e1 e2 e5
          obtain ⟨e2, e3, e4⟩ := e2
          refine ⟨.mk x0 x1 v ks, ?_⟩
          have := ExC.close (F := fun _ => False) (w := w) (x := .mk x0 x1 v ks) (a := a) (cap := cap) g4 (fun _ _ _ h => h) (by show ks.length ≤ cap; omega) g2 g3 ⟨wf64 q0, q1, q2, q3, q4⟩ (rowsC_exL.1 k2)
          rw [e0, e1, e2, e3, e4, e5]
          rw [← k1]
          exact this
theorem good_it {n : Nat} {cs : List Value} (h : Go.Dn.Good Tryz.prog w n ty.api_Item cs) : ∃ x, ItC (fun _ => False) w x cs := by
  obtain ⟨hl, m, hf⟩ := h.fields fld_it
  rw [cells_itP] at hl
  match cs, hl with
  | v0 :: v1 :: c, hl =>
    simp only [List.mem_cons, List.not_mem_nil, or_false, forall_eq_or_imp, forall_eq, cells_intP, cells_strP, cells_exP] at hf
    obtain ⟨h0, h1, h2⟩ := hf
    obtain ⟨x0, e0, q0⟩ := h0.str und_strP
    obtain ⟨x1, e1, q1⟩ := h1.int und_intP
    simp only [List.drop_zero, List.take_succ_cons, List.take_zero, List.drop_succ_cons, List.cons.injEq, and_true] at e0 e1 h2
    rw [List.take_of_length_le (by simp at hl; omega)] at h2
    obtain ⟨x, hx⟩ := good_ex _ _ h2
    exact ⟨(x0, x1, x), c, by rw [e0, e1], hx, q0, wf64 q1⟩
theorem good_key {n : Nat} {cs : List Value} (h : Go.Dn.Good Tryz.prog w n ty.api_Key cs) : ∃ x, keyC x cs := by
  obtain ⟨hl, m, hf⟩ := h.fields fld_key
  rw [cells_keyP] at hl
  match cs, hl with
  | [v0, v1], _ =>
    simp only [List.mem_cons, List.not_mem_nil, or_false, forall_eq_or_imp, forall_eq, cells_intP, cells_boolP] at hf
    obtain ⟨h0, h1⟩ := hf
    obtain ⟨x0, e0, q0⟩ := h0.int und_intP
    obtain ⟨x1, e1⟩ := h1.bool und_boolP
    simp only [List.drop_zero, List.take_succ_cons, List.take_zero, List.drop_succ_cons, List.cons.injEq, and_true] at e0 e1
    exact ⟨(x0, x1), by rw [e0, e1], wf64 q0⟩
theorem good_sl {α : Type} {C : α → List Value → Prop} {n : Nat} {t e : TypeId} {cs : List Value} (h : Go.Dn.Good Tryz.prog w n t cs) (ht : Tryz.prog.underlying t = some (.slice e)) (hC : ∀ m r, Go.Dn.Good Tryz.prog w m e r → ∃ x, C x r) : ∃ l v, cs = [v] ∧ SlC (fun _ => False) w C l v := by
  obtain ⟨a, len, cap, rfl, h1, h2, h3, m, rows, rfl, hr, hrs⟩ := h.slice ht
  obtain ⟨l, k1, k2⟩ := rows_all (C := C) (rows := rows) fun r hr => hC m r (hrs r hr).2
  exact ⟨l, _, rfl, ⟨a, cap, _, by rw [k1], hr, fun _ _ _ h => h, by omega, h2, h3, k2⟩⟩
theorem good_qu {n : Nat} {cs : List Value} (h : Go.Dn.Good Tryz.prog w n ty.api_Query cs) : ∃ q, QuC (fun _ => False) w q cs := by
  obtain ⟨hl, m, hf⟩ := h.fields fld_qu
  rw [cells_quP] at hl
  match cs, hl with
  | [v0, v1, v2, v3, v4], _ =>
    simp only [List.mem_cons, List.not_mem_nil, or_false, forall_eq_or_imp, forall_eq, cells_intP, cells_LitP, cells_LexP, cells_LkeyP] at hf
    obtain ⟨h0, h1, h2, h3, h4⟩ := hf
    obtain ⟨l0, u0, e0, s0⟩ := good_sl h0 und_LitP fun _ _ h => good_it h
    obtain ⟨l1, u1, e1, s1⟩ := good_sl h1 und_LexP fun _ _ h => good_ex _ _ h
    obtain ⟨l2, u2, e2, s2⟩ := good_sl h2 und_LexP fun _ _ h => good_ex _ _ h
    obtain ⟨l3, u3, e3, s3⟩ := good_sl h3 und_LkeyP fun _ _ h => good_key h
    obtain ⟨x4, e4, q4⟩ := h4.int und_intP
    simp only [List.drop_zero, List.take_succ_cons, List.take_zero, List.drop_succ_cons, List.cons.injEq, and_true] at e0 e1 e2 e3 e4
    refine ⟨⟨l0, l1, l2, l3, x4⟩, ⟨u0, u1, u2, u3, by rw [e0, e1, e2, e3, e4], s0, s1, s2, s3, wf64 q4⟩⟩
end
structure ArgsP (w : World) (cs : List Col) (a1 : Option Addr) (q : Qu) (ai aw ag ao : Option Addr) (ci c1 : Nat) : Prop where
  E : Env w
  r : Rd w a1 (colsL cs)
  n : cs.length ≤ 9223372036854775807
  s : ∀ c ∈ cs, c.1.size ≤ 9223372036854775807
  Q : QAt w q ai aw ag ao
  c : q.it.length ≤ ci
  cc : cs.length ≤ c1
theorem ArgsP.grown {w w' : World} {cs : List Col} {a1 : Option Addr} {q : Qu} {ai aw ag ao : Option Addr} {ci c1 : Nat} (h : ArgsP w cs a1 q ai aw ag ao ci c1) (B : Below w.heap.size w w') : ArgsP w' cs a1 q ai aw ag ao ci c1 :=
  ⟨h.E.grown B, h.r.grown B, h.n, h.s, h.Q.grown B, h.c, h.cc⟩
theorem stP {w0 w : World} {H : List It} (S : ST w0 w H) (n : Nat) {b : Nat} {p : Pl} {a0 ai aw ag ao a6 : Option Addr} {c0 ci cw cg co c6 : Nat} (hn : H[n]? = some (plI b p a0 c0 ai ci aw cw ag cg ao co a6 c6))
    {Q : Option Addr → Nat → Nat → Option Addr → Nat → Nat → Option Addr → Nat → Nat → Option Addr → Nat → Nat → Option Addr → Nat → Nat → Int → Option Addr → Nat → Nat → Bool → Prop}
    (hq : Q a0 p.cs.length c0 ai p.q.it.length ci aw p.q.wh.length cw ag p.q.gr.length cg ao p.q.od.length co p.q.lim a6 p.out.length c6 p.g) :
      ∃ (r0 : Option Addr) (r0l r0c : Nat), w.cell? ⟨b, 0, none⟩ = some (.slice r0 r0l r0c) ∧ ∃ (r1 : Option Addr) (r1l r1c : Nat), w.cell? ⟨b, 1, none⟩ = some (.slice r1 r1l r1c) ∧ ∃ (r2 : Option Addr) (r2l r2c : Nat), w.cell? ⟨b, 2, none⟩ = some (.slice r2 r2l r2c) ∧ ∃ (r3 : Option Addr) (r3l r3c : Nat), w.cell? ⟨b, 3, none⟩ = some (.slice r3 r3l r3c) ∧
      ∃ (r4 : Option Addr) (r4l r4c : Nat), w.cell? ⟨b, 4, none⟩ = some (.slice r4 r4l r4c) ∧ ∃ r5 : Int, w.cell? ⟨b, 5, none⟩ = some (.int .i64 r5) ∧ ∃ (r6 : Option Addr) (r6l r6c : Nat), w.cell? ⟨b, 6, none⟩ = some (.slice r6 r6l r6c) ∧ ∃ r7 : Bool, w.cell? ⟨b, 7, none⟩ = some (.bool r7) ∧
      Q r0 r0l r0c r1 r1l r1c r2 r2l r2c r3 r3l r3c r4 r4l r4c r5 r6 r6l r6c r7 :=
  ⟨_, _, _, S.cell n hn rfl, _, _, _, S.cell n hn rfl, _, _, _, S.cell n hn rfl, _, _, _, S.cell n hn rfl, _, _, _, S.cell n hn rfl, _, S.cell n hn rfl, _, _, _, S.cell n hn rfl, _, S.cell n hn rfl, hq⟩
section
variable {w : World} {cs : List Col} {a1 : Option Addr} {c1 : Nat} {q : Qu} {ai aw ag ao : Option Addr} {ci cw cg co : Nat}
theorem PlanMakes_core (A : ArgsP w cs a1 q ai aw ag ao ci c1) : Calls Tryz.prog f.law12_PlanMakes #[.slice a1 cs.length c1, .agg ⟨quL q ai aw ag ao ci cw cg co⟩] w (Ret fun v w' => v = .bool true ∧ Below w.heap.size w w') := by
  apply R.law12_PlanMakes_calls
  unfold R.law12_PlanMakes
  refine (ST.start w).newB fun b7 w1 _ _ S1 => S1.call (law12_shown_ok (A.E.grown S1.bel)) fun w2 _ S2 => ⟨_, rfl, ?_⟩
  have S2 : ST w w2 [quI b7 q ai aw ag ao ci cw cg co] := S2
  have A2 := A.grown S2.bel
  refine stQ S2 0 rfl ((plan_Make_ok A2.E A2.r A2.n A2.s A2.Q A2.c).mono ?_)
  rintro _ w3 ⟨_, rfl, a0, c0, bi, di, bw, dw, bg, dg, bo, d_o, a6, c6, rfl, P3, hc3, B3⟩
  have S3 := S2.grown B3
  refine ⟨_, _, _, _, _, _, _, _, _, _, _, _, _, _, _, _, _, _, _, _, _, rfl, (ST.start w3).newB fun b25 w4 _ B4 T4 => T4.sto8 0 rfl fun w12 T12 => ?_⟩
  have T12 : ST w3 w12 [plI b25 (planOf cs q).1 a0 c0 bi di bw dw bg dg bo d_o a6 c6] := T12
  have S12 := S3.join T12
  have A12 := A.grown S12.bel
  refine stQ S12 1 rfl ((ref12_Make_ok A12.r A12.n A12.s A12.Q A12.c).mono ?_)
  rintro _ w13 ⟨_, rfl, a0', c0', bi', di', bw', dw', bg', dg', bo', do', a6', c6', rfl, P13, _, B13⟩
  have S13 := S12.grown B13
  have P3' := P3.grown (T12.grown B13).bel
  refine ⟨_, _, _, _, _, _, _, _, _, _, _, _, _, _, _, _, _, _, _, _, _, rfl, (ST.start w13).newB fun b41 w14 _ _ T14 => T14.sto8 0 rfl fun w22 T22 => ?_⟩
  have T22 : ST w13 w22 [plI b41 (planOf cs q).1 a0' c0' bi' di' bw' dw' bg' dg' bo' do' a6' c6'] := T22
  have S22 := S13.join T22
  refine IFB_true (stP S22 1 rfl (stP S22 0 rfl (S22.call (ref12_Same_ok (P3'.grown T22.bel) (P13.grown T22.bel)) fun w23 _ S23 => ⟨_, rfl, IFB_true ⟨by rw [beq_self_eq_true], S23.bel⟩⟩)))
end
section
variable {w : World} {cs : List Col} {a1 : Option Addr} {c1 : Nat} {q : Qu} {ai aw ag ao : Option Addr} {ci cw cg co : Nat}
end
section
variable {w : World} {cs : List Col} {a1 : Option Addr} {c1 : Nat} {q : Qu} {ai aw ag ao : Option Addr} {ci cw cg co : Nat}
end
def colQ (c : Col) : Prop := c.1.size ≤ maxLen
theorem fld_col : fieldsT Tryz.prog ty.api_Column = some [(ty.string, 0), (ty.int, 1), (ty.bool, 2)] := by kernel_rfl
theorem cells_colP : Tryz.prog.cellsOf ty.api_Column = 3 := by kernel_rfl
theorem good_api_Column {w : World} : ∀ m r, r.length = Tryz.prog.cellsOf ty.api_Column → Go.Dn.Good Tryz.prog w m ty.api_Column r → ∃ x, r = colC x ∧ colQ x := by
  intro m r hl h
  obtain ⟨_, n, hf⟩ := h.fields fld_col
  rw [cells_colP] at hl
  match r, hl with
  | [v0, v1, v2], _ =>
    simp only [List.mem_cons, List.not_mem_nil, or_false, forall_eq_or_imp, forall_eq, cells_intP, cells_boolP, cells_strP] at hf
    obtain ⟨h0, h1, h2⟩ := hf
    obtain ⟨x0, e0, q0⟩ := h0.str und_strP
    obtain ⟨x1, e1, q1⟩ := h1.int und_intP
    obtain ⟨x2, e2⟩ := h2.bool und_boolP
    refine ⟨(x0, x1, x2), ?_, q0⟩
    simp only [List.drop_zero, List.take_succ_cons, List.take_zero, List.drop_succ_cons, List.cons.injEq, and_true] at e0 e1 e2
    rw [e0, e1, e2]
    rfl
theorem open_qu {H : Type} {enc : TypeId × Value → H} {W : World} {base b : Nat} {sp : Nat → Bool} {held : Bool} {v : Value} {d : DataW H} {p : List MemPlace} (hv : Value.okWide Tryz.prog W .any base ty.api_Query v) (h : DataW.Trod enc Tryz.prog W b sp held ty.api_Query v d p) :
    ∃ x : List Value, v = .agg ⟨x⟩ ∧ ∃ q, QuC (fun _ => False) W q x := by
  obtain ⟨cs, rfl⟩ := okWide_agg fld_qu hv
  obtain ⟨n, hn⟩ := h
  obtain ⟨q, hq⟩ := good_qu (good_of_trod n _ _ _ hn)
  exact ⟨cs.toList, rfl, q, hq⟩
theorem args_of {w : World} (E : Env w) {a : Option Addr} {cs : List Col} {c : Nat} (g : GL w colC colQ a cs c) {x : List Value} (hx : ∃ q, QuC (fun _ => False) w q x) :
    ∃ q ai aw ag ao ci cw cg co, x = quL q ai aw ag ao ci cw cg co ∧ ArgsP w cs a q ai aw ag ao ci c := by
  obtain ⟨q, hq⟩ := hx
  obtain ⟨ai, aw, ag, ao, ci, cw, cg, co, rfl, Q, hci, _⟩ := hq.at
  exact ⟨q, ai, aw, ag, ao, ci, cw, cg, co, rfl, E, g.2.2.2.1, Nat.le_trans (Nat.le_trans g.1 g.2.1) (by decide), fun v hv => Nat.le_trans (g.2.2.2.2 v hv) (by decide), Q, hci, g.1⟩
theorem PlanMakes_ok {w : World} (E : Env w) (a : Option Addr) (cs : List Col) (c : Nat) (g : GL w colC colQ a cs c) (_y : c * Tryz.prog.bytesOf ty.api_Column ≤ reachBytes) (x : List Value) (hx : ∃ q, QuC (fun _ => False) w q x) :
    Calls Tryz.prog f.law12_PlanMakes #[.slice a cs.length c, .agg ⟨x⟩] w (Ret fun r w' => r = .bool true ∧ Below w.heap.size w w') := by
  obtain ⟨q, ai, aw, ag, ao, ci, cw, cg, co, rfl, A⟩ := args_of E g hx
  exact PlanMakes_core A
end Go.Proofs.YtbpdfpfgijhokaaGreatDoor
