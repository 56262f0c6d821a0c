/-
  Texts of this claim, laid one behind the other by a program of mine (install.py): P.Qtx, P.Rtx, P.Alk, P.Ld, P.Rp1, P.Rp2, P.Rp3, P.Rp4, P.Pl1, P.Pl2, P.Pl3, P.SortI, P.Pl4, P.Pl5, P.Pl6, P.Pl7, P.Rp5, P.Rp6, P.Qp1, P.Qp2, P.Qp3, P.Qp4, P.ReadQ.
-/
import Derived.Test.YtbpdfpfgijhokaaGreatDoorM5
import Derived.Test.YtbpdfpfgijhokaaGreatDoorM4
import Derived.Test.YtbpdfpfgijhokaaGreatDoorM3
import Derived.Test.YtbpdfpfgijhokaaGreatDoorRead
namespace Go.Proofs.YtbpdfpfgijhokaaGreatDoor
set_option maxRecDepth 100000
open Go.Dn Go.Proofs
open Go.RowKit (Below)
set_option linter.unusedVariables false
theorem rightX_size {x : Ex} (h : rightX x = true) : x.size ≤ 400 := by
  simp only [rightX, Ex.formed, Bool.and_eq_true, decide_eq_true_eq] at h
  exact h.1.2
theorem rightI_iff {i : Itm} : rightI i = true ↔ okName i.1 = true ∧ (0 ≤ i.2.1 ∧ i.2.1 ≤ 5) ∧ (if i.2.1 = 1 then bareX i.2.2 else rightX i.2.2) = true := by
  simp only [rightI, Bool.and_eq_true, decide_eq_true_eq, and_assoc]
theorem rightI_x {i : Itm} (h : rightI i = true) (h1 : ¬ i.2.1 = 1) : rightX i.2.2 = true := by
  have := (rightI_iff.1 h).2.2
  rwa [if_neg h1] at this
theorem agg_size (a : Int) : (aggName a).size ≤ 5 := by
  unfold aggName
  split
  · decide
  · split
    · decide
    · split <;> decide
theorem itemT_size {i : Itm} (h : rightI i = true) (hf : i.2.2.fit) : (itemT i).size ≤ 840100 := by
  have hn := okName_size (rightI_iff.1 h).1
  have e1 : (ByteArray.mk #[32, 97, 115, 32]).size = 4 := rfl
  have e2 : (ByteArray.mk #[99, 111, 117, 110, 116, 40, 42, 41]).size = 8 := rfl
  have e3 : (ByteArray.mk #[40]).size = 1 := rfl
  have e4 : (ByteArray.mk #[41]).size = 1 := rfl
  have ha := agg_size i.2.1
  unfold itemT
  rw [ByteArray.size_append, ByteArray.size_append]
  by_cases h0 : i.2.1 = 0
  · rw [if_pos h0]
    have := rightX_text (rightI_x h (by omega)) hf
    omega
  · rw [if_neg h0]
    by_cases h1 : i.2.1 = 1
    · rw [if_pos h1]; omega
    · rw [if_neg h1]
      have := rightX_text (rightI_x h h1) hf
      simp only [ByteArray.size_append]
      omega
theorem gather_at {w : World} (E : Env w) {a : Int} (h1 : 2 ≤ a) (h2 : a ≤ 5) : w.cell? ((⟨0, 0, none⟩ : Addr).add (a.toNat * 1)) = some (.string (aggName a)) := by
  obtain ⟨n, rfl⟩ : ∃ n : Nat, a = n := ⟨a.toNat, by omega⟩
  have hn : n = 2 ∨ n = 3 ∨ n = 4 ∨ n = 5 := by omega
  rw [Int.toNat_natCast, Nat.mul_one]
  have : gatherCells[n]? = some (.string (aggName n)) := by rcases hn with rfl | rfl | rfl | rfl <;> rfl
  obtain ⟨p, hp, hc⟩ := E.gat n _ this
  cases hp
  exact hc
section
variable {w : World} {i : Itm} {a : Option Addr} {cap : Nat}
theorem query_shownItem_ok (E : Env w) (hx : XC w i.2.2 (exHead i.2.2 a cap)) (hr : rightI i = true) : Calls Tryz.prog f.query_shownItem #[.agg ⟨itHead i a cap⟩] w (Ret fun r w' => r = .string (itemT i) ∧ Below w.heap.size w w') := by
  apply R.query_shownItem_calls
  unfold R.query_shownItem
  have hn := okName_size (rightI_iff.1 hr).1
  have e1 : (ByteArray.mk #[32, 97, 115, 32]).size = 4 := rfl
  have e2 : (ByteArray.mk #[99, 111, 117, 110, 116, 40, 42, 41]).size = 8 := rfl
  have e3 : (ByteArray.mk #[40]).size = 1 := rfl
  have e4 : (ByteArray.mk #[41]).size = 1 := rfl
  have ha := agg_size i.2.1
  have har := (rightI_iff.1 hr).2.1
  refine (ST.start w).newB fun b9 w1 _ _ S1 => ⟨_, S1.cell 0 rfl rfl, IFB_eq (fun h0 => ?_) (fun h0 => IFB_eq (fun h1 => ⟨by omega, _, S1.cell 0 rfl rfl, by rw [ByteArray.size_append]; omega, ?_, S1.bel⟩) (fun h1 => S1.draw fun w3 _ S3 => ?_))⟩
  · have hX := rightI_x hr (by omega)
    have ht := rightX_text hX hx.fit
    refine ⟨_, S1.cell 0 rfl rfl, _, S1.cell 0 rfl rfl, _, S1.cell 0 rfl rfl, _, S1.cell 0 rfl rfl, _, S1.cell 0 rfl rfl, _, _, _, S1.cell 0 rfl rfl, (query_shown_ok i.2.2 40 (rightX_fair hX hx.fit) (rightX_size hX) w1 a cap 1 (E.grown S1.bel) (hx.grown S1.bel)).mono ?_⟩
    rintro _ w2 ⟨_, rfl, rfl, B2⟩
    have S2 := S1.grown B2
    rw [at_one]
    refine ⟨_, rfl, by omega, _, S2.cell 0 rfl rfl, by rw [ByteArray.size_append]; omega, ?_, S2.bel⟩
    unfold itemT
    rw [if_pos h0]
  · unfold itemT
    rw [if_neg h0, if_pos h1]
  · have hX := rightI_x hr h1
    have ht := rightX_text hX hx.fit
    have hg := gather_at (E.grown S3.bel) (a := i.2.1) (by omega) (by omega)
    refine ⟨_, S3.cell 0 rfl rfl, ⟨by omega, by omega⟩, _, hg, by omega, ?_⟩
    refine ⟨_, S3.cell 0 rfl rfl, _, S3.cell 0 rfl rfl, _, S3.cell 0 rfl rfl, _, S3.cell 0 rfl rfl, _, S3.cell 0 rfl rfl, _, _, _, S3.cell 0 rfl rfl, (query_shown_ok i.2.2 40 (rightX_fair hX hx.fit) (rightX_size hX) w3 a cap 1 (E.grown S3.bel) (hx.grown S3.bel)).mono ?_⟩
    rintro _ w4 ⟨_, rfl, rfl, B4⟩
    have S4 := S3.grown B4
    rw [at_one]
    refine ⟨_, rfl, gather_at (E.grown S4.bel) (by omega) (by omega), S4.cell 0 rfl rfl, by rw [ByteArray.size_append]; omega, by simp only [ByteArray.size_append]; omega, by simp only [ByteArray.size_append]; omega, _, S4.cell 0 rfl rfl, by simp only [ByteArray.size_append]; omega, ?_, S4.bel⟩
    unfold itemT
    rw [if_neg h0, if_neg h1]
end
theorem keyT_at {l : List Itm} {k : Int × Bool} {i : Nat} (hi : i < l.length) (hk : k.1 = i) : keyT l k = l[i].1 ++ if k.2 then ⟨#[32, 100, 101, 115, 99]⟩ else E0 := by
  unfold keyT
  rw [hk, Int.toNat_natCast, List.getD_eq_getElem?_getD, List.getElem?_eq_getElem hi]
  rfl
section
variable {w : World} {q : Qu} {ai aw ag ao : Option Addr} {ci cw cg co : Nat}
theorem show_key_ok {w0 : World} {H : List It} {b : Nat} (n : Nat) (Q : QAt w q ai aw ag ao) (S : ST w0 w H) (hn : H[n]? = some (quI b q ai aw ag ao ci cw cg co)) (k : Int × Bool) (hk : rightK q.it k.1 = true) (hsz : ∀ i ∈ q.it, i.1.size ≤ 24) :
    Calls Tryz.prog f.query_Show_c2 #[.agg #[.int .i64 k.1, .bool k.2], .pointer (some ⟨b, 0, none⟩)] w (Ret fun r w' => r = .string (keyT q.it k) ∧ Below w.heap.size w w') := by
  apply R.query_Show_c2_calls
  unfold R.query_Show_c2
  obtain ⟨rs, hrd, hC⟩ := Q.it
  obtain ⟨i, hi, he, _⟩ := rightK_iff.1 hk
  have e1 : (ByteArray.mk #[32, 100, 101, 115, 99]).size = 5 := rfl
  refine (ST.start w).newB fun b4 w1 _ B1 S1 => ?_
  have T1 := S.grown S1.bel
  obtain ⟨p, hp, hc⟩ := it_name (hrd.grown S1.bel) hC hi
  subst hp
  have hz := hsz q.it[i] (List.getElem_mem hi)
  refine ⟨_, S1.cell 0 rfl rfl, IFB_of (fun hd => ⟨_, _, _, T1.cell n hn rfl, _, S1.cell 0 rfl rfl, ⟨by omega, by omega⟩, _, by rw [he, Int.toNat_natCast]; exact hc, by omega, ?_, S1.bel⟩) (fun hd => ⟨_, _, _, T1.cell n hn rfl, _, S1.cell 0 rfl rfl, ⟨by omega, by omega⟩, _, by rw [he, Int.toNat_natCast]; exact hc, ?_, S1.bel⟩)⟩
  · rw [keyT_at hi he, hd]; rfl
  · rw [keyT_at hi he, hd]
    congr 1
    exact (app_e0 _).symm
theorem keyT_size {l : List Itm} (hsz : ∀ i ∈ l, i.1.size ≤ 24) {k : Int × Bool} (hk : rightK l k.1 = true) : (keyT l k).size ≤ 29 := by
  obtain ⟨i, hi, he, _⟩ := rightK_iff.1 hk
  rw [keyT_at hi he, ByteArray.size_append]
  have := hsz _ (List.getElem_mem hi)
  have e1 : (ByteArray.mk #[32, 100, 101, 115, 99]).size = 5 := rfl
  split
  · omega
  · show _ + 0 ≤ _; omega
theorem show_expr_ok {w : World} {x : Ex} {a : Option Addr} {cap : Nat} (E : Env w) (hx : XC w x (exHead x a cap)) (hr : rightX x = true) : Calls Tryz.prog f.query_Show_c1 #[.agg ⟨exHead x a cap⟩] w (Ret fun r w' => r = .string x.text ∧ Below w.heap.size w w') := by
  apply R.query_Show_c1_calls
  unfold R.query_Show_c1
  refine (ST.start w).newB fun b7 w1 _ _ S1 => ⟨_, S1.cell 0 rfl rfl, _, S1.cell 0 rfl rfl, _, S1.cell 0 rfl rfl, _, S1.cell 0 rfl rfl, _, S1.cell 0 rfl rfl, _, _, _, S1.cell 0 rfl rfl, (query_shown_ok x 40 (rightX_fair hr hx.fit) (rightX_size hr) w1 a cap 1 (E.grown S1.bel) (hx.grown S1.bel)).mono ?_⟩
  rintro _ w2 ⟨_, rfl, rfl, B2⟩
  rw [at_one]
  exact ⟨_, rfl, rfl, (S1.grown B2).bel⟩
def showQ (q : Qu) : Value := if rightQ q = true then .tuple #[.string (quT q), .int .i64 0] else .tuple #[.string ⟨#[]⟩, .int .i64 110]
theorem rows_fit {w : World} {l : List Ex} {rs : List Value} (h : RowsC (ExC (fun _ => False) w) l rs) : ∀ x ∈ l, x.fit := by
  intro x hx
  obtain ⟨i, hi, rfl⟩ := List.mem_iff_getElem.1 hx
  exact (h.get (n := 6) (fun x c h => ExC.len h) i hi).fit
theorem items_fit {w : World} {l : List Itm} {rs : List Value} (h : RowsC (ItC (fun _ => False) w) l rs) : ∀ x ∈ l, x.2.2.fit := by
  intro x hx
  obtain ⟨i, hi, rfl⟩ := List.mem_iff_getElem.1 hx
  obtain ⟨c, _, h, _⟩ := h.get (n := 8) (fun x c h => ItC.len h) i hi
  exact h.fit
structure Bnd (q : Qu) : Prop where
  it : ∀ i ∈ q.it, (itemT i).size ≤ 1000000
  wh : ∀ x ∈ q.wh, x.text.size ≤ 1000000
  gr : ∀ x ∈ q.gr, x.text.size ≤ 1000000
  od : ∀ k ∈ q.od, (keyT q.it k).size ≤ 1000000
  nm : ∀ i ∈ q.it, i.1.size ≤ 24
theorem QAt.bnd (Q : QAt w q ai aw ag ao) (h : smallQ q = true) : Bnd q := by
  obtain ⟨hn, hi, hw, hg, ho⟩ := smallQ_iff.1 h
  obtain ⟨ri, _, hCi⟩ := Q.it
  obtain ⟨rw_, _, hCw⟩ := Q.wh
  obtain ⟨rg, _, hCg⟩ := Q.gr
  have hz : ∀ i ∈ q.it, i.1.size ≤ 24 := fun i h => okName_size (rightI_iff.1 (hi i h)).1
  refine ⟨fun i h => ?_, fun x h => ?_, fun x h => ?_, fun k h => ?_, hz⟩
  · have := itemT_size (hi i h) (items_fit hCi i h); omega
  · have := rightX_text (hw x h) (rows_fit hCw x h); omega
  · have := rightX_text (hg x h) (rows_fit hCg x h); omega
  · have := keyT_size hz (ho k h); omega
theorem query_Show_ok (E : Env w) (Q : QAt w q ai aw ag ao) : Calls Tryz.prog f.query_Show #[.agg ⟨quL q ai aw ag ao ci cw cg co⟩] w (Ret fun r w' => r = showQ q ∧ Below w.heap.size w w') := by
  apply R.query_Show_calls
  unfold R.query_Show
  refine (ST.start w).newB fun b6 w1 _ _ S1 => ?_
  have S1 : ST w w1 [quI b6 q ai aw ag ao ci cw cg co] := S1
  refine ⟨_, _, _, S1.cell 0 rfl rfl, _, _, _, S1.cell 0 rfl rfl, _, _, _, S1.cell 0 rfl rfl, _, _, _, S1.cell 0 rfl rfl, _, S1.cell 0 rfl rfl, (query_fits_ok (E.grown S1.bel) (Q.grown S1.bel) (ci := ci) (cw := cw) (cg := cg) (co := co)).mono ?_⟩
  rintro _ w2 ⟨_, rfl, rfl, B2⟩
  have S2 := S1.grown B2
  refine ⟨_, rfl, IFB_not (IFB_of (fun hs => S2.draw fun w3 _ S3 => ⟨_, _, _, S3.cell 0 rfl rfl, _, _, _, S3.cell 0 rfl rfl, _, _, _, S3.cell 0 rfl rfl, ?_⟩) (fun hs => ⟨by unfold showQ; rw [if_neg (by simp [rightQ, hs])], S2.bel⟩))⟩
  obtain ⟨hn, hi, hw, hg, ho⟩ := smallQ_iff.1 hs
  have bd := Q.bnd hs
  obtain ⟨ri, hri, hCi⟩ := Q.it
  obtain ⟨rw_, hrw, hCw⟩ := Q.wh
  obtain ⟨rg, hrg, hCg⟩ := Q.gr
  obtain ⟨ro, hro, hCo⟩ := Q.od
  refine (parts_api_Item_ok ⟨#[115, 101, 108, 101, 99, 116, 32]⟩ (hri.grown S3.bel) hCi (by omega) (by kernel_rfl) itemT (by decide) bd.it ?_).mono ?_
  · rintro w4 x cs B4 hx ⟨ce, rfl, hxe, hy⟩
    obtain ⟨a9, cap9, _, rfl, _⟩ := ExC.open hxe
    exact query_shownItem_ok (i := x) ((E.grown S3.bel).grown B4) ((hxe.grown S3.bel).grown B4) (hi x hx)
  rintro _ w4 ⟨_, rfl, rfl, B4⟩
  have S4 := S3.grown B4
  refine ⟨_, rfl, S4.cell 0 rfl rfl, S4.cell 0 rfl rfl, (parts_api_Expr_ok ⟨#[32, 119, 104, 101, 114, 101, 32]⟩ (hrw.grown S4.bel) hCw (by omega) (by kernel_rfl) Ex.text (by decide) bd.wh ?_).mono ?_⟩
  · rintro w5 x cs B5 hx hxe
    obtain ⟨a9, cap9, _, rfl, _⟩ := ExC.open hxe
    exact show_expr_ok ((E.grown S4.bel).grown B5) ((hxe.grown S4.bel).grown B5) (hw x hx)
  rintro _ w5 ⟨_, rfl, rfl, B5⟩
  have S5 := S4.grown B5
  have z1 := part_size (B := 1000000) ⟨#[115, 101, 108, 101, 99, 116, 32]⟩ (q.it.map itemT) (fun x hx => by obtain ⟨y, hy, rfl⟩ := List.mem_map.1 hx; exact bd.it y hy)
  have z2 := part_size (B := 1000000) ⟨#[32, 119, 104, 101, 114, 101, 32]⟩ (q.wh.map Ex.text) (fun x hx => by obtain ⟨y, hy, rfl⟩ := List.mem_map.1 hx; exact bd.wh y hy)
  have z3 := part_size (B := 1000000) ⟨#[32, 103, 114, 111, 117, 112, 32, 98, 121, 32]⟩ (q.gr.map Ex.text) (fun x hx => by obtain ⟨y, hy, rfl⟩ := List.mem_map.1 hx; exact bd.gr y hy)
  have z4 := part_size (B := 1000000) ⟨#[32, 111, 114, 100, 101, 114, 32, 98, 121, 32]⟩ (q.od.map (keyT q.it)) (fun x hx => by obtain ⟨y, hy, rfl⟩ := List.mem_map.1 hx; exact bd.od y hy)
  rw [List.length_map] at z1 z2 z3 z4
  have f1 : (ByteArray.mk #[115, 101, 108, 101, 99, 116, 32]).size = 7 := rfl
  have f2 : (ByteArray.mk #[32, 119, 104, 101, 114, 101, 32]).size = 7 := rfl
  have f3 : (ByteArray.mk #[32, 103, 114, 111, 117, 112, 32, 98, 121, 32]).size = 10 := rfl
  have f4 : (ByteArray.mk #[32, 111, 114, 100, 101, 114, 32, 98, 121, 32]).size = 10 := rfl
  have m1 : q.it.length * (1000000 + 2) ≤ 16 * (1000000 + 2) := Nat.mul_le_mul_right _ (by omega)
  have m2 : q.wh.length * (1000000 + 2) ≤ 16 * (1000000 + 2) := Nat.mul_le_mul_right _ (by omega)
  have m3 : q.gr.length * (1000000 + 2) ≤ 16 * (1000000 + 2) := Nat.mul_le_mul_right _ (by omega)
  have m4 : q.od.length * (1000000 + 2) ≤ 16 * (1000000 + 2) := Nat.mul_le_mul_right _ (by omega)
  refine ⟨_, rfl, S5.cell 0 rfl rfl, by omega, (parts_api_Expr_ok ⟨#[32, 103, 114, 111, 117, 112, 32, 98, 121, 32]⟩ (hrg.grown S5.bel) hCg (by omega) (by kernel_rfl) Ex.text (by decide) bd.gr ?_).mono ?_⟩
  · rintro w6 x cs B6 hx hxe
    obtain ⟨a9, cap9, _, rfl, _⟩ := ExC.open hxe
    exact show_expr_ok ((E.grown S5.bel).grown B6) ((hxe.grown S5.bel).grown B6) (hg x hx)
  rintro _ w6 ⟨_, rfl, rfl, B6⟩
  have S6 := S5.grown B6
  refine ⟨_, rfl, by simp only [ByteArray.size_append]; omega, _, _, _, S6.cell 0 rfl rfl, (parts_api_Key_ok ⟨#[32, 111, 114, 100, 101, 114, 32, 98, 121, 32]⟩ (hro.grown S6.bel) hCo (by omega) (by kernel_rfl) (keyT q.it) (by decide) bd.od ?_).mono ?_⟩
  · rintro w7 k cs B7 hk ⟨rfl, _⟩
    exact show_key_ok 0 ((Q.grown S6.bel).grown B7) (S6.grown B7) rfl k (ho k hk) bd.nm
  rintro _ w7 ⟨_, rfl, rfl, B7⟩
  have S7 := S6.grown B7
  have hL : (ByteArray.mk #[32, 108, 105, 109, 105, 116, 32]).size = 7 := rfl
  have hit := Lib.itoa_length_le q.lim Q.lim.1 Q.lim.2
  refine ⟨_, rfl, by simp only [ByteArray.size_append]; omega, fun st w9 => st = [.string (quT q)] ∧ Below w.heap.size w w9, ?_, ?_⟩
  · refine ⟨_, S7.cell 0 rfl rfl, IFB_dec (fun h0 => ⟨_, S7.cell 0 rfl rfl, (Tryz.strconv_Itoa q.lim Q.lim.1 Q.lim.2 w7 (E.grown S7.bel).pow).mono ?_⟩) (fun h0 => ⟨?_, S7.bel⟩)⟩
    · rintro _ w8 ⟨rfl, k, os, rfl⟩
      have hsz : (sof (Lib.itoa q.lim)).size ≤ 21 := by rw [size_sof]; exact hit
      refine ⟨sof (Lib.itoa q.lim), rfl, by omega, by simp only [ByteArray.size_append]; omega, ?_, (S7.grown (below_grow w7 k os)).bel⟩
      unfold quT limT
      rw [if_pos h0]
    · unfold quT limT
      rw [if_neg h0, app_e0]
  · rintro s w9 ⟨hs9, B9⟩
    obtain rfl : s = quT q := by simpa using hs9
    refine IFB_dec (fun h => ⟨?_, B9⟩) (fun h => ⟨?_, B9⟩)
    · unfold showQ
      rw [if_neg (by simp [rightQ, hs]; omega)]
    · unfold showQ
      rw [if_pos (by simp [rightQ, hs]; omega)]
end
def aggLits : List ByteArray := [⟨#[]⟩, ⟨#[99, 111, 117, 110, 116, 40, 42, 41]⟩, ⟨#[99, 111, 117, 110, 116, 40]⟩, ⟨#[115, 117, 109, 40]⟩, ⟨#[109, 105, 110, 40]⟩, ⟨#[109, 97, 120, 40]⟩]
section
variable {w : World} {i : Itm} {a : Option Addr} {cap : Nat}
theorem ref11_gathered_ok (hx : XC w i.2.2 (exHead i.2.2 a cap)) (hr : rightI i = true) : Calls Tryz.prog f.ref11_gathered #[.agg ⟨itHead i a cap⟩] w (Ret fun r w' => r = .string (itemT i) ∧ Below w.heap.size w w') := by
  apply R.ref11_gathered_calls
  unfold R.ref11_gathered
  have hn := okName_size (rightI_iff.1 hr).1
  have e1 : (ByteArray.mk #[32, 97, 115, 32]).size = 4 := rfl
  have e2 : (ByteArray.mk #[99, 111, 117, 110, 116, 40, 42, 41]).size = 8 := rfl
  have e3 : (ByteArray.mk #[40]).size = 1 := rfl
  have e4 : (ByteArray.mk #[41]).size = 1 := rfl
  have ha := agg_size i.2.1
  have har := (rightI_iff.1 hr).2.1
  obtain ⟨n, hna⟩ : ∃ n : Nat, i.2.1 = n := ⟨i.2.1.toNat, by omega⟩
  have hn6 : n < 6 := by omega
  refine (ST.start w).newB fun b9 w1 _ _ S1 => S1.newB fun b10 w2 _ _ S2 => ⟨_, S2.cell 1 rfl rfl, ⟨by omega, by omega⟩, aggLits.getD n E0, ?_, ?_⟩
  · rw [hna, addr_one]
    refine S2.cell 0 rfl ?_
    show ((aggLits.map Value.string).toArray)[n]? = _
    have : n < aggLits.length := hn6
    simp [this, List.getD_eq_getElem?_getD]
  have hlit : ¬ n = 0 → ¬ n = 1 → aggLits.getD n E0 = aggName i.2.1 ++ ⟨#[40]⟩ := fun h0 h1 => by
    have h : n = 2 ∨ n = 3 ∨ n = 4 ∨ n = 5 := by omega
    rw [hna]
    rcases h with rfl | rfl | rfl | rfl <;> rfl
  refine ⟨fun st w4 => st = [.string (if n = 0 then i.2.2.text else aggLits.getD n E0)] ∧ ST w w4 [It.cells b10 (aggLits.map Value.string).toArray ty.string, itI b9 i a cap], ⟨_, S2.cell 1 rfl rfl, IFB_eq (fun h0 => ?_) (fun h0 => ⟨by rw [if_neg (by omega)], S2⟩)⟩, ?_⟩
  · have hX := rightI_x hr (by omega)
    refine ⟨_, S2.cell 1 rfl rfl, _, S2.cell 1 rfl rfl, _, S2.cell 1 rfl rfl, _, S2.cell 1 rfl rfl, _, S2.cell 1 rfl rfl, _, _, _, S2.cell 1 rfl rfl, (ref11_text_ok i.2.2 40 (rightX_fair hX hx.fit) (rightX_size hX) w2 a cap (hx.grown S2.bel)).mono ?_⟩
    rintro _ w3 ⟨_, rfl, rfl, B3⟩
    exact ⟨_, rfl, by rw [if_pos (by omega)], S2.grown B3⟩
  · rintro s w4 ⟨hs, S4⟩
    obtain rfl : s = if n = 0 then i.2.2.text else aggLits.getD n E0 := by simpa using hs
    refine ⟨_, S4.cell 1 rfl rfl, IFB_dec (fun h2 => ?_) (fun h2 => ?_)⟩
    · have hX := rightI_x hr (by omega)
      have ht := rightX_text hX hx.fit
      rw [if_neg (by omega), hlit (by omega) (by omega)]
      refine ⟨_, S4.cell 1 rfl rfl, _, S4.cell 1 rfl rfl, _, S4.cell 1 rfl rfl, _, S4.cell 1 rfl rfl, _, S4.cell 1 rfl rfl, _, _, _, S4.cell 1 rfl rfl, (ref11_text_ok i.2.2 40 (rightX_fair hX hx.fit) (rightX_size hX) w4 a cap (hx.grown S4.bel)).mono ?_⟩
      rintro _ w5 ⟨_, rfl, rfl, B5⟩
      have S5 := S4.grown B5
      refine ⟨_, rfl, by simp only [ByteArray.size_append]; omega, by simp only [ByteArray.size_append]; omega, by simp only [ByteArray.size_append]; omega, _, S5.cell 1 rfl rfl, by simp only [ByteArray.size_append]; omega, ?_, S5.bel⟩
      unfold itemT
      rw [if_neg (by omega), if_neg (by omega)]
    · have hz : (if n = 0 then i.2.2.text else aggLits.getD n E0).size ≤ 900000 := by
        split
        · have hX := rightI_x hr (by omega)
          have ht := rightX_text hX hx.fit
          omega
        · obtain rfl : n = 1 := by omega
          decide
      refine ⟨by omega, _, S4.cell 1 rfl rfl, by rw [ByteArray.size_append]; omega, ?_, S4.bel⟩
      unfold itemT
      by_cases h0 : n = 0
      · rw [if_pos h0, if_pos (by omega)]
      · obtain rfl : n = 1 := by omega
        rw [if_neg h0, if_neg (by omega), if_pos (by omega)]
        rfl
end
theorem part_zero {α : Type} (h : ByteArray) (l : List α) (g : α → ByteArray) : partT h ((l.take 0).map g) = E0 := rfl
theorem part_one {α : Type} (h : ByteArray) (l : List α) (g : α → ByteArray) (hl : 0 < l.length) : partT h ((l.take 1).map g) = h ++ g l[0] := by
  rw [List.take_succ_eq_append_getElem hl]
  rfl
theorem part_step {α : Type} (h : ByteArray) (l : List α) (g : α → ByteArray) {i : Nat} (hi : i < l.length) (h0 : 0 < i) : partT h ((l.take (i + 1)).map g) = partT h ((l.take i).map g) ++ ⟨#[44, 32]⟩ ++ g l[i] := by
  have hl : ((l.take i).map g).length = i := by simp; omega
  rw [List.take_succ_eq_append_getElem hi, List.map_append]
  unfold partT
  rw [if_neg (by simp), if_neg (by omega)]
  show h ++ commas ((l.take i).map g ++ [g l[i]]) = _
  rw [commas_snoc _ _ (fun e => by rw [e] at hl; simp at hl; omega)]
  simp only [ByteArray.append_assoc]
theorem take_size {α : Type} {B : Nat} {l : List α} {g : α → ByteArray} (h : ∀ x ∈ l, (g x).size ≤ B) (hd : ByteArray) (i : Nat) : (partT hd ((l.take i).map g)).size ≤ hd.size + l.length * (B + 2) := by
  have := part_size hd ((l.take i).map g) (fun x hx => by obtain ⟨y, hy, rfl⟩ := List.mem_map.1 hx; exact h y (List.mem_of_mem_take hy))
  rw [List.length_map, List.length_take] at this
  have h2 : min i l.length * (B + 2) ≤ l.length * (B + 2) := Nat.mul_le_mul_right _ (Nat.min_le_right _ _)
  omega
def selT : ByteArray := ⟨#[115, 101, 108, 101, 99, 116, 32]⟩
def whT : ByteArray := ⟨#[32, 119, 104, 101, 114, 101, 32]⟩
def grT : ByteArray := ⟨#[32, 103, 114, 111, 117, 112, 32, 98, 121, 32]⟩
def odT : ByteArray := ⟨#[32, 111, 114, 100, 101, 114, 32, 98, 121, 32]⟩
def accI (q : Qu) (i : Nat) : ByteArray := if i = 0 then selT else partT selT ((q.it.take i).map itemT)
section
variable {w : World} {q : Qu} {ai aw ag ao : Option Addr} {ci cw cg co : Nat}
theorem ref11_shown_ok (Q : QAt w q ai aw ag ao) (hs : smallQ q = true) : Calls Tryz.prog f.ref11_shown #[.agg ⟨quL q ai aw ag ao ci cw cg co⟩] w (Ret fun r w' => r = .string (quT q) ∧ Below w.heap.size w w') := by
  apply R.ref11_shown_calls
  unfold R.ref11_shown
  obtain ⟨hn, hi, hw, hg, ho⟩ := smallQ_iff.1 hs
  have bd := Q.bnd hs
  obtain ⟨ri, hri, hCi⟩ := Q.it
  obtain ⟨rw_, hrw, hCw⟩ := Q.wh
  obtain ⟨rg, hrg, hCg⟩ := Q.gr
  obtain ⟨ro, hro, hCo⟩ := Q.od
  have e2 : (ByteArray.mk #[44, 32]).size = 2 := rfl
  have f1 : (ByteArray.mk #[115, 101, 108, 101, 99, 116, 32]).size = 7 := rfl
  have f2 : (ByteArray.mk #[32, 119, 104, 101, 114, 101, 32]).size = 7 := rfl
  have f3 : (ByteArray.mk #[32, 103, 114, 111, 117, 112, 32, 98, 121, 32]).size = 10 := rfl
  have f4 : (ByteArray.mk #[32, 111, 114, 100, 101, 114, 32, 98, 121, 32]).size = 10 := rfl
  have g1 : selT.size = 7 := rfl
  have g2 : whT.size = 7 := rfl
  have g3 : grT.size = 10 := rfl
  have g4 : odT.size = 10 := rfl
  have m1 : q.it.length * (1000000 + 2) ≤ 16 * (1000000 + 2) := Nat.mul_le_mul_right _ (by omega)
  have m2 : q.wh.length * (1000000 + 2) ≤ 16 * (1000000 + 2) := Nat.mul_le_mul_right _ (by omega)
  have m3 : q.gr.length * (1000000 + 2) ≤ 16 * (1000000 + 2) := Nat.mul_le_mul_right _ (by omega)
  have m4 : q.od.length * (1000000 + 2) ≤ 16 * (1000000 + 2) := Nat.mul_le_mul_right _ (by omega)
  have z1 := take_size (B := 1000000) bd.it selT
  have z2 := take_size (B := 1000000) bd.wh whT
  have z3 := take_size (B := 1000000) bd.gr grT
  have z4 := take_size (B := 1000000) bd.od odT
  refine (ST.start w).newB fun b6 w1 _ _ S1 => ?_
  have S1 : ST w w1 [quI b6 q ai aw ag ao ci cw cg co] := S1
  refine ⟨fun st w2 => ∃ i : Nat, st = [.string (accI q i), .int .i64 (i : Int)] ∧ i ≤ q.it.length ∧ ST w w2 [quI b6 q ai aw ag ao ci cw cg co], fun st _ => match st with | [_, .int _ t] => q.it.length - t.toNat | _ => 0, ⟨0, rfl, by omega, S1⟩, ?_⟩
  rintro s t w2 ⟨i, hst, hil, S2⟩
  cases hst
  refine ⟨_, _, _, S2.cell 0 rfl rfl, IFB_dec (fun hlt => ?_) (fun hge => ?_)⟩
  · have hi1 : i < q.it.length := by omega
    obtain ⟨p, a3, cap3, hpa, hxk, hsz, cell⟩ := item_at (hri.grown S2.bel) hCi hi1
    have hz := bd.it _ (List.getElem_mem hi1)
    have next : ∀ w', ST w w' [quI b6 q ai aw ag ao ci cw cg co] → ∀ s, s = accI q (i + 1) → (∃ j : Nat, [Value.string s, Value.int .i64 (IntKind.i64.wrap ((i : Int) + 1))] = [.string (accI q j), .int .i64 (j : Int)] ∧ j ≤ q.it.length ∧ ST w w' [quI b6 q ai aw ag ao ci cw cg co]) ∧ q.it.length - (IntKind.i64.wrap ((i : Int) + 1)).toNat < q.it.length - ((i : Nat) : Int).toNat := by
      rintro w' S s rfl
      rw [wrap_succ (by omega)]
      refine ⟨⟨i + 1, rfl, by omega, S⟩, ?_⟩
      simp only [Int.toNat_natCast]
      omega
    subst hpa
    refine IFB_dec (fun h0 => ?_) (fun h0 => ?_)
    · have hacc : accI q i = partT selT ((q.it.take i).map itemT) := by unfold accI; rw [if_neg (by omega)]
      have hzi := z1 i
      rw [← hacc] at hzi
      refine ⟨by omega, _, _, _, S2.cell 0 rfl rfl, ⟨by omega, hlt⟩, _, by rw [Int.toNat_natCast]; exact cell 0 _ rfl, _, by rw [Int.toNat_natCast]; exact cell 1 _ rfl, _, by rw [Int.toNat_natCast]; exact cell 2 _ rfl, _, by rw [Int.toNat_natCast]; exact cell 3 _ rfl, _, by rw [Int.toNat_natCast]; exact cell 4 _ rfl, _, by rw [Int.toNat_natCast]; exact cell 5 _ rfl, _, by rw [Int.toNat_natCast]; exact cell 6 _ rfl, _, _, _, by rw [Int.toNat_natCast]; exact cell 7 _ rfl, (ref11_gathered_ok (i := q.it[i]) (hxk.grown S2.bel) (hi _ (List.getElem_mem hi1))).mono ?_⟩
      rintro _ w3 ⟨_, rfl, rfl, B3⟩
      refine ⟨_, rfl, by simp only [ByteArray.size_append]; omega, next _ (S2.grown B3) _ ?_⟩
      rw [hacc]
      unfold accI
      rw [if_neg (by omega), part_step _ _ _ hi1 (by omega)]
    · obtain rfl : i = 0 := by omega
      have hz0 : (accI q 0).size = 7 := rfl
      refine ⟨_, _, _, S2.cell 0 rfl rfl, ⟨by omega, hlt⟩, _, by rw [Int.toNat_natCast]; exact cell 0 _ rfl, _, by rw [Int.toNat_natCast]; exact cell 1 _ rfl, _, by rw [Int.toNat_natCast]; exact cell 2 _ rfl, _, by rw [Int.toNat_natCast]; exact cell 3 _ rfl, _, by rw [Int.toNat_natCast]; exact cell 4 _ rfl, _, by rw [Int.toNat_natCast]; exact cell 5 _ rfl, _, by rw [Int.toNat_natCast]; exact cell 6 _ rfl, _, _, _, by rw [Int.toNat_natCast]; exact cell 7 _ rfl, (ref11_gathered_ok (i := q.it[0]) (hxk.grown S2.bel) (hi _ (List.getElem_mem hi1))).mono ?_⟩
      rintro _ w3 ⟨_, rfl, rfl, B3⟩
      refine ⟨_, rfl, by omega, next _ (S2.grown B3) _ ?_⟩
      unfold accI
      rw [if_pos rfl, if_neg (by omega), part_one _ _ _ hi1]
  have hacc : accI q i = partT selT (q.it.map itemT) := by
    obtain rfl : i = q.it.length := by omega
    unfold accI
    rw [if_neg (by omega), List.take_length]
  have hz1 : (partT selT (q.it.map itemT)).size ≤ 7 + 16 * (1000000 + 2) := by have := z1 q.it.length; rw [List.take_length] at this; omega
  have hz2 : (partT whT (q.wh.map Ex.text)).size ≤ 7 + 16 * (1000000 + 2) := by have := z2 q.wh.length; rw [List.take_length] at this; omega
  rw [hacc]
  refine ⟨fun st w6 => st = [.string (partT selT (q.it.map itemT) ++ partT whT (q.wh.map Ex.text))] ∧ ST w w6 [quI b6 q ai aw ag ao ci cw cg co], ⟨_, _, _, S2.cell 0 rfl rfl, IFB_dec (fun h0 => ?_) (fun h0 => ?_)⟩, ?_⟩
  · have hwl : 0 < q.wh.length := by omega
    obtain ⟨p, a3, cap3, hpa, hxk, cell⟩ := exs_at (hrw.grown S2.bel) hCw hwl
    subst hpa
    have hX := hw _ (List.getElem_mem hwl)
    have hz := bd.wh _ (List.getElem_mem hwl)
    refine ⟨by omega, _, _, _, S2.cell 0 rfl rfl, ⟨by omega, by omega⟩, _, cell 0 _ rfl, _, cell 1 _ rfl, _, cell 2 _ rfl, _, cell 3 _ rfl, _, cell 4 _ rfl, _, _, _, cell 5 _ rfl, (ref11_text_ok _ 40 (rightX_fair hX hxk.fit) (rightX_size hX) w2 a3 cap3 (hxk.grown S2.bel)).mono ?_⟩
    rintro _ w5 ⟨_, rfl, rfl, B5⟩
    refine ⟨_, rfl, by simp only [ByteArray.size_append]; omega, ?_, S2.grown B5⟩
    have : q.wh = [q.wh[0]] := by
      match hq : q.wh, hwl with
      | [x], _ => rfl
      | x :: y :: l, _ => rw [hq] at hn; simp at hn
    rw [show partT whT (q.wh.map Ex.text) = whT ++ q.wh[0].text by
      conv => lhs; rw [this]
      rfl, ByteArray.append_assoc]
    rfl
  · have : q.wh = [] := List.eq_nil_of_length_eq_zero (by omega)
    refine ⟨?_, S2⟩
    rw [this]
    exact congrArg (fun x => [Value.string x]) (app_e0 _).symm
  rintro s w6 ⟨hs6, S6⟩
  obtain rfl : s = partT selT (q.it.map itemT) ++ partT whT (q.wh.map Ex.text) := by simpa using hs6
  obtain ⟨P2, hP2⟩ : ∃ P2, P2 = partT selT (q.it.map itemT) ++ partT whT (q.wh.map Ex.text) := ⟨_, rfl⟩
  have hzP2 : P2.size ≤ 14 + 32 * (1000000 + 2) := by rw [hP2, ByteArray.size_append]; omega
  rw [← hP2]
  refine ⟨fun st w7 => ∃ i : Nat, st = [.string (P2 ++ partT grT ((q.gr.take i).map Ex.text)), .int .i64 (i : Int)] ∧ i ≤ q.gr.length ∧ ST w w7 [quI b6 q ai aw ag ao ci cw cg co], fun st _ => match st with | [_, .int _ t] => q.gr.length - t.toNat | _ => 0, ⟨0, by rw [part_zero, app_e0]; rfl, by omega, S6⟩, ?_⟩
  rintro s t w7 ⟨i, hst, hil, S7⟩
  cases hst
  have hzi := z3 i
  refine ⟨_, _, _, S7.cell 0 rfl rfl, IFB_dec (fun hlt => ?_) (fun hge => ?_)⟩
  · have hi1 : i < q.gr.length := by omega
    have next : ∀ w', ST w w' [quI b6 q ai aw ag ao ci cw cg co] → ∀ s, s = P2 ++ partT grT ((q.gr.take (i + 1)).map Ex.text) → (∃ j : Nat, [Value.string s, Value.int .i64 (IntKind.i64.wrap ((i : Int) + 1))] = [.string (P2 ++ partT grT ((q.gr.take j).map Ex.text)), .int .i64 (j : Int)] ∧ j ≤ q.gr.length ∧ ST w w' [quI b6 q ai aw ag ao ci cw cg co]) ∧ q.gr.length - (IntKind.i64.wrap ((i : Int) + 1)).toNat < q.gr.length - ((i : Nat) : Int).toNat := by
      rintro w' S s rfl
      rw [wrap_succ (by omega)]
      refine ⟨⟨i + 1, rfl, by omega, S⟩, ?_⟩
      simp only [Int.toNat_natCast]
      omega
    obtain ⟨p, a3, cap3, hpa, hxk, cell⟩ := exs_at (hrg.grown S7.bel) hCg hi1
    subst hpa
    have hX := hg _ (List.getElem_mem hi1)
    have hz := bd.gr _ (List.getElem_mem hi1)
    refine IFB_eq (fun h0 => ?_) (fun h0 => ?_)
    · obtain rfl : i = 0 := by omega
      rw [part_zero, app_e0]
      refine ⟨by omega, _, _, _, S7.cell 0 rfl rfl, ⟨by omega, by omega⟩, _, cell 0 _ rfl, _, cell 1 _ rfl, _, cell 2 _ rfl, _, cell 3 _ rfl, _, cell 4 _ rfl, _, _, _, cell 5 _ rfl, (ref11_text_ok _ 40 (rightX_fair hX hxk.fit) (rightX_size hX) w7 a3 cap3 (hxk.grown S7.bel)).mono ?_⟩
      rintro _ w8 ⟨_, rfl, rfl, B8⟩
      refine ⟨_, rfl, by simp only [ByteArray.size_append]; omega, next _ (S7.grown B8) _ ?_⟩
      rw [part_one _ _ _ hi1, ByteArray.append_assoc]
      rfl
    · refine ⟨by simp only [ByteArray.size_append]; omega, _, _, _, S7.cell 0 rfl rfl, ⟨by omega, hlt⟩, _, by rw [Int.toNat_natCast]; exact cell 0 _ rfl, _, by rw [Int.toNat_natCast]; exact cell 1 _ rfl, _, by rw [Int.toNat_natCast]; exact cell 2 _ rfl, _, by rw [Int.toNat_natCast]; exact cell 3 _ rfl, _, by rw [Int.toNat_natCast]; exact cell 4 _ rfl, _, _, _, by rw [Int.toNat_natCast]; exact cell 5 _ rfl, (ref11_text_ok _ 40 (rightX_fair hX hxk.fit) (rightX_size hX) w7 a3 cap3 (hxk.grown S7.bel)).mono ?_⟩
      rintro _ w8 ⟨_, rfl, rfl, B8⟩
      refine ⟨_, rfl, by simp only [ByteArray.size_append]; omega, next _ (S7.grown B8) _ ?_⟩
      rw [part_step _ _ _ hi1 (by omega)]
      simp only [ByteArray.append_assoc]
  obtain rfl : i = q.gr.length := by omega
  rw [List.take_length] at hzi ⊢
  obtain ⟨P3, hP3⟩ : ∃ P3, P3 = P2 ++ partT grT (q.gr.map Ex.text) := ⟨_, rfl⟩
  have hzP3 : P3.size ≤ 24 + 48 * (1000000 + 2) := by rw [hP3, ByteArray.size_append]; omega
  rw [← hP3]
  refine ⟨fun st w10 => ∃ i : Nat, st = [.string (P3 ++ partT odT ((q.od.take i).map (keyT q.it))), .int .i64 (i : Int)] ∧ i ≤ q.od.length ∧ ST w w10 [quI b6 q ai aw ag ao ci cw cg co], fun st _ => match st with | [_, .int _ t] => q.od.length - t.toNat | _ => 0, ⟨0, by rw [part_zero, app_e0]; rfl, by omega, S7⟩, ?_⟩
  rintro s t w10 ⟨i, hst, hil, S10⟩
  cases hst
  have hzj := z4 i
  refine ⟨_, _, _, S10.cell 0 rfl rfl, IFB_dec (fun hlt => ?_) (fun hge => ?_)⟩
  · have hi1 : i < q.od.length := by omega
    refine ⟨fun st w11 => st = [.string (P3 ++ if i = 0 then odT else partT odT ((q.od.take i).map (keyT q.it)) ++ ⟨#[44, 32]⟩)] ∧ w11 = w10, IFB_eq (fun h0 => ⟨by rw [ByteArray.size_append]; omega, ?_, rfl⟩) (fun h0 => ⟨by simp only [ByteArray.size_append]; omega, ?_, rfl⟩), ?_⟩
    · obtain rfl : i = 0 := by omega
      rw [part_zero, app_e0, if_pos rfl]
      rfl
    · rw [if_neg (by omega), ByteArray.append_assoc]
    rintro s w11 ⟨hs11, rfl⟩
    obtain rfl : s = P3 ++ if i = 0 then odT else partT odT ((q.od.take i).map (keyT q.it)) ++ ⟨#[44, 32]⟩ := by simpa using hs11
    have hzs : (P3 ++ if i = 0 then odT else partT odT ((q.od.take i).map (keyT q.it)) ++ ⟨#[44, 32]⟩).size ≤ 100 + 64 * (1000000 + 2) := by
      rw [ByteArray.size_append]
      split
      · omega
      · rw [ByteArray.size_append]; omega
    refine S10.draw fun w12 _ S12 => ?_
    obtain ⟨pk, hpk, hk0, hk1, _⟩ := key_at (hro.grown S12.bel) hCo hi1
    obtain ⟨m, hm, he, _⟩ := rightK_iff.1 (ho _ (List.getElem_mem hi1))
    obtain ⟨pi, hpi, hc⟩ := it_name (hri.grown S12.bel) hCi hm
    subst hpk
    subst hpi
    have hnm := bd.nm _ (List.getElem_mem hm)
    have f5 : (ByteArray.mk #[32, 100, 101, 115, 99]).size = 5 := rfl
    refine ⟨_, _, _, S12.cell 0 rfl rfl, _, _, _, S12.cell 0 rfl rfl, ⟨by omega, hlt⟩, _, by rw [Int.toNat_natCast]; exact hk0, ⟨by omega, by omega⟩, _, by rw [he, Int.toNat_natCast]; exact hc, by omega, _, _, _, S12.cell 0 rfl rfl, ⟨by omega, hlt⟩, _, by rw [Int.toNat_natCast]; exact hk1, ?_⟩
    have next : ∀ w', ST w w' [quI b6 q (some pi) aw ag (some pk) ci cw cg co] → ∀ s, s = P3 ++ partT odT ((q.od.take (i + 1)).map (keyT q.it)) → (∃ j : Nat, [Value.string s, Value.int .i64 (IntKind.i64.wrap ((i : Int) + 1))] = [.string (P3 ++ partT odT ((q.od.take j).map (keyT q.it))), .int .i64 (j : Int)] ∧ j ≤ q.od.length ∧ ST w w' [quI b6 q (some pi) aw ag (some pk) ci cw cg co]) ∧ q.od.length - (IntKind.i64.wrap ((i : Int) + 1)).toNat < q.od.length - ((i : Nat) : Int).toNat := by
      rintro w' S s rfl
      rw [wrap_succ (by omega)]
      refine ⟨⟨i + 1, rfl, by omega, S⟩, ?_⟩
      simp only [Int.toNat_natCast]
      omega
    have hstep : partT odT ((q.od.take (i + 1)).map (keyT q.it)) = (if i = 0 then odT else partT odT ((q.od.take i).map (keyT q.it)) ++ ⟨#[44, 32]⟩) ++ keyT q.it q.od[i] := by
      by_cases h0 : i = 0
      · subst h0
        rw [part_one _ _ _ hi1, if_pos rfl]
      · rw [part_step _ _ _ hi1 (by omega), if_neg h0]
    refine IFB_of (fun hd => ⟨by rw [ByteArray.size_append]; omega, next _ S12 _ ?_⟩) (fun hd => next _ S12 _ ?_)
    · rw [hstep, keyT_at hm he, hd]
      simp only [ByteArray.append_assoc]
      rfl
    · rw [hstep, keyT_at hm he, hd]
      rw [show (if false = true then (ByteArray.mk #[32, 100, 101, 115, 99]) else E0) = E0 from rfl, app_e0]
      simp only [ByteArray.append_assoc]
  obtain rfl : i = q.od.length := by omega
  rw [List.take_length] at hzj ⊢
  have hL : (ByteArray.mk #[32, 108, 105, 109, 105, 116, 32]).size = 7 := rfl
  have hq : quT q = P3 ++ partT odT (q.od.map (keyT q.it)) ++ limT q.lim := by rw [hP3, hP2]; rfl
  have hit := Lib.itoa_length_le q.lim Q.lim.1 Q.lim.2
  have hsz : (sof (Lib.itoa q.lim)).size ≤ 21 := by rw [size_sof]; exact hit
  refine ⟨_, S10.cell 0 rfl rfl, IFB_dec (fun h0 => ⟨by rw [ByteArray.size_append]; omega, _, S10.cell 0 rfl rfl, (ref_Digits_ok w10 q.lim Q.lim.1 Q.lim.2).mono ?_⟩) (fun h0 => ⟨?_, S10.bel⟩)⟩
  · rintro _ w13 ⟨_, rfl, rfl, B13⟩
    refine ⟨_, rfl, by simp only [ByteArray.size_append]; omega, ?_, (S10.grown B13).bel⟩
    rw [hq]
    unfold limT
    rw [if_pos h0]
    simp only [ByteArray.append_assoc]
  · rw [hq]
    unfold limT
    rw [if_neg h0, app_e0]
theorem ref11_Right_ok (Q : QAt w q ai aw ag ao) : Calls Tryz.prog f.ref11_Right #[.agg ⟨quL q ai aw ag ao ci cw cg co⟩] w (Ret fun r w' => r = .bool (rightQ q) ∧ Below w.heap.size w w') := by
  apply R.ref11_Right_calls
  unfold R.ref11_Right
  refine (ST.start w).newB fun b6 w1 _ _ S1 => ?_
  have S1 : ST w w1 [quI b6 q ai aw ag ao ci cw cg co] := S1
  refine ⟨_, _, _, S1.cell 0 rfl rfl, _, _, _, S1.cell 0 rfl rfl, _, _, _, S1.cell 0 rfl rfl, _, _, _, S1.cell 0 rfl rfl, _, S1.cell 0 rfl rfl, (ref11_small_ok (Q.grown S1.bel) (ci := ci) (cw := cw) (cg := cg) (co := co)).mono ?_⟩
  rintro _ w2 ⟨_, rfl, rfl, B2⟩
  have S2 := S1.grown B2
  refine ⟨_, rfl, IFB_of (fun hs => ⟨_, _, _, S2.cell 0 rfl rfl, _, _, _, S2.cell 0 rfl rfl, _, _, _, S2.cell 0 rfl rfl, _, _, _, S2.cell 0 rfl rfl, _, S2.cell 0 rfl rfl, (ref11_shown_ok (Q.grown S2.bel) hs (ci := ci) (cw := cw) (cg := cg) (co := co)).mono ?_⟩) (fun hs => ⟨by simp [rightQ, hs], S2.bel⟩)⟩
  rintro _ w3 ⟨_, rfl, rfl, B3⟩
  refine ⟨_, rfl, ?_, (S2.grown B3).bel⟩
  congr 1
  rw [Bool.eq_iff_iff]
  simp [rightQ, hs]
  omega
end
theorem IFB_yes {b : Bool} {A B : Prop} (hb : b = true) (h : A) : IFB b A B := by subst hb; exact h
theorem IFB_no {b : Bool} {A B : Prop} (hb : b = false) (h : B) : IFB b A B := by subst hb; exact h
section
variable {w : World} {q : Qu} {ai aw ag ao bi bw bg bo : Option Addr} {ci cw cg co di dw dg d_o : Nat}
end
/-! ### lists of columns -/
section
variable {w : World} {a b : Option Addr} {c d : Nat}
end
section
variable {w0 w : World} {H : List It}
theorem stX (S : ST w0 w H) (n : Nat) {b : Nat} {x : Ex} {a : Option Addr} {cap : Nat} (hn : H[n]? = some (exI b (exHead x a cap))) {Q : Int → ByteArray → Int → Int → ByteArray → Option Addr → Nat → Nat → Prop} (hq : Q x.op x.nm x.v.1 x.v.2.1 x.v.2.2 a x.ks.length cap) :
    ∃ t0 : Int, w.cell? ⟨b, 0, none⟩ = some (.int .i64 t0) ∧ ∃ t1 : ByteArray, w.cell? ⟨b, 1, none⟩ = some (.string t1) ∧ ∃ t2 : Int, w.cell? ⟨b, 2, none⟩ = some (.int .i64 t2) ∧ ∃ t3 : Int, w.cell? ⟨b, 3, none⟩ = some (.int .i64 t3) ∧ ∃ t4 : ByteArray, w.cell? ⟨b, 4, none⟩ = some (.string t4) ∧
      ∃ (t5 : Option Addr) (l c : Nat), w.cell? ⟨b, 5, none⟩ = some (.slice t5 l c) ∧ Q t0 t1 t2 t3 t4 t5 l c :=
  ⟨_, S.cell n hn rfl, _, S.cell n hn rfl, _, S.cell n hn rfl, _, S.cell n hn rfl, _, S.cell n hn rfl, _, _, _, S.cell n hn rfl, hq⟩
theorem stQ (S : ST w0 w H) (n : Nat) {b : Nat} {q : Qu} {ai aw ag ao : Option Addr} {ci cw cg co : Nat} (hn : H[n]? = some (quI b q ai aw ag ao ci cw cg co)) {Q : Option Addr → Nat → Nat → Option Addr → Nat → Nat → Option Addr → Nat → Nat → Option Addr → Nat → Nat → Int → Prop}
    (hq : Q ai q.it.length ci aw q.wh.length cw ag q.gr.length cg ao q.od.length co q.lim) :
    ∃ (a0 : Option Addr) (l0 c0 : Nat), w.cell? ⟨b, 0, none⟩ = some (.slice a0 l0 c0) ∧ ∃ (a1 : Option Addr) (l1 c1 : Nat), w.cell? ⟨b, 1, none⟩ = some (.slice a1 l1 c1) ∧ ∃ (a2 : Option Addr) (l2 c2 : Nat), w.cell? ⟨b, 2, none⟩ = some (.slice a2 l2 c2) ∧ ∃ (a3 : Option Addr) (l3 c3 : Nat), w.cell? ⟨b, 3, none⟩ = some (.slice a3 l3 c3) ∧
      ∃ n4 : Int, w.cell? ⟨b, 4, none⟩ = some (.int .i64 n4) ∧ Q a0 l0 c0 a1 l1 c1 a2 l2 c2 a3 l3 c3 n4 :=
  ⟨_, _, _, S.cell n hn rfl, _, _, _, S.cell n hn rfl, _, _, _, S.cell n hn rfl, _, _, _, S.cell n hn rfl, _, S.cell n hn rfl, hq⟩
end
abbrev Tk := Int × Int × ByteArray
def tkC (t : Tk) : List Value := [.int .i64 t.1, .int .i64 t.2.1, .string t.2.2]
abbrev tksL (T : List Tk) : List Value := T.flatMap tkC
theorem tk_at {w : World} {a : Option Addr} {T : List Tk} (hl : Rd w a (tksL T)) {i : Nat} (hi : i < T.length) : ∃ p, a = some p ∧ w.cell? (p.add (i * 3)) = some (.int .i64 T[i].1) ∧ w.cell? ((p.add (i * 3)).add 1) = some (.int .i64 T[i].2.1) ∧ w.cell? ((p.add (i * 3)).add 2) = some (.string T[i].2.2) := by
  have hc : ∀ c : Tk, (tkC c).length = 3 := fun _ => rfl
  obtain ⟨p, hp, h0⟩ := hl (i * 3 + 0) _ (by rw [flat_get hc T i 0 hi (by omega)]; rfl)
  obtain ⟨p1, hp1, h1⟩ := hl (i * 3 + 1) _ (by rw [flat_get hc T i 1 hi (by omega)]; rfl)
  obtain ⟨p2, hp2, h2⟩ := hl (i * 3 + 2) _ (by rw [flat_get hc T i 2 hi (by omega)]; rfl)
  subst hp
  cases hp1
  cases hp2
  exact ⟨p, rfl, h0, by rw [addr_add_add]; exact h1, by rw [addr_add_add]; exact h2⟩
section
variable {w w0 : World} {H : List It} {b : Nat} {a : Option Addr} {c i : Nat} {ok : Bool} {T : List Tk}
end
section
variable {w0 w : World} {H : List It}
theorem stEx (S : ST w0 w H) (n : Nat) {b : Nat} {x0 x1 x2 x3 x4 x5 : Value} {t0 t2 t3 : Int} {t1 t4 : ByteArray} {a5 : Option Addr} {l5 c5 : Nat} {t : TypeId} (hn : H[n]? = some (It.cells b #[x0, x1, x2, x3, x4, x5] t)) {Q : Int → ByteArray → Int → Int → ByteArray → Option Addr → Nat → Nat → World → Prop}
    (hk : ∀ w', ST w0 w' (H.set n (It.cells b #[.int .i64 t0, .string t1, .int .i64 t2, .int .i64 t3, .string t4, .slice a5 l5 c5] t)) → Q t0 t1 t2 t3 t4 a5 l5 c5 w') :
    STO ⟨b, 0, none⟩ (.int .i64 t0) (fun w => STO ⟨b, 1, none⟩ (.string t1) (fun w => STO ⟨b, 2, none⟩ (.int .i64 t2) (fun w => STO ⟨b, 3, none⟩ (.int .i64 t3) (fun w => STO ⟨b, 4, none⟩ (.string t4) (fun w => STO ⟨b, 5, none⟩ (.slice a5 l5 c5) (fun w =>
      ∃ r0 : Int, w.cell? ⟨b, 0, none⟩ = some (.int .i64 r0) ∧ ∃ r1 : ByteArray, w.cell? ⟨b, 1, none⟩ = some (.string r1) ∧ ∃ r2 : Int, w.cell? ⟨b, 2, none⟩ = some (.int .i64 r2) ∧ ∃ r3 : Int, w.cell? ⟨b, 3, none⟩ = some (.int .i64 r3) ∧ ∃ r4 : ByteArray, w.cell? ⟨b, 4, none⟩ = some (.string r4) ∧
      ∃ (r5 : Option Addr) (r5l r5c : Nat), w.cell? ⟨b, 5, none⟩ = some (.slice r5 r5l r5c) ∧ Q r0 r1 r2 r3 r4 r5 r5l r5c w) w) w) w) w) w) w := by
  have hlt := (List.getElem?_eq_some_iff.1 hn).1
  have g : ∀ {x : It}, (H.set n x)[n]? = some x := List.getElem?_set_self hlt
  refine S.sto n hn (cs' := #[.int .i64 t0, x1, x2, x3, x4, x5]) (by simp) rfl fun w1 S1 => S1.sto n g (cs' := #[.int .i64 t0, .string t1, x2, x3, x4, x5]) (by simp) rfl fun w2 S2 => ?_
  rw [List.set_set] at S2
  refine S2.sto n g (cs' := #[.int .i64 t0, .string t1, .int .i64 t2, x3, x4, x5]) (by simp) rfl fun w3 S3 => ?_
  rw [List.set_set] at S3
  refine S3.sto n g (cs' := #[.int .i64 t0, .string t1, .int .i64 t2, .int .i64 t3, x4, x5]) (by simp) rfl fun w4 S4 => ?_
  rw [List.set_set] at S4
  refine S4.sto n g (cs' := #[.int .i64 t0, .string t1, .int .i64 t2, .int .i64 t3, .string t4, x5]) (by simp) rfl fun w5 S5 => ?_
  rw [List.set_set] at S5
  refine S5.sto n g (cs' := #[.int .i64 t0, .string t1, .int .i64 t2, .int .i64 t3, .string t4, .slice a5 l5 c5]) (by simp) rfl fun w6 S6 => ?_
  rw [List.set_set] at S6
  exact ⟨_, S6.cell n g rfl, _, S6.cell n g rfl, _, S6.cell n g rfl, _, S6.cell n g rfl, _, S6.cell n g rfl, _, _, _, S6.cell n g rfl, hk w6 S6⟩
end
def colX (s : ByteArray) : Ex := .mk 1 s V0 []
def headW : List ByteArray := [⟨#[110, 117, 108, 108]⟩, ⟨#[116, 114, 117, 101]⟩, ⟨#[102, 97, 108, 115, 101]⟩, ⟨#[108, 101, 110]⟩, ⟨#[40]⟩, ⟨#[45]⟩, ⟨#[110, 111, 116]⟩, ⟨#[99, 111, 117, 110, 116]⟩, ⟨#[115, 117, 109]⟩, ⟨#[109, 105, 110]⟩, ⟨#[109, 97, 120]⟩]
end Go.Proofs.YtbpdfpfgijhokaaGreatDoor
namespace Go.Proofs.YtbpdfpfgijhokaaGreatDoor
set_option maxRecDepth 100000
open Go.Dn Go.Proofs
open Go.RowKit (Below)
set_option linter.unusedVariables false
/-! ### plain -/
def isLet (c : UInt8) : Bool := decide (97 ≤ c.toNat ∧ c.toNat ≤ 122)
def isDig (c : UInt8) : Bool := decide (48 ≤ c.toNat ∧ c.toNat ≤ 57)
def wordCh (c : UInt8) : Bool := isLet c || isDig c || decide (c.toNat = 95)
def runN (p : UInt8 → Bool) : List UInt8 → Nat
  | [] => 0
  | c :: r => if p c then runN p r + 1 else 0
def signCh (c : UInt8) : Bool := [40, 41, 44, 43, 45, 42, 47, 37, 61, 60].contains c.toNat
theorem runN_le (p : UInt8 → Bool) : ∀ l, runN p l ≤ l.length
  | [] => Nat.le_refl _
  | c :: r => by have := runN_le p r; simp only [runN, List.length_cons]; split <;> omega
theorem runN_at {p : UInt8 → Bool} : ∀ {l : List UInt8} {n : Nat}, n ≤ l.length → (∀ c ∈ l.take n, p c = true) → (∀ h : n < l.length, p l[n] = false) → runN p l = n
  | [], n, hn, _, _ => by simp at hn; simp [runN, hn]
  | c :: r, 0, _, _, h => by
    have := h (by simp)
    simp only [List.getElem_cons_zero] at this
    simp [runN, this]
  | c :: r, n + 1, hn, h1, h2 => by
    have hc := h1 c (by simp)
    simp only [runN, hc, if_true]
    rw [runN_at (l := r) (n := n) (by simpa using hn) (fun d hd => h1 d (by simp [hd])) fun h => by have := h2 (by simpa using h); simpa using this]
/-! ### the walk -/
section
variable {w : World} {s : ByteArray}
theorem sget_at {i : Nat} (h : i < s.size) : sget s i = (bl s)[i]'(by rw [bl_length]; exact h) := by
  rw [sget_eq, List.getD_eq_getElem?_getD, List.getElem?_eq_getElem (by rw [bl_length]; exact h), Option.getD_some]
theorem call0 {P : Program} {f : FuncId} {args : Array Value} {v : Value} {Q : Ending → World → Prop} (h : Calls P f args w (Ret fun r w' => r = v ∧ w' = w)) (hk : Q (.returned v) w) : Calls P f args w Q := (ST.start w).call0 h hk
def zTk : Value := .agg #[.int .i64 0, .int .i64 0, .string ⟨#[]⟩]
end
end Go.Proofs.YtbpdfpfgijhokaaGreatDoor
namespace Go.Proofs.YtbpdfpfgijhokaaGreatDoor
set_option maxRecDepth 100000
open Go.Dn Go.Proofs
open Go.RowKit (Below)
set_option linter.unusedVariables false
section
variable {w0 w : World} {H : List It}
theorem stI (S : ST w0 w H) (n : Nat) {b : Nat} {i : Itm} {a : Option Addr} {cap : Nat} (hn : H[n]? = some (itI b i a cap)) {Q : ByteArray → Int → Int → ByteArray → Int → Int → ByteArray → Option Addr → Nat → Nat → Prop} (hq : Q i.1 i.2.1 i.2.2.op i.2.2.nm i.2.2.v.1 i.2.2.v.2.1 i.2.2.v.2.2 a i.2.2.ks.length cap) :
    ∃ t0 : ByteArray, w.cell? ⟨b, 0, none⟩ = some (.string t0) ∧ ∃ t1 : Int, w.cell? ⟨b, 1, none⟩ = some (.int .i64 t1) ∧ ∃ t2 : Int, w.cell? ⟨b, 2, none⟩ = some (.int .i64 t2) ∧ ∃ t3 : ByteArray, w.cell? ⟨b, 3, none⟩ = some (.string t3) ∧ ∃ t4 : Int, w.cell? ⟨b, 4, none⟩ = some (.int .i64 t4) ∧ ∃ t5 : Int, w.cell? ⟨b, 5, none⟩ = some (.int .i64 t5) ∧ ∃ t6 : ByteArray, w.cell? ⟨b, 6, none⟩ = some (.string t6) ∧
      ∃ (t7 : Option Addr) (l c : Nat), w.cell? ⟨b, 7, none⟩ = some (.slice t7 l c) ∧ Q t0 t1 t2 t3 t4 t5 t6 t7 l c :=
  ⟨_, S.cell n hn rfl, _, S.cell n hn rfl, _, S.cell n hn rfl, _, S.cell n hn rfl, _, S.cell n hn rfl, _, S.cell n hn rfl, _, S.cell n hn rfl, _, _, _, S.cell n hn rfl, hq⟩
theorem stItm (S : ST w0 w H) (n : Nat) {b : Nat} {x0 x1 x2 x3 x4 x5 x6 x7 : Value} {t1 t2 t4 t5 : Int} {t0 t3 t6 : ByteArray} {a7 : Option Addr} {l7 c7 : Nat} {t : TypeId} (hn : H[n]? = some (It.cells b #[x0, x1, x2, x3, x4, x5, x6, x7] t)) {Q : ByteArray → Int → Int → ByteArray → Int → Int → ByteArray → Option Addr → Nat → Nat → World → Prop}
    (hk : ∀ w', ST w0 w' (H.set n (It.cells b #[.string t0, .int .i64 t1, .int .i64 t2, .string t3, .int .i64 t4, .int .i64 t5, .string t6, .slice a7 l7 c7] t)) → Q t0 t1 t2 t3 t4 t5 t6 a7 l7 c7 w') :
    STO ⟨b, 0, none⟩ (.string t0) (fun w => STO ⟨b, 1, none⟩ (.int .i64 t1) (fun w => STO ⟨b, 2, none⟩ (.int .i64 t2) (fun w => STO ⟨b, 3, none⟩ (.string t3) (fun w => STO ⟨b, 4, none⟩ (.int .i64 t4) (fun w => STO ⟨b, 5, none⟩ (.int .i64 t5) (fun w => STO ⟨b, 6, none⟩ (.string t6) (fun w => STO ⟨b, 7, none⟩ (.slice a7 l7 c7) (fun w =>
      ∃ r0 : ByteArray, w.cell? ⟨b, 0, none⟩ = some (.string r0) ∧ ∃ r1 : Int, w.cell? ⟨b, 1, none⟩ = some (.int .i64 r1) ∧ ∃ r2 : Int, w.cell? ⟨b, 2, none⟩ = some (.int .i64 r2) ∧ ∃ r3 : ByteArray, w.cell? ⟨b, 3, none⟩ = some (.string r3) ∧ ∃ r4 : Int, w.cell? ⟨b, 4, none⟩ = some (.int .i64 r4) ∧ ∃ r5 : Int, w.cell? ⟨b, 5, none⟩ = some (.int .i64 r5) ∧ ∃ r6 : ByteArray, w.cell? ⟨b, 6, none⟩ = some (.string r6) ∧
      ∃ (r7 : Option Addr) (l c : Nat), w.cell? ⟨b, 7, none⟩ = some (.slice r7 l c) ∧ Q r0 r1 r2 r3 r4 r5 r6 r7 l c w) w) w) w) w) w) w) w) w := by
  have hlt := (List.getElem?_eq_some_iff.1 hn).1
  have g : ∀ {x : It}, (H.set n x)[n]? = some x := List.getElem?_set_self hlt
  exact S.sto8 n hn fun w' S' => ⟨_, S'.cell n g rfl, _, S'.cell n g rfl, _, S'.cell n g rfl, _, S'.cell n g rfl, _, S'.cell n g rfl, _, S'.cell n g rfl, _, S'.cell n g rfl, _, _, _, S'.cell n g rfl, hk w' S'⟩
theorem stIx6 (S : ST w0 w H) (n : Nat) {b : Nat} {x0 x1 x2 x3 x4 x5 x6 x7 v2 v3 v4 v5 v6 v7 : Value} {t : TypeId} (hn : H[n]? = some (It.cells b #[x0, x1, x2, x3, x4, x5, x6, x7] t)) {k : World → Prop}
    (hk : ∀ w', ST w0 w' (H.set n (It.cells b #[x0, x1, v2, v3, v4, v5, v6, v7] t)) → k w') :
    STO ⟨b, 2, none⟩ v2 (fun w => STO ⟨b, 3, none⟩ v3 (fun w => STO ⟨b, 4, none⟩ v4 (fun w => STO ⟨b, 5, none⟩ v5 (fun w => STO ⟨b, 6, none⟩ v6 (fun w => STO ⟨b, 7, none⟩ v7 k w) w) w) w) w) w := by
  have hlt := (List.getElem?_eq_some_iff.1 hn).1
  have g : ∀ {x : It}, (H.set n x)[n]? = some x := List.getElem?_set_self hlt
  refine S.sto n hn (cs' := #[x0, x1, v2, x3, x4, x5, x6, x7]) (by simp) rfl fun w1 S1 => S1.sto n g (cs' := #[x0, x1, v2, v3, x4, x5, x6, x7]) (by simp) rfl fun w2 S2 => ?_
  rw [List.set_set] at S2
  refine S2.sto n g (cs' := #[x0, x1, v2, v3, v4, x5, x6, x7]) (by simp) rfl fun w3 S3 => ?_
  rw [List.set_set] at S3
  refine S3.sto n g (cs' := #[x0, x1, v2, v3, v4, v5, x6, x7]) (by simp) rfl fun w4 S4 => ?_
  rw [List.set_set] at S4
  refine S4.sto n g (cs' := #[x0, x1, v2, v3, v4, v5, v6, x7]) (by simp) rfl fun w5 S5 => ?_
  rw [List.set_set] at S5
  refine S5.sto n g (cs' := #[x0, x1, v2, v3, v4, v5, v6, v7]) (by simp) rfl fun w6 S6 => ?_
  rw [List.set_set] at S6
  exact hk w6 S6
end
def asW : ByteArray := ⟨#[97, 115]⟩
section
variable {w0 w : World} {H : List It} {b : Nat} {a : Option Addr} {c i : Nat} {T : List Tk}
end
section
variable {w : World} {q : Qu} {ai aw ag ao : Option Addr} {ci cw cg co : Nat}
end
structure Pl where
  cs : List Col
  q : Qu
  out : List Col
  g : Bool
section
variable {cs : List Col} {q : Qu} (h1 : rightCols cs = true) (h2 : rightQ q = true)
include h1 h2
end
section
variable {w : World} {q : Qu} {ai aw ag ao : Option Addr} {ci cw cg co : Nat}
end
section
variable {w : World} {p : Pl} {a0 ai aw ag ao a6 b0 bi bw bg bo b6 : Option Addr} {c0 ci cw cg co c6 d0 di dw dg d_o d6 : Nat}
end
section
variable {w : World} {p : Pl} {a0 ai aw ag ao a6 : Option Addr} {c0 ci cw cg co c6 : Nat}
end
end Go.Proofs.YtbpdfpfgijhokaaGreatDoor
namespace Go.Proofs.YtbpdfpfgijhokaaGreatDoor
set_option maxRecDepth 100000
open Go.Dn Go.Proofs
open Go.RowKit (Below)
open Go.Sort (putRow putCells Holds)
set_option linter.unusedVariables false
section
variable {w0 w : World} {H : List It} {a : Option Addr} {c : Nat}
end
end Go.Proofs.YtbpdfpfgijhokaaGreatDoor
namespace Go.Proofs.YtbpdfpfgijhokaaGreatDoor
set_option maxRecDepth 100000
open Go.Dn Go.Proofs
open Go.RowKit (Below)
set_option linter.unusedVariables false
/-! ### plain -/
abbrev Prt := Int × Bool × Ex
def itPrts (i : Nat) : List Itm → List Prt
  | [] => []
  | x :: l => ((i : Int), false, x.2.2) :: itPrts (i + 1) l
def prts (q : Qu) : List Prt := q.wh.map (fun x => (-1, true, x)) ++ q.gr.map (fun x => (-1, false, x)) ++ itPrts 0 q.it
def stepP (cs : List Col) (q : Qu) (p : Prt) : Except Int (List Col) :=
  if p.1 < 0 then
    match typeE cs p.2.2 with
    | .error e => .error e
    | .ok k => if p.2.1 = true ∧ k ≠ 2 ∧ k ≠ 0 then .error 121 else .ok []
  else match q.it[p.1.toNat]? with
    | none => .ok []
    | some x => match itemP cs q p.1.toNat x with
      | .error e => .error e
      | .ok c => .ok [c]
def runP (cs : List Col) (q : Qu) : List Prt → Except Int (List Col)
  | [] => .ok []
  | p :: l => match stepP cs q p with
    | .error e => .error e
    | .ok c => match runP cs q l with
      | .error e => .error e
      | .ok r => .ok (c ++ r)
theorem run_where {cs : List Col} {q : Qu} : ∀ (l : List Ex) (m : List Prt), runP cs q (l.map (fun x => ((-1, true, x) : Prt)) ++ m) = match whereP cs l with | some e => .error e | none => runP cs q m
  | [], m => rfl
  | x :: l, m => by
    simp only [List.map_cons, List.cons_append, runP, stepP, whereP, run_where l m]
    rw [if_pos (by decide)]
    cases hT : typeE cs x with
    | error e => rfl
    | ok k =>
      simp only [true_and]
      by_cases hk : k ≠ 2 ∧ k ≠ 0
      · rw [if_pos hk, if_pos hk]
      · rw [if_neg hk, if_neg hk]
        cases whereP cs l with
        | some e => rfl
        | none => simp only [List.nil_append] <;> (cases runP cs q m <;> rfl)
theorem run_group {cs : List Col} {q : Qu} : ∀ (l : List Ex) (m : List Prt), runP cs q (l.map (fun x => ((-1, false, x) : Prt)) ++ m) = match groupP cs l with | some e => .error e | none => runP cs q m
  | [], m => rfl
  | x :: l, m => by
    simp only [List.map_cons, List.cons_append, runP, stepP, groupP, run_group l m]
    rw [if_pos (by decide)]
    cases hT : typeE cs x with
    | error e => rfl
    | ok k =>
      simp only [Bool.false_eq_true, false_and, if_false]
      cases groupP cs l with
      | some e => rfl
      | none => simp only [List.nil_append] <;> (cases runP cs q m <;> rfl)
theorem run_items {cs : List Col} {q : Qu} : ∀ (l : List Itm) (i : Nat), (∀ j (h : j < l.length), q.it[i + j]? = some l[j]) → runP cs q (itPrts i l) = itemsP cs q i l
  | [], i, _ => rfl
  | x :: l, i, h => by
    simp only [itPrts, runP, stepP, itemsP]
    rw [if_neg (by omega), Int.toNat_natCast]
    have h0 := h 0 (by simp)
    simp only [Nat.add_zero, List.getElem_cons_zero] at h0
    rw [h0, run_items l (i + 1) fun j hj => by
      have := h (j + 1) (by simpa using hj)
      simp only [List.getElem_cons_succ] at this
      rwa [show i + 1 + j = i + (j + 1) by omega]]
    simp only
    cases itemP cs q i x with
    | error e => rfl
    | ok c => simp only <;> (cases itemsP cs q (i + 1) l <;> rfl)
theorem run_make {cs : List Col} {q : Qu} (h1 : rightCols cs = true) (h2 : rightQ q = true) : runP cs q (prts q) = makeP cs q := by
  unfold prts makeP
  rw [if_neg (by rw [h1]; decide), if_neg (by rw [h2]; decide), List.append_assoc, run_where, run_group, run_items q.it 0 fun j h => by rw [Nat.zero_add]; exact List.getElem?_eq_getElem h]
  cases whereP cs q.wh with
  | some e => rfl
  | none => cases groupP cs q.gr <;> rfl
/-! ### the walk over them -/
section
variable {w0 : World} {q : Qu} {ai aw ag ao : Option Addr} {ci cw cg co : Nat}
end
/-! ### an item, an expression -/
section
variable {w w0 : World} {q : Qu} {ai aw ag ao : Option Addr} {ci cw cg co : Nat} {H : List It} {cs : List Col} {a0 a6 : Option Addr} {c0 c6 b : Nat} {out : List Col} {g : Bool}
end
end Go.Proofs.YtbpdfpfgijhokaaGreatDoor
namespace Go.Proofs.YtbpdfpfgijhokaaGreatDoor
set_option maxRecDepth 100000
open Go.Dn Go.Proofs
open Go.RowKit (Below)
set_option linter.unusedVariables false
section
variable {w w0 : World} {q : Qu} {ai aw ag ao : Option Addr} {ci cw cg co : Nat} {H : List It} {cs : List Col} {a0 a6 : Option Addr} {c0 c6 b : Nat} {out : List Col}
end
section
variable {w w0 : World} {H : List It}
end
section
variable {w : World} {q : Qu} {ai aw ag ao : Option Addr} {ci cw cg co : Nat}
end
section
variable {w : World} {p : Pl} {a0 ai aw ag ao a6 : Option Addr} {c0 ci cw cg co c6 : Nat}
end
def i1 : Itm := (⟨#[107]⟩, 0, colX ⟨#[98]⟩)
def i2 : Itm := (⟨#[115]⟩, 3, colX ⟨#[97]⟩)
def zIt : Value := .agg #[.string ⟨#[]⟩, .int .i64 0, .int .i64 0, .string ⟨#[]⟩, .int .i64 0, .int .i64 0, .string ⟨#[]⟩, .slice none 0 0]
theorem tItems : slT Tryz.prog ty.L_api_Item = some (ty.api_Item, 8, 104, zIt) := by kernel_rfl
theorem it_one (i : Itm) (a : Option Addr) (cap : Nat) : ∀ u ∈ itHead i a cap, u.oneCell' = true := by
  intro u hu
  simp only [itHead, exHead, List.mem_cons, List.not_mem_nil, or_false] at hu
  rcases hu with rfl | rfl | rfl | rfl | rfl | rfl | rfl | rfl <;> rfl
theorem ex_one (x : Ex) (a : Option Addr) (cap : Nat) : ∀ u ∈ exHead x a cap, u.oneCell' = true := by
  intro u hu
  simp only [exHead, List.mem_cons, List.not_mem_nil, or_false] at hu
  rcases hu with rfl | rfl | rfl | rfl | rfl | rfl <;> rfl
abbrev zqb (b : Nat) : It := It.cells b #[.slice none 0 0, .slice none 0 0, .slice none 0 0, .slice none 0 0, .int .i64 0] ty.api_Query
abbrev itemsI (a : Option Addr) (n c : Nat) (rs : List Value) : It := It.row ty.api_Item 8 a n c rs
section
variable {w0 w : World} {H : List It} {b : Nat} {a : Option Addr} {c : Nat}
end
theorem colX_c (w : World) {s : ByteArray} (h : s.size ≤ maxLen) : XC w (colX s) (exHead (colX s) none 0) :=
  ExC.close (rs := []) (Rd.nil _ _) (by simp) (Nat.le_refl _) (by decide) (fun _ => rfl) ⟨⟨by show -9223372036854775808 ≤ (1 : Int); decide, by show (1 : Int) ≤ 9223372036854775807; decide⟩, h, ⟨by show -9223372036854775808 ≤ (0 : Int); decide, by show (0 : Int) ≤ 9223372036854775807; decide⟩, ⟨by show -9223372036854775808 ≤ (0 : Int); decide, by show (0 : Int) ≤ 9223372036854775807; decide⟩, by show (0 : Nat) ≤ maxLen; omega⟩ ExL.nil
section
variable {w : World}
/-! ### a query that sums gathers -/
end
abbrev ppL (b : Nat) (x : Option Addr) (c : Nat) (L : List Tk) (H : List It) : List It := It.cells b #[.slice x L.length c] ty.query_parser :: It.rd x (tksL L) :: H
def PS (w0 w : World) (b : Nat) (L : List Tk) (H : List It) : Prop := ∃ x c, L.length ≤ c ∧ c ≤ 9223372036854775807 ∧ ST w0 w (ppL b x c L H)
theorem ppL_in {w0 w : World} {H : List It} {b : Nat} {x : Option Addr} {c : Nat} {L : List Tk} {y : It} (S : ST w0 w (y :: ppL b x c L H)) : ST w0 w (ppL b x c L (y :: H)) := (S.pull 2 rfl).pull 2 rfl
section
variable {w w0 : World} {H : List It} {b : Nat} {L : List Tk} {t : Tk}
theorem PS.newB (S : PS w0 w b L H) {cs : Array Value} {ty : TypeId} {k : Nat → World → Prop} (hk : ∀ b' w', PS w0 w' b L (It.cells b' cs ty :: H) → k b' w') : NEWB cs ty k w := by
  obtain ⟨x, c, h1, h2, S⟩ := S
  exact S.newB fun b' w' _ _ S' => hk b' w' ⟨x, c, h1, h2, ppL_in S'⟩
theorem PS.cell (S : PS w0 w b L H) (n : Nat) {b' : Nat} {cs : Array Value} {ty : TypeId} (hn : H[n]? = some (It.cells b' cs ty)) {i : Nat} {v : Value} (hv : cs[i]? = some v) : w.cell? ⟨b', i, none⟩ = some v := by
  obtain ⟨x, c, h1, h2, S⟩ := S
  exact S.cell (n + 2) hn hv
theorem PS.sto (S : PS w0 w b L H) (n : Nat) {b' : Nat} {cs cs' : Array Value} {ty : TypeId} (hn : H[n]? = some (It.cells b' cs ty)) {i : Nat} {v : Value} {k : World → Prop} (hi : i < cs.size) (hc : cs.setIfInBounds i v = cs')
    (hk : ∀ w', PS w0 w' b L (H.set n (It.cells b' cs' ty)) → k w') : STO ⟨b', i, none⟩ v k w := by
  obtain ⟨x, c, h1, h2, S⟩ := S
  exact S.sto (n + 2) hn hi hc fun w' S' => hk w' ⟨x, c, h1, h2, S'⟩
theorem PS.draw (S : PS w0 w b L H) {k : World → Prop} (hk : ∀ w', PS w0 w' b L H → k w') : DRAW k w := by
  obtain ⟨x, c, h1, h2, S⟩ := S
  exact S.draw fun w' _ S' => hk w' ⟨x, c, h1, h2, S'⟩
theorem PS.grown (S : PS w0 w b L H) {w' : World} (B : Below w.heap.size w w') : PS w0 w' b L H := by
  obtain ⟨x, c, h1, h2, S⟩ := S
  exact ⟨x, c, h1, h2, S.grown B⟩
theorem PS.drop (S : PS w0 w b L H) (n : Nat) : PS w0 w b L (H.drop n) := by
  obtain ⟨x, c, h1, h2, S⟩ := S
  exact ⟨x, c, h1, h2, S.sub (List.Sublist.cons_cons _ (List.Sublist.cons_cons _ (List.drop_sublist n H)))⟩
theorem PS.bel (S : PS w0 w b L H) : Below w0.heap.size w0 w := by
  obtain ⟨x, c, h1, h2, S⟩ := S
  exact S.bel
theorem PS.call (S : PS w0 w b L H) {P : Program} {f : FuncId} {args : Array Value} {Q : Ending → World → Prop} {v : Value} (h : Calls P f args w (Ret fun r w' => r = v ∧ Below w.heap.size w w')) (hk : ∀ w', PS w0 w' b L H → Q (.returned v) w') : Calls P f args w Q :=
  h.mono (by rintro _ w' ⟨_, rfl, rfl, B⟩; exact hk w' (S.grown B))
theorem PS.perm (S : PS w0 w b L H) {H' : List It} (h : H.Perm H') : PS w0 w b L H' := by
  obtain ⟨x, c, h1, h2, S⟩ := S
  exact ⟨x, c, h1, h2, S.perm ((h.cons _).cons _)⟩
theorem PS.lit6 (S : PS w0 w b L H) {z0 z1 z2 z3 z4 z5 v0 v1 v2 v3 v4 v5 : Value} {ty : TypeId} {k : Nat → World → Prop} (hk : ∀ b' w', PS w0 w' b L (It.cells b' #[v0, v1, v2, v3, v4, v5] ty :: H) → k b' w') :
    NEWB #[z0, z1, z2, z3, z4, z5] ty (fun b w => STO ⟨b, 0, none⟩ v0 (fun w => STO ⟨b, 1, none⟩ v1 (fun w => STO ⟨b, 2, none⟩ v2 (fun w => STO ⟨b, 3, none⟩ v3 (fun w => STO ⟨b, 4, none⟩ v4 (fun w => STO ⟨b, 5, none⟩ v5 (fun w => k b w) w) w) w) w) w) w) w := by
  obtain ⟨x, c, h1, h2, S⟩ := S
  exact S.lit6 fun b' w' _ S' => hk b' w' ⟨x, c, h1, h2, ppL_in S'⟩
theorem PS.lit3 (S : PS w0 w b L H) {z0 z1 z2 v0 v1 v2 : Value} {ty : TypeId} {k : Nat → World → Prop} (hk : ∀ b' w', PS w0 w' b L (It.cells b' #[v0, v1, v2] ty :: H) → k b' w') :
    NEWB #[z0, z1, z2] ty (fun b w => STO ⟨b, 0, none⟩ v0 (fun w => STO ⟨b, 1, none⟩ v1 (fun w => STO ⟨b, 2, none⟩ v2 (fun w => k b w) w) w) w) w := by
  obtain ⟨x, c, h1, h2, S⟩ := S
  exact S.lit3 fun b' w' _ S' => hk b' w' ⟨x, c, h1, h2, ppL_in S'⟩
theorem PS.stEx (S : PS w0 w b L H) (n : Nat) {b' : Nat} {x0 x1 x2 x3 x4 x5 : Value} {t0 t2 t3 : Int} {t1 t4 : ByteArray} {a5 : Option Addr} {l5 c5 : Nat} {t : TypeId} (hn : H[n]? = some (It.cells b' #[x0, x1, x2, x3, x4, x5] t)) {Q : Int → ByteArray → Int → Int → ByteArray → Option Addr → Nat → Nat → World → Prop}
    (hk : ∀ w', PS w0 w' b L (H.set n (It.cells b' #[.int .i64 t0, .string t1, .int .i64 t2, .int .i64 t3, .string t4, .slice a5 l5 c5] t)) → Q t0 t1 t2 t3 t4 a5 l5 c5 w') :
    STO ⟨b', 0, none⟩ (.int .i64 t0) (fun w => STO ⟨b', 1, none⟩ (.string t1) (fun w => STO ⟨b', 2, none⟩ (.int .i64 t2) (fun w => STO ⟨b', 3, none⟩ (.int .i64 t3) (fun w => STO ⟨b', 4, none⟩ (.string t4) (fun w => STO ⟨b', 5, none⟩ (.slice a5 l5 c5) (fun w =>
      ∃ r0 : Int, w.cell? ⟨b', 0, none⟩ = some (.int .i64 r0) ∧ ∃ r1 : ByteArray, w.cell? ⟨b', 1, none⟩ = some (.string r1) ∧ ∃ r2 : Int, w.cell? ⟨b', 2, none⟩ = some (.int .i64 r2) ∧ ∃ r3 : Int, w.cell? ⟨b', 3, none⟩ = some (.int .i64 r3) ∧ ∃ r4 : ByteArray, w.cell? ⟨b', 4, none⟩ = some (.string r4) ∧
      ∃ (r5 : Option Addr) (r5l r5c : Nat), w.cell? ⟨b', 5, none⟩ = some (.slice r5 r5l r5c) ∧ Q r0 r1 r2 r3 r4 r5 r5l r5c w) w) w) w) w) w) w := by
  obtain ⟨x, c, h1, h2, S⟩ := S
  exact Go.Proofs.YtbpdfpfgijhokaaGreatDoor.stEx S (n + 2) hn fun w' S' => hk w' ⟨x, c, h1, h2, S'⟩
theorem PS.stX (S : PS w0 w b L H) (n : Nat) {b' : Nat} {x : Ex} {a : Option Addr} {cap : Nat} (hn : H[n]? = some (exI b' (exHead x a cap))) {Q : Int → ByteArray → Int → Int → ByteArray → Option Addr → Nat → Nat → Prop} (hq : Q x.op x.nm x.v.1 x.v.2.1 x.v.2.2 a x.ks.length cap) :
    ∃ t0 : Int, w.cell? ⟨b', 0, none⟩ = some (.int .i64 t0) ∧ ∃ t1 : ByteArray, w.cell? ⟨b', 1, none⟩ = some (.string t1) ∧ ∃ t2 : Int, w.cell? ⟨b', 2, none⟩ = some (.int .i64 t2) ∧ ∃ t3 : Int, w.cell? ⟨b', 3, none⟩ = some (.int .i64 t3) ∧ ∃ t4 : ByteArray, w.cell? ⟨b', 4, none⟩ = some (.string t4) ∧
      ∃ (t5 : Option Addr) (l c : Nat), w.cell? ⟨b', 5, none⟩ = some (.slice t5 l c) ∧ Q t0 t1 t2 t3 t4 t5 l c := by
  obtain ⟨y, c, h1, h2, S⟩ := S
  exact Go.Proofs.YtbpdfpfgijhokaaGreatDoor.stX S (n + 2) hn hq
/-! ### tokens -/
def isB (t : Tk) (s : ByteArray) : Bool := decide (t.2.1 = 1 ∨ t.2.1 = 4) && decide (t.2.2 = s)
def tkV (t : Tk) : Value := .agg #[.int .i64 t.1, .int .i64 t.2.1, .string t.2.2]
theorem pnext_ok (S : PS w0 w b (t :: L) H) : Calls Tryz.prog f.query_parser_next #[.pointer (some ⟨b, 0, none⟩)] w (Ret fun r w' => r = tkV t ∧ PS w0 w' b (t :: L) H) := by
  obtain ⟨x, c, hc, hc2, S⟩ := S
  apply R.query_parser_next_calls
  unfold R.query_parser_next
  refine S.newB fun b2 w1 _ _ S1 => ?_
  obtain ⟨p, hp, c0, c1, c2⟩ := tk_at (show Rd w1 x (tksL (t :: L)) from S1.get 2 rfl) (i := 0) (by simp)
  subst hp
  exact PTR_i ⟨_, _, _, S1.cell 1 rfl rfl, ⟨by omega, by rw [List.length_cons]; omega⟩, PTR_i ⟨_, c0, _, c1, _, c2, S1.sto3 0 rfl fun w4 S4 => ⟨_, S4.cell 0 rfl rfl, _, S4.cell 0 rfl rfl, _, S4.cell 0 rfl rfl, rfl, _, c, hc, hc2, S4.drop 1⟩⟩⟩
theorem pskip_ok (S : PS w0 w b (t :: L) H) : Calls Tryz.prog f.query_parser_skip #[.pointer (some ⟨b, 0, none⟩)] w (Ret fun r w' => r = tkV t ∧ PS w0 w' b L H) := by
  obtain ⟨x, c, hc, hc2, S⟩ := S
  rw [List.length_cons] at hc
  apply R.query_parser_skip_calls
  unfold R.query_parser_skip
  refine S.newB fun b2 w1 _ _ S1 => ?_
  obtain ⟨p, hp, c0, c1, c2⟩ := tk_at (show Rd w1 x (tksL (t :: L)) from S1.get 2 rfl) (i := 0) (by simp)
  subst hp
  refine PTR_i ⟨_, _, _, S1.cell 1 rfl rfl, ⟨by omega, by rw [List.length_cons]; omega⟩, PTR_i ⟨_, c0, _, c1, _, c2, S1.lit3 fun b9 w5 _ S5 => PTR_i ⟨_, _, _, S5.cell 2 rfl rfl, ⟨by omega, by rw [List.length_cons]; omega, by rw [List.length_cons]; omega⟩, PTR_i ?_⟩⟩⟩
  refine S5.sto 2 rfl (cs' := #[.slice (SLA (some p) 1 c 3) L.length (c - 1)]) (by simp) rfl fun w6 S6 => ⟨_, S6.cell 0 rfl rfl, _, S6.cell 0 rfl rfl, _, S6.cell 0 rfl rfl, S6.sto3 1 rfl fun w9 S9 => ⟨_, S9.cell 1 rfl rfl, _, S9.cell 1 rfl rfl, _, S9.cell 1 rfl rfl, rfl, SLA (some p) 1 c 3, c - 1, by omega, by omega, ?_⟩⟩
  have hr : Rd w9 (some p) (tksL (t :: L)) := S9.get 3 rfl
  have h2 := hr.sla 1 (L.length + 1) c 3 hc
  have e : ((tksL (t :: L)).drop (1 * 3)).take ((L.length + 1 - 1) * 3) = tksL L := by
    show (tksL L).take ((L.length + 1 - 1) * 3) = tksL L
    have : (tksL L).length = L.length * 3 := by
      clear hr h2 c0 c1 c2 S9 S6 S5 S1 S hc
      induction L with
      | nil => rfl
      | cons t L ih =>
        show (tkC t ++ tksL L).length = _
        rw [List.length_append, ih, List.length_cons]
        show 3 + L.length * 3 = _
        omega
    exact List.take_of_length_le (by omega)
  rw [e] at h2
  have S10 := S9.chg 3 rfl (Keeps.refl _ w9) (It.rd (SLA (some p) 1 c 3) (tksL L)) h2 fun k hk => .inl (by
    have : (It.rd (some p) (tksL (t :: L))).blk = some p.block := rfl
    rw [this]
    cases hL : tksL L with
    | nil => rw [hL] at hk; cases hk
    | cons v vs =>
      rw [hL] at hk
      have hk : rowB (SLA (some p) 1 c 3) = some k := hk
      unfold SLA at hk
      split at hk
      · exact hk
      · simpa [rowB, addr_add_block] using hk)
  exact S10.drop 2
theorem pis_ok (S : PS w0 w b (t :: L) H) (s : ByteArray) : Calls Tryz.prog f.query_parser_is #[.pointer (some ⟨b, 0, none⟩), .string s] w (Ret fun r w' => r = .bool (isB t s) ∧ PS w0 w' b (t :: L) H) := by
  apply R.query_parser_is_calls
  unfold R.query_parser_is
  refine (pnext_ok S).mono ?_
  rintro _ w1 ⟨_, rfl, rfl, S1⟩
  refine ⟨_, _, _, rfl, S1.lit3 fun b7 w5 S5 => ⟨_, S5.cell 0 rfl rfl, ?_⟩⟩
  have S6 := S5.drop 1
  refine IFB_eq (fun h => ⟨_, S5.cell 0 rfl rfl, ?_, S6⟩) (fun h => ⟨_, S5.cell 0 rfl rfl, IFB_eq (fun h4 => ⟨_, S5.cell 0 rfl rfl, ?_, S6⟩) (fun h4 => ⟨?_, S6⟩)⟩)
  · rw [isB, decide_eq_true (.inl h), Bool.true_and, bytesEq_iff]
  · rw [isB, decide_eq_true (.inr h4), Bool.true_and, bytesEq_iff]
  · rw [isB, decide_eq_false (by rintro (h1 | h1) <;> contradiction), Bool.false_and]
theorem pisN (S : PS w0 w b (t :: L) H) {s : ByteArray} (h : isB t s = false) {Q : Ending → World → Prop} (hk : ∀ w', PS w0 w' b (t :: L) H → Q (.returned (.bool false)) w') : Calls Tryz.prog f.query_parser_is #[.pointer (some ⟨b, 0, none⟩), .string s] w Q := by
  refine (pis_ok S s).mono ?_
  rintro _ w' ⟨_, rfl, rfl, S'⟩
  rw [h]
  exact hk w' S'
theorem ptake_ok (S : PS w0 w b (t :: L) H) (s : ByteArray) : Calls Tryz.prog f.query_parser_take #[.pointer (some ⟨b, 0, none⟩), .string s] w (Ret fun r w' => r = .bool (isB t s) ∧ PS w0 w' b (if isB t s = true then L else t :: L) H) := by
  apply R.query_parser_take_calls
  unfold R.query_parser_take
  refine (pis_ok S s).mono ?_
  rintro _ w1 ⟨_, rfl, rfl, S1⟩
  refine ⟨_, rfl, IFB_of (fun h => (pskip_ok S1).mono ?_) (fun h => ⟨by rw [h], by rw [if_neg (by rw [h]; decide)]; exact S1⟩)⟩
  rintro _ w2 ⟨_, rfl, rfl, S2⟩
  exact ⟨_, _, _, rfl, by rw [h], by rw [if_pos h]; exact S2⟩
theorem ptakeN (S : PS w0 w b (t :: L) H) {s : ByteArray} (h : isB t s = false) {Q : Ending → World → Prop} (hk : ∀ w', PS w0 w' b (t :: L) H → Q (.returned (.bool false)) w') : Calls Tryz.prog f.query_parser_take #[.pointer (some ⟨b, 0, none⟩), .string s] w Q := by
  refine (ptake_ok S s).mono ?_
  rintro _ w' ⟨_, rfl, rfl, S'⟩
  rw [h, if_neg (by decide)] at S'
  rw [h]
  exact hk w' S'
theorem ptakeY (S : PS w0 w b (t :: L) H) {s : ByteArray} (h : isB t s = true) {Q : Ending → World → Prop} (hk : ∀ w', PS w0 w' b L H → Q (.returned (.bool true)) w') : Calls Tryz.prog f.query_parser_take #[.pointer (some ⟨b, 0, none⟩), .string s] w Q := by
  refine (ptake_ok S s).mono ?_
  rintro _ w' ⟨_, rfl, rfl, S'⟩
  rw [h, if_pos rfl] at S'
  rw [h]
  exact hk w' S'
theorem pneedY {b9 : Nat} {s : ByteArray} (S : PS w0 w b (t :: L) (It.cells b9 #[.string s] ty.string :: H)) (h : isB t s = true) {Q : Ending → World → Prop} (hk : ∀ w', PS w0 w' b L H → Q (.returned (.tuple #[])) w') : Calls Tryz.prog f.query_parser_need #[.pointer (some ⟨b, 0, none⟩), .slice (some ⟨b9, 0, none⟩) 1 1] w Q := by
  have hh : Calls Tryz.prog f.query_parser_need #[.pointer (some ⟨b, 0, none⟩), .slice (some ⟨b9, 0, none⟩) 1 1] w (Ret fun v w' => v = .tuple #[] ∧ PS w0 w' b L H) := by
    apply R.query_parser_need_calls
    unfold R.query_parser_need
    refine forUp 1 (fun j w => PS w0 w b (if j = 0 then t :: L else L) (It.cells b9 #[.string s] ty.string :: H)) (by omega) S fun I M j w1 hj S1 next => ?_
    refine IFB_dec (fun hlt => ⟨⟨by omega, hlt⟩, ?_⟩) (fun hge => ⟨rfl, ?_⟩)
    · have hj0 : j = 0 := by change (j : Int) < ((1 : Nat) : Int) at hlt; omega
      subst hj0
      exact PTR_i ⟨_, S1.cell 0 rfl rfl, ptakeY S1 h fun w2 S2 => ⟨_, rfl, IFB_not (IFB_true (next _ (by omega) S2))⟩⟩
    · change ¬ (j : Int) < ((1 : Nat) : Int) at hge
      rw [if_neg (by omega)] at S1
      exact S1.drop 1
  refine hh.mono ?_
  rintro _ w' ⟨_, rfl, rfl, S'⟩
  exact hk w' S'
theorem pnameY (E : Env w0) (S : PS w0 w b (t :: L) H) (h1 : t.2.1 = 1) (h2 : isKeyB t.2.2 = false) {Q : Ending → World → Prop} (hk : ∀ w', PS w0 w' b L H → Q (.returned (.string t.2.2)) w') : Calls Tryz.prog f.query_parser_name #[.pointer (some ⟨b, 0, none⟩)] w Q := by
  have hh : Calls Tryz.prog f.query_parser_name #[.pointer (some ⟨b, 0, none⟩)] w (Ret fun v w' => v = .string t.2.2 ∧ PS w0 w' b L H) := by
    apply R.query_parser_name_calls
    unfold R.query_parser_name
    refine (pnext_ok S).mono ?_
    rintro _ w1 ⟨_, rfl, rfl, S1⟩
    refine ⟨_, _, _, rfl, S1.lit3 fun b6 w5 S5 => ⟨_, S5.cell 0 rfl rfl, IFB_ne (fun h => absurd h1 h) (fun _ => ⟨_, S5.cell 0 rfl rfl, call0 (query_isKey_ok _ (E.grown S5.bel)) ⟨_, rfl, IFB_no h2 ((pskip_ok (S5.drop 1)).mono ?_)⟩⟩)⟩⟩
    rintro _ w7 ⟨_, rfl, rfl, S7⟩
    exact ⟨_, _, _, rfl, rfl, S7⟩
  refine hh.mono ?_
  rintro _ w' ⟨_, rfl, rfl, S'⟩
  exact hk w' S'
def powF (t : Tk) : Int × Int :=
  if t.2.1 = 3 then (0, 0) else if t.2.2 = ⟨#[111, 114]⟩ then (1, 13) else if t.2.2 = ⟨#[97, 110, 100]⟩ then (2, 12) else if t.2.2 = ⟨#[61]⟩ then (5, 9) else if t.2.2 = ⟨#[60]⟩ then (5, 10) else if t.2.2 = ⟨#[60, 61]⟩ then (5, 11) else
  if t.2.2 = ⟨#[43]⟩ then (6, 3) else if t.2.2 = ⟨#[45]⟩ then (6, 4) else if t.2.2 = ⟨#[42]⟩ then (7, 5) else if t.2.2 = ⟨#[47]⟩ then (7, 6) else if t.2.2 = ⟨#[37]⟩ then (7, 7) else (0, 0)
theorem ppower_ok (t : Tk) : Calls Tryz.prog f.query_power #[tkV t] w (Ret fun r w' => r = .tuple #[.int .i64 (powF t).1, .int .i64 (powF t).2] ∧ Below w.heap.size w w') := by
  apply R.query_power_calls
  unfold R.query_power
  refine (ST.start w).newB fun b4 w1 _ _ S1 => ⟨_, S1.cell 0 rfl rfl, ?_⟩
  unfold powF
  refine IFB_eq (fun h => ⟨by rw [if_pos h], S1.bel⟩) (fun h => ?_)
  rw [if_neg h]
  refine ⟨_, S1.cell 0 rfl rfl, ?_⟩
  simp only [bytesEq_iff]
  refine IFB_dec (fun h => ⟨by rw [if_pos h], S1.bel⟩) (fun h => ?_)
  rw [if_neg h]
  refine IFB_dec (fun h => ⟨by rw [if_pos h], S1.bel⟩) (fun h => ?_)
  rw [if_neg h]
  refine IFB_dec (fun h => ⟨by rw [if_pos h], S1.bel⟩) (fun h => ?_)
  rw [if_neg h]
  refine IFB_dec (fun h => ⟨by rw [if_pos h], S1.bel⟩) (fun h => ?_)
  rw [if_neg h]
  refine IFB_dec (fun h => ⟨by rw [if_pos h], S1.bel⟩) (fun h => ?_)
  rw [if_neg h]
  refine IFB_dec (fun h => ⟨by rw [if_pos h], S1.bel⟩) (fun h => ?_)
  rw [if_neg h]
  refine IFB_dec (fun h => ⟨by rw [if_pos h], S1.bel⟩) (fun h => ?_)
  rw [if_neg h]
  refine IFB_dec (fun h => ⟨by rw [if_pos h], S1.bel⟩) (fun h => ?_)
  rw [if_neg h]
  refine IFB_dec (fun h => ⟨by rw [if_pos h], S1.bel⟩) (fun h => ?_)
  rw [if_neg h]
  refine IFB_dec (fun h => ⟨by rw [if_pos h], S1.bel⟩) (fun h => ?_)
  rw [if_neg h]
  exact ⟨rfl, S1.bel⟩
end
abbrev zex (b : Nat) : It := It.cells b #[.int .i64 0, .string E0, .int .i64 0, .int .i64 0, .string E0, .slice none 0 0] ty.api_Expr
abbrev tkI (b : Nat) (t : Tk) : It := It.cells b #[.int .i64 t.1, .int .i64 t.2.1, .string t.2.2] ty.query_token
def XR (f : FuncId) (more : List Value) (L L' : List Tk) (x : Ex) (Z : Option Addr → Nat → List It → Prop) : Prop :=
  ∀ {w0 w : World} {H : List It} {b : Nat}, Env w0 → PS w0 w b L H → Calls Tryz.prog f ⟨.pointer (some ⟨b, 0, none⟩) :: more⟩ w (Ret fun r w' => ∃ a cap K, Z a cap K ∧ r = .agg ⟨exHead x a cap⟩ ∧ PS w0 w' b L' (K ++ H))
def FR (lv : Int) (L L' : List Tk) (x : Ex) (own : Int) (Z : Option Addr → Nat → List It → Prop) : Prop :=
  ∀ {w0 w : World} {H : List It} {b : Nat}, Env w0 → PS w0 w b L H → Calls Tryz.prog f.query_parser_front #[.pointer (some ⟨b, 0, none⟩), .int .i64 lv] w (Ret fun r w' => ∃ a cap K, Z a cap K ∧ r = .tuple #[.agg ⟨exHead x a cap⟩, .int .i64 own] ∧ PS w0 w' b L' (K ++ H))
def leafR (a : Option Addr) (cap : Nat) (K : List It) : Prop := a = none ∧ cap = 0 ∧ K = []
structure PName (t : Tk) : Prop where
  w : t.2.1 = 1
  k : isKeyB t.2.2 = false
  hd : ∀ s ∈ headW, isB t s = false
section
variable {t u o : Tk} {L L1 L2 L' : List Tk} {x y : Ex} {Z Rx Ry : Option Addr → Nat → List It → Prop}
theorem patom_name (h : PName t) : XR f.query_parser_atom [] (t :: L) L (colX t.2.2) leafR := by
  intro w0 w H b E S
  apply R.query_parser_atom_calls
  unfold R.query_parser_atom
  refine S.newB fun b2 w1 S1 => (pnext_ok S1).mono ?_
  rintro _ w2 ⟨_, rfl, rfl, S2⟩
  refine ⟨_, _, _, rfl, S2.lit3 fun b7 w6 S6 => ⟨_, S6.cell 0 rfl rfl, IFB_eq (fun h2 => absurd (h.w.symm.trans h2) (by decide)) (fun _ => ⟨_, S6.cell 0 rfl rfl, IFB_eq (fun h3 => absurd (h.w.symm.trans h3) (by decide)) (fun _ => ?_)⟩)⟩⟩
  refine ⟨fun st w => st = [.bool false] ∧ PS w0 w b (t :: L) (tkI b7 t :: zex b2 :: H), pisN S6 (h.hd _ (by simp [headW])) fun w24 S24 => ⟨_, rfl, IFB_false (pisN S24 (h.hd _ (by simp [headW])) fun w25 S25 => ⟨_, rfl, IFB_false (pisN S25 (h.hd _ (by simp [headW])) fun w26 S26 => ⟨_, rfl, rfl, S26⟩)⟩)⟩, ?_⟩
  rintro _ w27 ⟨hst, S27⟩
  cases hst
  exact IFB_false (ptakeN S27 (h.hd _ (by simp [headW])) fun w36 S36 => ⟨_, rfl, IFB_false (ptakeN S36 (h.hd _ (by simp [headW])) fun w56 S56 => ⟨_, rfl, IFB_false (pnameY E S56 h.w h.k fun w73 S73 => ⟨_, rfl, S73.stEx 1 rfl fun w79 S79 => ⟨none, 0, [], ⟨rfl, rfl, rfl⟩, rfl, S79.drop 2⟩⟩)⟩)⟩)
def numX (n : Int) : Ex := .mk 2 E0 (1, n, E0) []
theorem patom_num (h : t.2.1 = 2) {n : Int} (hp : ∀ {w : World}, Calls Tryz.prog f.query_plain #[.string t.2.2] w (Ret fun r w' => r = .string t.2.2 ∧ Below w.heap.size w w'))
    (hc : ∀ {w : World}, Env w → Calls Tryz.prog f.query_constant #[.string t.2.2] w (Ret fun r w' => r = .agg ⟨exHead (numX n) none 0⟩ ∧ Below w.heap.size w w')) : XR f.query_parser_atom [] (t :: L) L (numX n) leafR := by
  intro w0 w H b E S
  apply R.query_parser_atom_calls
  unfold R.query_parser_atom
  refine S.newB fun b2 w1 S1 => (pnext_ok S1).mono ?_
  rintro _ w2 ⟨_, rfl, rfl, S2⟩
  refine ⟨_, _, _, rfl, S2.lit3 fun b7 w6 S6 => ⟨_, S6.cell 0 rfl rfl, IFB_eq (fun _ => (pskip_ok S6).mono ?_) (fun h2 => absurd h h2)⟩⟩
  rintro _ w7 ⟨_, rfl, rfl, S7⟩
  exact ⟨_, _, _, rfl, S7.call hp fun w8 S8 => ⟨_, rfl, S8.call (hc (E.grown S8.bel)) fun w9 S9 => ⟨_, _, _, _, _, _, _, _, rfl, S9.stEx 1 rfl fun w15 S15 => ⟨none, 0, [], ⟨rfl, rfl, rfl⟩, rfl, S15.drop 2⟩⟩⟩⟩
theorem ps_mid {w0 w : World} {b : Nat} {K H : List It} {z : It} (S : PS w0 w b L (K ++ z :: H)) : PS w0 w b L (z :: (K ++ H)) := S.perm List.perm_middle
theorem patom_par (h4 : t.2.1 = 4) (hh : ∀ s ∈ [(⟨#[110, 117, 108, 108]⟩ : ByteArray), ⟨#[116, 114, 117, 101]⟩, ⟨#[102, 97, 108, 115, 101]⟩, ⟨#[108, 101, 110]⟩], isB t s = false) (ho : isB t ⟨#[40]⟩ = true) (hx : XR f.query_parser_expr [.int .i64 1] L1 (u :: L2) x Z) (hu : isB u ⟨#[41]⟩ = true) :
    XR f.query_parser_atom [] (t :: L1) L2 x Z := by
  intro w0 w H b E S
  apply R.query_parser_atom_calls
  unfold R.query_parser_atom
  refine S.newB fun b2 w1 S1 => (pnext_ok S1).mono ?_
  rintro _ w2 ⟨_, rfl, rfl, S2⟩
  refine ⟨_, _, _, rfl, S2.lit3 fun b7 w6 S6 => ⟨_, S6.cell 0 rfl rfl, IFB_eq (fun h2 => absurd (h4.symm.trans h2) (by decide)) (fun _ => ⟨_, S6.cell 0 rfl rfl, IFB_eq (fun h3 => absurd (h4.symm.trans h3) (by decide)) (fun _ => ?_)⟩)⟩⟩
  refine ⟨fun st w => st = [.bool false] ∧ PS w0 w b (t :: L1) (tkI b7 t :: zex b2 :: H), pisN S6 (hh _ (by simp)) fun w24 S24 => ⟨_, rfl, IFB_false (pisN S24 (hh _ (by simp)) fun w25 S25 => ⟨_, rfl, IFB_false (pisN S25 (hh _ (by simp)) fun w26 S26 => ⟨_, rfl, rfl, S26⟩)⟩)⟩, ?_⟩
  rintro _ w27 ⟨hst, S27⟩
  cases hst
  refine IFB_false (ptakeN S27 (hh _ (by simp)) fun w36 S36 => ⟨_, rfl, IFB_false (ptakeY S36 ho fun w56 S56 => ⟨_, rfl, IFB_true ((hx E S56).mono ?_)⟩)⟩)
  rintro _ w57 ⟨_, rfl, a, cap, K, hR, rfl, S57⟩
  have S57 : PS w0 w57 b (u :: L2) (zex b2 :: (tkI b7 t :: (K ++ H))) := ((ps_mid S57).perm (List.Perm.cons _ List.perm_middle)).perm (List.Perm.swap _ _ _)
  refine ⟨_, _, _, _, _, _, _, _, rfl, S57.lit6 fun b107 w64 S64 => S64.newB fun b108 w65 S65 => pneedY S65 hu fun w66 S66 => ⟨rfl, S66.stX 0 rfl (S66.stEx 1 rfl fun w72 S72 => ⟨a, cap, K, hR, rfl, S72.drop 3⟩)⟩⟩
theorem pminus_ok (hx : XR f.query_parser_atom [] (t :: L) L' x Z) (hm : isB t ⟨#[45]⟩ = false) : XR f.query_parser_minus [] (t :: L) L' x Z := by
  intro w0 w H b E S
  apply R.query_parser_minus_calls
  unfold R.query_parser_minus
  refine S.newB fun b2 w1 S1 => ptakeN S1 hm fun w2 S2 => ⟨_, rfl, IFB_not (IFB_false ((hx E S2).mono ?_))⟩
  rintro _ w3 ⟨_, rfl, a, cap, K, hR, rfl, S3⟩
  exact ⟨_, _, _, _, _, _, _, _, rfl, (ps_mid S3).stEx 0 rfl fun w9 S9 => ⟨a, cap, K, hR, rfl, S9.drop 1⟩⟩
theorem pfront_ok {lv : Int} (hx : XR f.query_parser_minus [] (t :: L) L' x Z) (hn : isB t ⟨#[110, 111, 116]⟩ = false) : FR lv (t :: L) L' x 9 Z := by
  intro w0 w H b E S
  apply R.query_parser_front_calls
  unfold R.query_parser_front
  refine S.newB fun b3 w1 S1 => IFB_dec (fun _ => ptakeN S1 hn fun w2 S2 => ⟨_, rfl, IFB_false ((hx E S2).mono ?_)⟩) (fun _ => (hx E S1).mono ?_)
  · rintro _ w11 ⟨_, rfl, a, cap, K, hR, rfl, S3⟩
    exact ⟨_, _, _, _, _, _, _, _, rfl, (ps_mid S3).stEx 0 rfl fun w9 S9 => ⟨a, cap, K, hR, rfl, S9.drop 1⟩⟩
  · rintro _ w18 ⟨_, rfl, a, cap, K, hR, rfl, S3⟩
    exact ⟨_, _, _, _, _, _, _, _, rfl, (ps_mid S3).stEx 0 rfl fun w9 S9 => ⟨a, cap, K, hR, rfl, S9.drop 1⟩⟩
def isW : ByteArray := ⟨#[105, 115]⟩
theorem pexpr_end {lv own : Int} (hf : FR lv L (u :: L') x own Z) (hi : isB u isW = false) (hp : (powF u).1 < lv ∨ (powF u).1 = 0) : XR f.query_parser_expr [.int .i64 lv] L (u :: L') x Z := by
  intro w0 w H b E S
  apply R.query_parser_expr_calls
  unfold R.query_parser_expr
  refine S.newB fun b3 w1 S1 => (hf E S1).mono ?_
  rintro _ w2 ⟨_, rfl, a, cap, K, hR, rfl, S2⟩
  refine ⟨_, _, _, _, _, _, _, _, _, rfl, (ps_mid S2).lit6 fun b12 w9 S9 => ?_⟩
  have S9 : PS w0 w9 b (u :: L') (exI b12 (exHead x a cap) :: zex b3 :: (K ++ H)) := S9
  refine ⟨fun st w => st = [.int .i64 own] ∧ PS w0 w b (u :: L') (exI b12 (exHead x a cap) :: zex b3 :: (K ++ H)), fun _ _ => 0, ⟨rfl, S9⟩, ?_⟩
  rintro t w10 ⟨hst, S10⟩
  cases hst
  refine pisN S10 hi fun w11 S11 => ⟨_, rfl, IFB_false ((pnext_ok S11).mono ?_)⟩
  rintro _ w33 ⟨_, rfl, rfl, S33⟩
  refine ⟨_, _, _, rfl, S33.call (ppower_ok u) fun w34 S34 => ⟨_, _, rfl, fun _ _ => False, IFB_dec (fun _ => ?_) (fun hge => IFB_eq (fun _ => ?_) (fun hne => ?_)), fun _ h => h.elim⟩⟩
  · exact S34.stX 0 rfl (S34.stEx 1 rfl fun w40 S40 => ⟨a, cap, K, hR, rfl, S40.drop 2⟩)
  · exact S34.stX 0 rfl (S34.stEx 1 rfl fun w40 S40 => ⟨a, cap, K, hR, rfl, S40.drop 2⟩)
  · rcases hp with hp | hp
    · exact absurd hp hge
    · exact absurd hp hne
def opR (x y : Ex) (Rx Ry : Option Addr → Nat → List It → Prop) (a : Option Addr) (cap : Nat) (K : List It) : Prop :=
  ∃ k a0 c0 K0 a1 c1 K1, Rx a0 c0 K0 ∧ Ry a1 c1 K1 ∧ a = some ⟨k, 0, none⟩ ∧ cap = 2 ∧ K = It.cells k ⟨exHead x a0 c0 ++ exHead y a1 c1⟩ ty.api_Expr :: (K1 ++ K0)
theorem PS.sto6 {w0 w : World} {b : Nat} {H : List It} (S : PS w0 w b L H) (n : Nat) {b' : Nat} {x0 x1 x2 x3 x4 x5 v0 v1 v2 v3 v4 v5 : Value} {ty : TypeId} (hn : H[n]? = some (It.cells b' #[x0, x1, x2, x3, x4, x5] ty)) {k : World → Prop} (hk : ∀ w', PS w0 w' b L (H.set n (It.cells b' #[v0, v1, v2, v3, v4, v5] ty)) → k w') :
    STO ⟨b', 0, none⟩ v0 (fun w => STO ⟨b', 1, none⟩ v1 (fun w => STO ⟨b', 2, none⟩ v2 (fun w => STO ⟨b', 3, none⟩ v3 (fun w => STO ⟨b', 4, none⟩ v4 (fun w => STO ⟨b', 5, none⟩ v5 k w) w) w) w) w) w := by
  have hlt := (List.getElem?_eq_some_iff.1 hn).1
  have g : ∀ {x : It}, (H.set n x)[n]? = some x := List.getElem?_set_self hlt
  refine S.sto n hn (cs' := #[v0, x1, x2, x3, x4, x5]) (by simp) rfl fun w1 S1 => S1.sto n g (cs' := #[v0, v1, x2, x3, x4, x5]) (by simp) rfl fun w2 S2 => ?_
  rw [List.set_set] at S2
  refine S2.sto n g (cs' := #[v0, v1, v2, x3, x4, x5]) (by simp) rfl fun w3 S3 => ?_
  rw [List.set_set] at S3
  refine S3.sto n g (cs' := #[v0, v1, v2, v3, x4, x5]) (by simp) rfl fun w4 S4 => ?_
  rw [List.set_set] at S4
  refine S4.sto n g (cs' := #[v0, v1, v2, v3, v4, x5]) (by simp) rfl fun w5 S5 => ?_
  rw [List.set_set] at S5
  refine S5.sto n g (cs' := #[v0, v1, v2, v3, v4, v5]) (by simp) rfl fun w6 S6 => ?_
  rw [List.set_set] at S6
  exact hk w6 S6
theorem pexpr_op {lv m : Int} (hf : FR lv L (o :: L1) x 9 Rx) (hm : IntKind.i64.wrap ((powF o).1 + 1) = m) (hy : XR f.query_parser_expr [.int .i64 m] L1 (u :: L2) y Ry) (hio : isB o isW = false) (hlv : lv ≤ (powF o).1) (h1 : 6 ≤ (powF o).1) (h8 : (powF o).1 ≤ 8) (hi : isB u isW = false) (hp : (powF u).1 = 0) :
    XR f.query_parser_expr [.int .i64 lv] L (u :: L2) (.mk (powF o).2 E0 V0 [x, y]) (opR x y Rx Ry) := by
  intro w0 w H b E S
  apply R.query_parser_expr_calls
  unfold R.query_parser_expr
  refine S.newB fun b3 w1 S1 => (hf E S1).mono ?_
  rintro _ w2 ⟨_, rfl, a0, c0, K0, hRx, rfl, S2⟩
  refine ⟨_, _, _, _, _, _, _, _, _, rfl, (ps_mid S2).lit6 fun b12 w9 S9 => ?_⟩
  have S9 : PS w0 w9 b (o :: L1) (exI b12 (exHead x a0 c0) :: zex b3 :: (K0 ++ H)) := S9
  obtain ⟨X, hX⟩ : ∃ X, X = Ex.mk (powF o).2 E0 V0 [x, y] := ⟨_, rfl⟩
  rw [← hX]
  refine ⟨fun st w => (st = [.int .i64 9] ∧ PS w0 w b (o :: L1) (exI b12 (exHead x a0 c0) :: zex b3 :: (K0 ++ H))) ∨ (st = [.int .i64 (powF o).1] ∧ ∃ a cap K, opR x y Rx Ry a cap K ∧ PS w0 w b (u :: L2) (exI b12 (exHead X a cap) :: zex b3 :: (K ++ H))),
    fun st _ => match st with | [.int _ t] => if t = 9 then 1 else 0 | _ => 0, .inl ⟨rfl, S9⟩, ?_⟩
  rintro t w10 (⟨hst, S10⟩ | ⟨hst, a, cap, K, hR, S10⟩)
  · cases hst
    refine pisN S10 hio fun w11 S11 => ⟨_, rfl, IFB_false ((pnext_ok S11).mono ?_)⟩
    rintro _ w33 ⟨_, rfl, rfl, S33⟩
    refine ⟨_, _, _, rfl, S33.call (ppower_ok o) fun w34 S34 => ⟨_, _, rfl, fun _ w => PS w0 w b (o :: L1) (exI b12 (exHead x a0 c0) :: zex b3 :: (K0 ++ H)), IFB_dec (fun h => absurd h (by omega)) (fun _ => IFB_eq (fun h => absurd h (by omega)) (fun _ => IFB_dec (fun h => absurd h (by omega)) (fun _ => IFB_eq (fun h => absurd h (by omega)) (fun _ => S34)))), fun w59 S59 => (pskip_ok S59).mono ?_⟩⟩
    rintro _ w60 ⟨_, rfl, rfl, S60⟩
    refine ⟨_, _, _, rfl, S60.draw fun w61 S61 => S61.stX 0 rfl ?_⟩
    rw [hm]
    refine (hy E S61).mono ?_
    rintro _ w62 ⟨_, rfl, a1, c1, K1, hRy, rfl, S62⟩
    have S62 : PS w0 w62 b (u :: L2) (exI b12 (exHead x a0 c0) :: zex b3 :: (K1 ++ (K0 ++ H))) := (ps_mid S62).perm (List.Perm.cons _ List.perm_middle)
    refine ⟨_, _, _, _, _, _, _, _, rfl, ⟨S62.cell 0 rfl rfl, S62.cell 0 rfl rfl, S62.cell 0 rfl rfl, S62.cell 0 rfl rfl, S62.cell 0 rfl rfl, S62.cell 0 rfl rfl⟩, S62.newB fun k w63 S63 => S63.sto6 1 rfl fun w69 S69 => ⟨.inr ⟨rfl, some ⟨k, 0, none⟩, 2, It.cells k ⟨exHead x a0 c0 ++ exHead y a1 c1⟩ ty.api_Expr :: (K1 ++ K0), ⟨k, a0, c0, K0, a1, c1, K1, hRx, hRy, rfl, rfl, rfl⟩, ?_⟩, ?_⟩⟩
    · have S70 : PS w0 w69 b (u :: L2) (It.cells k ⟨exHead x a0 c0 ++ exHead y a1 c1⟩ ty.api_Expr :: exI b12 (exHead X (some ⟨k, 0, none⟩) 2) :: zex b3 :: (K1 ++ (K0 ++ H))) := by rw [hX]; exact S69
      rw [← List.append_assoc] at S70
      exact (S70.perm (List.Perm.swap _ _ _)).perm (List.Perm.cons _ (List.Perm.swap _ _ _))
    · show (if (powF o).1 = 9 then 1 else 0) < (if (9 : Int) = 9 then 1 else 0)
      rw [if_neg (by omega), if_pos rfl]
      decide
  · cases hst
    refine pisN S10 hi fun w11 S11 => ⟨_, rfl, IFB_false ((pnext_ok S11).mono ?_)⟩
    rintro _ w33 ⟨_, rfl, rfl, S33⟩
    refine ⟨_, _, _, rfl, S33.call (ppower_ok u) fun w34 S34 => ⟨_, _, rfl, fun _ _ => False, IFB_dec (fun _ => ?_) (fun hge => IFB_eq (fun _ => ?_) (fun hne => absurd hp hne)), fun _ h => h.elim⟩⟩
    · exact S34.stX 0 rfl (S34.stEx 1 rfl fun w40 S40 => ⟨a, cap, K, hR, rfl, S40.drop 2⟩)
    · exact S34.stX 0 rfl (S34.stEx 1 rfl fun w40 S40 => ⟨a, cap, K, hR, rfl, S40.drop 2⟩)
end
section
variable {w0 w : World} {b : Nat} {L L' : List Tk} {H : List It}
theorem PS.front (A : List It) {K : List It} (S : PS w0 w b L (K ++ (A ++ H))) : PS w0 w b L (A ++ (K ++ H)) := S.perm (List.perm_append_comm_assoc K A H)
theorem PS.ok (S : PS w0 w b L H) : ∀ it ∈ H, it.ok w := by
  obtain ⟨x, c, h1, h2, S⟩ := S
  exact fun it hi => S.ok it (List.mem_cons_of_mem _ (List.mem_cons_of_mem _ hi))
theorem PS.nil (S : PS w0 w b L H) (e : TypeId) (sz : Nat) : PS w0 w b L (It.row e sz none 0 0 [] :: H) := by
  obtain ⟨x, c, h1, h2, S⟩ := S
  exact ⟨x, c, h1, h2, ppL_in (S.nil e sz)⟩
theorem PS.rdc (S : PS w0 w b L H) (n : Nat) {b' : Nat} {cs : Array Value} {t : TypeId} (hn : H[n]? = some (It.cells b' cs t)) : Rd w (some ⟨b', 0, none⟩) cs.toList := by
  obtain ⟨x, c, h1, h2, S⟩ := S
  exact S.rdc (n + 2) hn
theorem PS.rw (S : PS w0 w b L H) (n : Nat) {e : TypeId} {sz : Nat} {a : Option Addr} {m c : Nat} {xs : List Value} (hn : H[n]? = some (It.row e sz a m c xs)) : Row w e sz a m c xs := by
  obtain ⟨x, c, h1, h2, S⟩ := S
  exact S.rw (n + 2) hn
theorem PS.app (S : PS w0 w b L H) (n : Nat) {P : Program} {t ty e : TypeId} {sz bytes : Nat} {z : Value} {a : Option Addr} {m c : Nat} {xs : List Value} (hn : H[n]? = some (It.row e sz a m c xs)) (hT : slT P t = some (e, sz, bytes, z)) (hz : z.cells.size = sz) (hsz : 0 < sz) (hb0 : 0 < bytes)
    {b2 : Option Addr} {mm mc : Nat} {news : List Value} (hs : Rd w b2 news) (hl : news.length = mm * sz) (h1 : ∀ u ∈ news, u.oneCell' = true) (hby : (m + mm) * bytes ≤ 140737488355328) {f : Value → World → Prop}
    (hf : ∀ a' c' w', PS w0 w' b L (H.set n (It.row e sz a' (m + mm) c' (xs ++ news))) → f (.slice a' (m + mm) c') w') : OPR P (Builtin.append_ #[t, t] ty #[.slice a m c, .slice b2 mm mc]) f w := by
  obtain ⟨x, cc, g1, g2, S⟩ := S
  exact S.app (n + 2) hn hT hz hsz hb0 hs hl h1 hby fun a' c' w' S' => hf a' c' w' ⟨x, cc, g1, g2, S'⟩
theorem PS.stoR (S : PS w0 w b L H) (n : Nat) {e : TypeId} {sz g m c : Nat} {xs : List Value} (hn : H[n]? = some (It.row e sz (some ⟨g, 0, none⟩) m c xs)) {j : Nat} (hj : j < m * sz) {v : Value} {k : World → Prop}
    (hk : ∀ w', PS w0 w' b L (H.set n (It.row e sz (some ⟨g, 0, none⟩) m c (xs.set j v))) → k w') : STO ⟨g, j, none⟩ v k w := by
  obtain ⟨x, cc, g1, g2, S⟩ := S
  exact S.stoR (n + 2) hn hj fun w' S' => hk w' ⟨x, cc, g1, g2, S'⟩
theorem PS.stoR6 (S : PS w0 w b L H) (n : Nat) {e : TypeId} {g c : Nat} {x0 x1 x2 x3 x4 x5 v0 v1 v2 v3 v4 v5 : Value} (hn : H[n]? = some (It.row e 6 (some ⟨g, 0, none⟩) 1 c [x0, x1, x2, x3, x4, x5])) {k : World → Prop}
    (hk : ∀ w', PS w0 w' b L (H.set n (It.row e 6 (some ⟨g, 0, none⟩) 1 c [v0, v1, v2, v3, v4, v5])) → k w') :
    STO ⟨g, 0, none⟩ v0 (fun w => STO ⟨g, 1, none⟩ v1 (fun w => STO ⟨g, 2, none⟩ v2 (fun w => STO ⟨g, 3, none⟩ v3 (fun w => STO ⟨g, 4, none⟩ v4 (fun w => STO ⟨g, 5, none⟩ v5 k w) w) w) w) w) w := by
  have hlt := (List.getElem?_eq_some_iff.1 hn).1
  have gg : ∀ {x : It}, (H.set n x)[n]? = some x := List.getElem?_set_self hlt
  refine S.stoR n hn (by omega) fun w1 S1 => S1.stoR n gg (by omega) fun w2 S2 => ?_
  rw [List.set_set] at S2
  refine S2.stoR n gg (by omega) fun w3 S3 => ?_
  rw [List.set_set] at S3
  refine S3.stoR n gg (by omega) fun w4 S4 => ?_
  rw [List.set_set] at S4
  refine S4.stoR n gg (by omega) fun w5 S5 => ?_
  rw [List.set_set] at S5
  refine S5.stoR n gg (by omega) fun w6 S6 => ?_
  rw [List.set_set] at S6
  exact hk w6 S6
theorem PS.sto8 (S : PS w0 w b L H) (n : Nat) {b' : Nat} {x0 x1 x2 x3 x4 x5 x6 x7 v0 v1 v2 v3 v4 v5 v6 v7 : Value} {t : TypeId} (hn : H[n]? = some (It.cells b' #[x0, x1, x2, x3, x4, x5, x6, x7] t)) {k : World → Prop} (hk : ∀ w', PS w0 w' b L (H.set n (It.cells b' #[v0, v1, v2, v3, v4, v5, v6, v7] t)) → k w') :
    STO ⟨b', 0, none⟩ v0 (fun w => STO ⟨b', 1, none⟩ v1 (fun w => STO ⟨b', 2, none⟩ v2 (fun w => STO ⟨b', 3, none⟩ v3 (fun w => STO ⟨b', 4, none⟩ v4 (fun w => STO ⟨b', 5, none⟩ v5 (fun w => STO ⟨b', 6, none⟩ v6 (fun w => STO ⟨b', 7, none⟩ v7 k w) w) w) w) w) w) w) w := by
  obtain ⟨x, cc, g1, g2, S⟩ := S
  exact S.sto8 (n + 2) hn fun w' S' => hk w' ⟨x, cc, g1, g2, S'⟩
theorem PS.stIx6 (S : PS w0 w b L H) (n : Nat) {b' : Nat} {x0 x1 x2 x3 x4 x5 x6 x7 v2 v3 v4 v5 v6 v7 : Value} {t : TypeId} (hn : H[n]? = some (It.cells b' #[x0, x1, x2, x3, x4, x5, x6, x7] t)) {k : World → Prop}
    (hk : ∀ w', PS w0 w' b L (H.set n (It.cells b' #[x0, x1, v2, v3, v4, v5, v6, v7] t)) → k w') :
    STO ⟨b', 2, none⟩ v2 (fun w => STO ⟨b', 3, none⟩ v3 (fun w => STO ⟨b', 4, none⟩ v4 (fun w => STO ⟨b', 5, none⟩ v5 (fun w => STO ⟨b', 6, none⟩ v6 (fun w => STO ⟨b', 7, none⟩ v7 k w) w) w) w) w) w := by
  obtain ⟨x, cc, g1, g2, S⟩ := S
  exact Go.Proofs.YtbpdfpfgijhokaaGreatDoor.stIx6 S (n + 2) hn fun w' S' => hk w' ⟨x, cc, g1, g2, S'⟩
theorem PS.stI (S : PS w0 w b L H) (n : Nat) {b' : Nat} {i : Itm} {a : Option Addr} {cap : Nat} (hn : H[n]? = some (itI b' i a cap)) {Q : ByteArray → Int → Int → ByteArray → Int → Int → ByteArray → Option Addr → Nat → Nat → Prop} (hq : Q i.1 i.2.1 i.2.2.op i.2.2.nm i.2.2.v.1 i.2.2.v.2.1 i.2.2.v.2.2 a i.2.2.ks.length cap) :
    ∃ t0 : ByteArray, w.cell? ⟨b', 0, none⟩ = some (.string t0) ∧ ∃ t1 : Int, w.cell? ⟨b', 1, none⟩ = some (.int .i64 t1) ∧ ∃ t2 : Int, w.cell? ⟨b', 2, none⟩ = some (.int .i64 t2) ∧ ∃ t3 : ByteArray, w.cell? ⟨b', 3, none⟩ = some (.string t3) ∧ ∃ t4 : Int, w.cell? ⟨b', 4, none⟩ = some (.int .i64 t4) ∧ ∃ t5 : Int, w.cell? ⟨b', 5, none⟩ = some (.int .i64 t5) ∧ ∃ t6 : ByteArray, w.cell? ⟨b', 6, none⟩ = some (.string t6) ∧
      ∃ (t7 : Option Addr) (l c : Nat), w.cell? ⟨b', 7, none⟩ = some (.slice t7 l c) ∧ Q t0 t1 t2 t3 t4 t5 t6 t7 l c := by
  obtain ⟨x, cc, g1, g2, S⟩ := S
  exact Go.Proofs.YtbpdfpfgijhokaaGreatDoor.stI S (n + 2) hn hq
theorem PS.stItm (S : PS w0 w b L H) (n : Nat) {b' : Nat} {x0 x1 x2 x3 x4 x5 x6 x7 : Value} {t1 t2 t4 t5 : Int} {t0 t3 t6 : ByteArray} {a7 : Option Addr} {l7 c7 : Nat} {t : TypeId} (hn : H[n]? = some (It.cells b' #[x0, x1, x2, x3, x4, x5, x6, x7] t)) {Q : ByteArray → Int → Int → ByteArray → Int → Int → ByteArray → Option Addr → Nat → Nat → World → Prop}
    (hk : ∀ w', PS w0 w' b L (H.set n (It.cells b' #[.string t0, .int .i64 t1, .int .i64 t2, .string t3, .int .i64 t4, .int .i64 t5, .string t6, .slice a7 l7 c7] t)) → Q t0 t1 t2 t3 t4 t5 t6 a7 l7 c7 w') :
    STO ⟨b', 0, none⟩ (.string t0) (fun w => STO ⟨b', 1, none⟩ (.int .i64 t1) (fun w => STO ⟨b', 2, none⟩ (.int .i64 t2) (fun w => STO ⟨b', 3, none⟩ (.string t3) (fun w => STO ⟨b', 4, none⟩ (.int .i64 t4) (fun w => STO ⟨b', 5, none⟩ (.int .i64 t5) (fun w => STO ⟨b', 6, none⟩ (.string t6) (fun w => STO ⟨b', 7, none⟩ (.slice a7 l7 c7) (fun w =>
      ∃ r0 : ByteArray, w.cell? ⟨b', 0, none⟩ = some (.string r0) ∧ ∃ r1 : Int, w.cell? ⟨b', 1, none⟩ = some (.int .i64 r1) ∧ ∃ r2 : Int, w.cell? ⟨b', 2, none⟩ = some (.int .i64 r2) ∧ ∃ r3 : ByteArray, w.cell? ⟨b', 3, none⟩ = some (.string r3) ∧ ∃ r4 : Int, w.cell? ⟨b', 4, none⟩ = some (.int .i64 r4) ∧ ∃ r5 : Int, w.cell? ⟨b', 5, none⟩ = some (.int .i64 r5) ∧ ∃ r6 : ByteArray, w.cell? ⟨b', 6, none⟩ = some (.string r6) ∧
      ∃ (r7 : Option Addr) (l c : Nat), w.cell? ⟨b', 7, none⟩ = some (.slice r7 l c) ∧ Q r0 r1 r2 r3 r4 r5 r6 r7 l c w) w) w) w) w) w) w) w) w := by
  obtain ⟨x, cc, g1, g2, S⟩ := S
  exact Go.Proofs.YtbpdfpfgijhokaaGreatDoor.stItm S (n + 2) hn fun w' S' => hk w' ⟨x, cc, g1, g2, S'⟩
/-! ### what is led to is an expression -/
def RX (x : Ex) (Z : Option Addr → Nat → List It → Prop) : Prop := ∀ {w : World} {a : Option Addr} {cap : Nat} {K : List It}, Z a cap K → (∀ it ∈ K, it.ok w) → XC w x (exHead x a cap)
theorem rx_leaf {op : Int} {s : ByteArray} {v : Val} (h1 : i64 op) (h2 : s.size ≤ maxLen) (h3 : i64 v.1) (h4 : i64 v.2.1) (h5 : v.2.2.size ≤ maxLen) : RX (.mk op s v []) leafR := by
  rintro w a cap K ⟨rfl, rfl, rfl⟩ _
  exact ExC.close (rs := []) (Rd.nil _ _) (by simp) (Nat.le_refl _) (by decide) (fun _ => rfl) ⟨h1, h2, h3, h4, h5⟩ ExL.nil
theorem rx_op {op : Int} {x y : Ex} {Rx Ry : Option Addr → Nat → List It → Prop} (hop : i64 op) (hx : RX x Rx) (hy : RX y Ry) : RX (.mk op E0 V0 [x, y]) (opR x y Rx Ry) := by
  rintro w a cap K ⟨k, a0, c0, K0, a1, c1, K1, h0, h1, rfl, rfl, rfl⟩ hok
  have hk : w.heap[k]? = some (.cells ⟨exHead x a0 c0 ++ exHead y a1 c1⟩ ty.api_Expr (0, 0)) := hok (It.cells k ⟨exHead x a0 c0 ++ exHead y a1 c1⟩ ty.api_Expr) (by simp)
  have g0 := hx h0 fun it hi => hok it (by simp [hi])
  have g1 := hy h1 fun it hi => hok it (by simp [hi])
  exact ExC.close (rs := exHead x a0 c0 ++ exHead y a1 c1) (Rd.of_block0 hk) (by simp) (Nat.le_refl _) (by decide) (fun h => by cases h) ⟨hop, by show E0.size ≤ maxLen; decide, ⟨by show -9223372036854775808 ≤ (0 : Int); decide, by show (0 : Int) ≤ 9223372036854775807; decide⟩, ⟨by show -9223372036854775808 ≤ (0 : Int); decide, by show (0 : Int) ≤ 9223372036854775807; decide⟩, by show E0.size ≤ maxLen; decide⟩ (rowsC_exL.1 (RowsC.append (RowsC.one g0) (RowsC.one g1)))
/-! ### an item that sums -/
theorem gat_at (E : Env w) {j : Nat} {v : Value} (h : gatherCells[j]? = some v) : w.cell? ⟨0, j, none⟩ = some v := by
  obtain ⟨p, hp, hc⟩ := E.gat j v h
  cases hp
  rw [addr_add_blk, Nat.zero_add] at hc
  exact hc
def sumW : ByteArray := ⟨#[115, 117, 109]⟩
theorem pgather_ok (E : Env w) : Calls Tryz.prog f.query_gathering #[.string sumW] w (Ret fun r w' => r = .int .i64 3 ∧ w' = w) := by
  apply R.query_gathering_calls
  unfold R.query_gathering
  refine ⟨_, gat_at E (j := 0) rfl, _, gat_at E (j := 1) rfl, _, gat_at E (j := 2) rfl, _, gat_at E (j := 3) rfl, _, gat_at E (j := 4) rfl, _, gat_at E (j := 5) rfl, forUp 6 (fun j w' => j ≤ 3 ∧ w' = w) (by omega) ⟨by omega, rfl⟩ fun I M j w1 hj h next => ?_⟩
  obtain ⟨hj3, rfl⟩ := h
  refine IFB_dec (fun hlt => ⟨⟨by omega, hlt⟩, ?_⟩) (fun hge => by omega)
  rcases (show j = 0 ∨ j = 1 ∨ j = 2 ∨ j = 3 by omega) with rfl | rfl | rfl | rfl
  · exact ⟨_, rfl, IFB_dec (fun h => absurd h (by decide)) (fun _ => next _ (by omega) ⟨by omega, rfl⟩)⟩
  · exact ⟨_, rfl, IFB_dec (fun h => absurd h (by decide)) (fun _ => next _ (by omega) ⟨by omega, rfl⟩)⟩
  · exact ⟨_, rfl, IFB_dec (fun _ => IFB_no (by rw [bytesEq_iff]; decide) (next _ (by omega) ⟨by omega, rfl⟩)) (fun h => absurd h (by decide))⟩
  · exact ⟨_, rfl, IFB_dec (fun _ => IFB_yes (by rw [bytesEq_iff]; decide) ⟨rfl, rfl⟩) (fun h => absurd h (by decide))⟩
def IR (L L' : List Tk) (i : Itm) (Z : Option Addr → Nat → List It → Prop) : Prop :=
  ∀ {w0 w : World} {H : List It} {b : Nat}, Env w0 → PS w0 w b L H → Calls Tryz.prog f.query_parser_item #[.pointer (some ⟨b, 0, none⟩)] w (Ret fun r w' => ∃ a cap K, Z a cap K ∧ r = .agg ⟨itHead i a cap⟩ ∧ PS w0 w' b L' (K ++ H))
end
theorem pitem_ok {g o cl s nm : Tk} {L1 L2 : List Tk} {x : Ex} {Z : Option Addr → Nat → List It → Prop} (hg : g.2.1 = 1) (hg2 : g.2.2 = sumW) (ho : isB o ⟨#[40]⟩ = true) (hx : XR f.query_parser_expr [.int .i64 1] L1 (cl :: s :: nm :: L2) x Z) (hc : isB cl ⟨#[41]⟩ = true) (hs : isB s asW = true) (h1 : nm.2.1 = 1) (h2 : isKeyB nm.2.2 = false) :
    IR (g :: o :: L1) L2 (nm.2.2, 3, x) Z := by
  intro w0 w H b E S
  apply R.query_parser_item_calls
  unfold R.query_parser_item
  refine S.newB fun b2 w1 S1 => S1.newB fun b3 w2 S2 => S2.sto8 0 rfl fun w10 S10 => ?_
  have S10 : PS w0 w10 b (g :: o :: L1) (It.cells b3 #[.string E0, .int .i64 0, .int .i64 0, .string E0, .int .i64 0, .int .i64 0, .string E0, .slice none 0 0] ty.api_Item :: It.cells b2 #[.string E0, .int .i64 0, .int .i64 0, .string E0, .int .i64 0, .int .i64 0, .string E0, .slice none 0 0] ty.api_Item :: H) := S10
  refine ⟨fun st w => st = [.int .i64 3] ∧ PS w0 w b (g :: o :: L1) (It.cells b3 #[.string E0, .int .i64 0, .int .i64 0, .string E0, .int .i64 0, .int .i64 0, .string E0, .slice none 0 0] ty.api_Item :: It.cells b2 #[.string E0, .int .i64 0, .int .i64 0, .string E0, .int .i64 0, .int .i64 0, .string E0, .slice none 0 0] ty.api_Item :: H), (pnext_ok S10).mono ?_, ?_⟩
  · rintro _ w11 ⟨_, rfl, rfl, S11⟩
    refine ⟨_, _, _, rfl, S11.lit3 fun b8 w15 S15 => ⟨_, S15.cell 0 rfl rfl, IFB_eq (fun _ => ⟨_, S15.cell 0 rfl rfl, ?_⟩) (fun h => absurd hg h)⟩⟩
    rw [hg2]
    exact call0 (pgather_ok (E.grown S15.bel)) ⟨_, rfl, rfl, S15.drop 1⟩
  rintro _ w17 ⟨hst, S17⟩
  cases hst
  refine ⟨fun _ w => ∃ a cap K, Z a cap K ∧ PS w0 w b (s :: nm :: L2) (itI b3 (E0, 3, x) a cap :: It.cells b2 #[.string E0, .int .i64 0, .int .i64 0, .string E0, .int .i64 0, .int .i64 0, .string E0, .slice none 0 0] ty.api_Item :: (K ++ H)), IFB_eq (fun h => by cases h) (fun _ => (pskip_ok S17).mono ?_), ?_⟩
  · rintro _ w25 ⟨_, rfl, rfl, S25⟩
    refine ⟨_, _, _, rfl, S25.newB fun b26 w26 S26 => pneedY S26 ho fun w27 S27 => ⟨rfl, S27.sto 0 rfl (cs' := #[.string E0, .int .i64 3, .int .i64 0, .string E0, .int .i64 0, .int .i64 0, .string E0, .slice none 0 0]) (by show 1 < 8; omega) rfl fun w28 S28 => IFB_eq (fun h => by cases h) (fun _ => (hx E S28).mono ?_)⟩⟩
    rintro _ w42 ⟨_, rfl, a, cap, K, hR, rfl, S42⟩
    have S42 := PS.front [It.cells b3 #[.string E0, .int .i64 3, .int .i64 0, .string E0, .int .i64 0, .int .i64 0, .string E0, .slice none 0 0] ty.api_Item, It.cells b2 #[.string E0, .int .i64 0, .int .i64 0, .string E0, .int .i64 0, .int .i64 0, .string E0, .slice none 0 0] ty.api_Item] S42
    exact ⟨_, _, _, _, _, _, _, _, rfl, S42.stIx6 0 rfl fun w48 S48 => S48.newB fun b48 w49 S49 => pneedY S49 hc fun w50 S50 => ⟨rfl, a, cap, K, hR, S50⟩⟩
  rintro w51 ⟨a, cap, K, hR, S51⟩
  refine S51.newB fun b51 w52 S52 => pneedY S52 hs fun w53 S53 => ⟨rfl, pnameY E S53 h1 h2 fun w54 S54 => ⟨_, rfl, S54.sto 0 rfl (cs' := ⟨itHead (nm.2.2, 3, x) a cap⟩) (by show 0 < 8; omega) rfl fun w55 S55 => ?_⟩⟩
  have S55 : PS w0 w55 b L2 (itI b3 (nm.2.2, 3, x) a cap :: It.cells b2 #[.string E0, .int .i64 0, .int .i64 0, .string E0, .int .i64 0, .int .i64 0, .string E0, .slice none 0 0] ty.api_Item :: (K ++ H)) := S55
  exact S55.stI 0 rfl (S55.stItm 1 rfl fun w63 S63 => ⟨a, cap, K, hR, rfl, S63.drop 2⟩)
/-! ### lists of one -/
theorem plist_one {w0 w : World} {b : Nat} {u : Tk} {L : List Tk} {fr : FuncId} {c0 c1 : Value} (he : enters Tryz.prog fr = true) (hu : isB u ⟨#[44]⟩ = false) {Q : World → Prop} (hr : Calls Tryz.prog fr #[c0, c1] w (Ret fun v w' => v = .tuple #[] ∧ ∃ H', PS w0 w' b (u :: L) H' ∧ ∀ w'', PS w0 w'' b (u :: L) H' → Q w'')) :
    Calls Tryz.prog f.query_parser_list #[.pointer (some ⟨b, 0, none⟩), .func (.func fr) #[] #[c0, c1]] w (Ret fun v w' => v = .tuple #[] ∧ Q w') := by
  apply R.query_parser_list_calls
  unfold R.query_parser_list
  simp only [he, cond_true]
  refine Calls.mono (R := Ret fun v w' => v = .tuple #[] ∧ ∃ H', PS w0 w' b (u :: L) H' ∧ ∀ w'', PS w0 w'' b (u :: L) H' → Q w'') hr ?_
  rintro _ w1 ⟨_, rfl, rfl, H', S1, hQ⟩
  refine ⟨rfl, fun _ w => PS w0 w b (u :: L) H', fun _ _ => 0, S1, fun w2 S2 => ptakeN S2 hu fun w3 S3 => ⟨_, rfl, IFB_false ⟨trivial, hQ _ S3⟩⟩⟩
def zKey : Value := .agg #[.int .i64 0, .bool false]
theorem tKeys : slT Tryz.prog ty.L_api_Key = some (ty.api_Key, 2, 16, zKey) := by kernel_rfl
abbrev keysI (a : Option Addr) (n c : Nat) (rs : List Value) : It := It.row ty.api_Key 2 a n c rs
abbrev QA (ai : Option Addr) (ni ci : Nat) (rs : List Value) (ag : Option Addr) (ng cg : Nat) (gs : List Value) (ao : Option Addr) (no co : Nat) (os : List Value) (b4 b2 b b3 : Nat) : List It :=
  [itemsI ai ni ci rs, exsI ag ng cg gs, keysI ao no co os, It.cells b4 #[.slice ai ni ci, .slice none 0 0, .slice ag ng cg, .slice ao no co, .int .i64 (-1)] ty.api_Query, It.cells b2 #[.pointer (some ⟨b, 0, none⟩)] ty.P_query_parser, zqb b3]
theorem pc1_ok {w0 w : World} {b b2 b3 b4 : Nat} {L L' : List Tk} {H : List It} {i : Itm} {Z : Option Addr → Nat → List It → Prop} {ag : Option Addr} {ng cg : Nat} {gs : List Value} {ao : Option Addr} {no co : Nat} {os : List Value} (E : Env w0) (hI : IR L L' i Z) (S : PS w0 w b L (QA none 0 0 [] ag ng cg gs ao no co os b4 b2 b b3 ++ H)) :
    Calls Tryz.prog f.query_parser_query_c1 #[.pointer (some ⟨b4, 0, none⟩), .pointer (some ⟨b2, 0, none⟩)] w (Ret fun v w' => v = .tuple #[] ∧ ∃ a cap K a1 c1, Z a cap K ∧ PS w0 w' b L' (QA a1 1 c1 (itHead i a cap) ag ng cg gs ao no co os b4 b2 b b3 ++ (K ++ H))) := by
  apply R.query_parser_query_c1_calls
  unfold R.query_parser_query_c1
  refine S.draw fun w1 S1 => ⟨_, _, _, S1.cell 3 rfl rfl, _, S1.cell 4 rfl rfl, (hI E S1).mono ?_⟩
  rintro _ w2 ⟨_, rfl, a, cap, K, hR, rfl, S2⟩
  have S2 := PS.front (QA none 0 0 [] ag ng cg gs ao no co os b4 b2 b b3) S2
  refine ⟨_, _, _, _, _, _, _, _, _, _, rfl, S2.cell 3 rfl rfl, S2.newB fun b14 w3 S3 => ⟨S3.cell 4 rfl rfl, ?_⟩⟩
  refine S3.app 1 rfl tItems rfl (by omega) (by omega) (S3.rdc 0 rfl) (mm := 1) rfl (it_one i a cap) (by omega) fun a1 c1 w4 S4 => ⟨_, _, _, rfl, S4.sto 4 rfl (cs' := #[.slice a1 1 c1, .slice none 0 0, .slice ag ng cg, .slice ao no co, .int .i64 (-1)]) (by simp) rfl fun w5 S5 => ⟨rfl, a, cap, K, a1, c1, hR, S5.drop 1⟩⟩
theorem pc2_ok {w0 w : World} {b b2 b3 b4 : Nat} {L L' : List Tk} {H : List It} {x : Ex} {ai : Option Addr} {ni ci : Nat} {rs : List Value} {ao : Option Addr} {no co : Nat} {os : List Value} (E : Env w0) (hX : XR f.query_parser_expr [.int .i64 1] L L' x leafR) (S : PS w0 w b L (QA ai ni ci rs none 0 0 [] ao no co os b4 b2 b b3 ++ H)) :
    Calls Tryz.prog f.query_parser_query_c2 #[.pointer (some ⟨b4, 0, none⟩), .pointer (some ⟨b2, 0, none⟩)] w (Ret fun v w' => v = .tuple #[] ∧ ∃ a1 c1, PS w0 w' b L' (QA ai ni ci rs a1 1 c1 (exHead x none 0) ao no co os b4 b2 b b3 ++ H)) := by
  apply R.query_parser_query_c2_calls
  unfold R.query_parser_query_c2
  refine S.draw fun w1 S1 => ⟨_, _, _, S1.cell 3 rfl rfl, _, S1.cell 4 rfl rfl, (hX E S1).mono ?_, S1.newB fun b16 w19 S19 => ⟨S19.cell 5 rfl rfl, S19.cell 4 rfl rfl, (hX E S19).mono ?_⟩⟩
  · rintro _ w2 ⟨_, rfl, _, _, _, ⟨rfl, rfl, rfl⟩, rfl, S2⟩
    refine ⟨_, _, _, _, _, _, _, _, rfl, S2.cell 3 rfl rfl, S2.newB fun b12 w3 S3 => ⟨S3.cell 4 rfl rfl, ?_⟩⟩
    refine S3.app 2 rfl tExs rfl (by omega) (by omega) (S3.rdc 0 rfl) (mm := 1) rfl (ex_one (.mk 0 E0 V0 []) none 0) (by omega) fun a1 c1 w4 S4 => ⟨_, _, _, rfl, ⟨by omega, by decide⟩, ?_⟩
    have hrow := S4.rw 2 rfl
    rcases hrow with ⟨_, ⟨_, h0, _⟩ | ⟨g, cur, rfl, _⟩⟩
    · cases h0
    refine PTR_i ⟨S4.stoR6 2 rfl fun w10 S10 => S10.sto 4 rfl (cs' := #[.slice ai ni ci, .slice none 0 0, .slice (some ⟨g, 0, none⟩) 1 c1, .slice ao no co, .int .i64 (-1)]) (by simp) rfl fun w11 S11 => ⟨rfl, _, c1, S11.drop 1⟩, S4.sto 4 rfl (cs' := #[.slice ai ni ci, .slice none 0 0, .slice (some ⟨g, 0, none⟩) 1 c1, .slice ao no co, .int .i64 (-1)]) (by simp) rfl fun w12 S12 => S12.stoR6 2 rfl fun w18 S18 => ⟨rfl, _, c1, S18.drop 1⟩⟩
  · rintro _ w20 ⟨_, rfl, _, _, _, ⟨rfl, rfl, rfl⟩, rfl, S2⟩
    refine ⟨_, _, _, _, _, _, _, _, rfl, S2.cell 4 rfl rfl, ?_⟩
    refine PS.app S2 2 rfl tExs rfl (by omega) (by omega) (S2.rdc 0 rfl) (mm := 1) rfl (ex_one (.mk 0 E0 V0 []) none 0) (by omega) fun a1 c1 w4 S4 => ⟨_, _, _, rfl, ⟨by omega, by decide⟩, ?_⟩
    have hrow := S4.rw 2 rfl
    rcases hrow with ⟨_, ⟨_, h0, _⟩ | ⟨g, cur, rfl, _⟩⟩
    · cases h0
    refine PTR_i ⟨S4.stoR6 2 rfl fun w10 S10 => S10.sto 4 rfl (cs' := #[.slice ai ni ci, .slice none 0 0, .slice (some ⟨g, 0, none⟩) 1 c1, .slice ao no co, .int .i64 (-1)]) (by simp) rfl fun w11 S11 => ⟨rfl, _, c1, S11.drop 1⟩, S4.sto 4 rfl (cs' := #[.slice ai ni ci, .slice none 0 0, .slice (some ⟨g, 0, none⟩) 1 c1, .slice ao no co, .int .i64 (-1)]) (by simp) rfl fun w12 S12 => S12.stoR6 2 rfl fun w18 S18 => ⟨rfl, _, c1, S18.drop 1⟩⟩
def descW : ByteArray := ⟨#[100, 101, 115, 99]⟩
theorem pc3_ok {w0 w : World} {b b2 b3 b4 : Nat} {nm d : Tk} {L : List Tk} {H K : List It} {i : Itm} {a : Option Addr} {cap : Nat} {ai : Option Addr} {ci : Nat} {ag : Option Addr} {ng cg : Nat} {gs : List Value} (E : Env w0) (h1 : nm.2.1 = 1) (h2 : isKeyB nm.2.2 = false) (hd : isB d descW = true) (hp : placeOf [i] nm.2.2 = some 0)
    (hC : ∀ {w' : World}, (∀ it ∈ K, it.ok w') → ItC (fun _ => False) w' i (itHead i a cap)) (S : PS w0 w b (nm :: d :: L) (QA ai 1 ci (itHead i a cap) ag ng cg gs none 0 0 [] b4 b2 b b3 ++ (K ++ H))) :
    Calls Tryz.prog f.query_parser_query_c3 #[.pointer (some ⟨b4, 0, none⟩), .pointer (some ⟨b2, 0, none⟩)] w (Ret fun v w' => v = .tuple #[] ∧ ∃ a1 c1, PS w0 w' b L (QA ai 1 ci (itHead i a cap) ag ng cg gs a1 1 c1 [.int .i64 0, .bool true] b4 b2 b b3 ++ (K ++ H))) := by
  have pl : ∀ {w' : World} {L' : List Tk} (n : Nat) {H' : List It} (S : PS w0 w' b L' H') (hn : H'[n]? = some (itemsI ai 1 ci (itHead i a cap))) (hk : ∀ it ∈ K, it ∈ H') {Q : Ending → World → Prop} (hQ : ∀ w'', PS w0 w'' b L' H' → Q (.returned (.int .i64 0)) w''), Calls Tryz.prog f.query_place #[.slice ai 1 ci, .string nm.2.2] w' Q := by
    intro w' L' n H' S hn hk Q hQ
    refine (query_place_ok (l := [i]) (S.rw n hn).rd (RowsC.one (hC fun it hi => S.ok it (hk it hi))) (by show 1 ≤ 9223372036854775807; decide) nm.2.2).mono ?_
    rintro _ w'' ⟨_, rfl, rfl, B⟩
    rw [hp]
    exact hQ w'' (S.grown B)
  have hmem : ∀ (A : List It), ∀ it ∈ K, it ∈ A ++ (K ++ H) := fun A it hi => by simp [hi]
  apply R.query_parser_query_c3_calls
  unfold R.query_parser_query_c3
  refine ⟨fun st w => ∃ b9, st = [.pointer (some ⟨b9, 0, none⟩)] ∧ PS w0 w b (d :: L) (It.cells b9 #[.int .i64 0, .bool false] ty.api_Key :: (QA ai 1 ci (itHead i a cap) ag ng cg gs none 0 0 [] b4 b2 b b3 ++ (K ++ H))),
    S.draw fun w1 S1 => ⟨_, _, _, S1.cell 3 rfl rfl, _, S1.cell 4 rfl rfl, pnameY E S1 h1 h2 fun w2 S2 => ⟨_, rfl, S2.cell 3 rfl rfl, pl 0 S2 rfl (hmem _) fun w3 S3 => ⟨_, rfl, S3.newB fun b9 w4 S4 => S4.sto 0 rfl (cs' := #[.int .i64 0, .bool false]) (by simp) rfl fun w5 S5 => S5.sto 0 rfl (cs' := #[.int .i64 0, .bool false]) (by simp) rfl fun w6 S6 => ⟨b9, rfl, S6⟩⟩,
      S2.newB fun b10 w7 S7 => ⟨S7.cell 4 rfl rfl, pl 1 S7 rfl (fun it hi => List.mem_cons_of_mem _ (hmem _ it hi)) fun w8 S8 => ⟨_, rfl, S8.sto 0 rfl (cs' := #[.int .i64 0, .bool false]) (by simp) rfl fun w9 S9 => S9.sto 0 rfl (cs' := #[.int .i64 0, .bool false]) (by simp) rfl fun w10 S10 => ⟨b10, rfl, S10⟩⟩⟩⟩,
      S1.newB fun b13 w11 S11 => ⟨S11.cell 5 rfl rfl, S11.cell 4 rfl rfl, pnameY E S11 h1 h2 fun w12 S12 => ⟨_, rfl, S12.cell 4 rfl rfl, pl 1 S12 rfl (fun it hi => List.mem_cons_of_mem _ (hmem _ it hi)) fun w13 S13 => ⟨_, rfl, S13.sto 0 rfl (cs' := #[.int .i64 0, .bool false]) (by simp) rfl fun w14 S14 => S14.sto 0 rfl (cs' := #[.int .i64 0, .bool false]) (by simp) rfl fun w15 S15 => ⟨b13, rfl, S15⟩⟩⟩⟩⟩, ?_⟩
  rintro k w16 ⟨b9, hst, S16⟩
  obtain rfl : k = some ⟨b9, 0, none⟩ := by simpa using hst
  refine ⟨_, S16.cell 5 rfl rfl, ptakeY S16 hd fun w17 S17 => ⟨_, rfl, PTR_i (S17.sto 0 rfl (i := 1) (cs' := #[.int .i64 0, .bool true]) (by simp) rfl fun w18 S18 => ⟨_, _, _, S18.cell 4 rfl rfl, PTR_i ⟨_, S18.cell 0 rfl rfl, _, S18.cell 0 rfl rfl, S18.newB fun b28 w19 S19 => ?_⟩⟩)⟩⟩
  refine S19.app 4 rfl tKeys rfl (by omega) (by omega) (S19.rdc 0 rfl) (mm := 1) rfl (by intro u hu; simp at hu; rcases hu with rfl | rfl <;> rfl) (by omega) fun a1 c1 w20 S20 => ⟨_, _, _, rfl, S20.sto 5 rfl (cs' := #[.slice ai 1 ci, .slice none 0 0, .slice ag ng cg, .slice a1 1 c1, .int .i64 (-1)]) (by simp) rfl fun w21 S21 => ⟨rfl, a1, c1, S21.drop 2⟩⟩
/-! ### one text -/
def kSel : Tk := (0, 1, ⟨#[115, 101, 108, 101, 99, 116]⟩)
def kSum : Tk := (7, 1, ⟨#[115, 117, 109]⟩)
def kO1 : Tk := (10, 4, ⟨#[40]⟩)
def kA : Tk := (12, 1, ⟨#[97]⟩)
def kStar : Tk := (13, 4, ⟨#[42]⟩)
def kO2 : Tk := (14, 4, ⟨#[40]⟩)
def kB : Tk := (15, 1, ⟨#[98]⟩)
def kPlus : Tk := (16, 4, ⟨#[43]⟩)
def kOne : Tk := (17, 2, ⟨#[49]⟩)
def kC1 : Tk := (18, 4, ⟨#[41]⟩)
def kC2 : Tk := (20, 4, ⟨#[41]⟩)
def kAs : Tk := (22, 1, ⟨#[97, 115]⟩)
def kS : Tk := (25, 1, ⟨#[115]⟩)
def kGroup : Tk := (27, 1, ⟨#[103, 114, 111, 117, 112]⟩)
def kBy : Tk := (33, 1, ⟨#[98, 121]⟩)
def kC : Tk := (36, 1, ⟨#[99]⟩)
def kOrder : Tk := (38, 1, ⟨#[111, 114, 100, 101, 114]⟩)
def kBy2 : Tk := (44, 1, ⟨#[98, 121]⟩)
def kS2 : Tk := (47, 1, ⟨#[115]⟩)
def kDesc : Tk := (49, 1, ⟨#[100, 101, 115, 99]⟩)
def kEnd : Tk := (53, 0, E0)
def T1 : List Tk := [kSel, kSum, kO1, kA, kStar, kO2, kB, kPlus, kOne, kC1, kC2, kAs, kS, kGroup, kBy, kC, kOrder, kBy2, kS2, kDesc, kEnd]
def eSum : Ex := .mk 3 E0 V0 [colX ⟨#[98]⟩, numX 1]
def eMul : Ex := .mk 5 E0 V0 [colX ⟨#[97]⟩, eSum]
def iS : Itm := (⟨#[115]⟩, 3, eMul)
def Q1 : Qu := ⟨[iS], [], [colX ⟨#[99]⟩], [(0, true)], -1⟩
def sumR := opR (colX ⟨#[98]⟩) (numX 1) leafR leafR
def mulR := opR (colX ⟨#[97]⟩) eSum leafR sumR
theorem pn_a : PName kA := ⟨rfl, by decide, show ∀ s ∈ headW, isB kA s = false by decide⟩
theorem pn_b : PName kB := ⟨rfl, by decide, show ∀ s ∈ headW, isB kB s = false by decide⟩
theorem pn_c : PName kC := ⟨rfl, by decide, show ∀ s ∈ headW, isB kC s = false by decide⟩
section
variable {L : List Tk}
theorem rd_sum (hp : ∀ {w : World}, Calls Tryz.prog f.query_plain #[.string kOne.2.2] w (Ret fun r w' => r = .string kOne.2.2 ∧ Below w.heap.size w w')) (hc : ∀ {w : World}, Env w → Calls Tryz.prog f.query_constant #[.string kOne.2.2] w (Ret fun r w' => r = .agg ⟨exHead (numX 1) none 0⟩ ∧ Below w.heap.size w w')) :
    XR f.query_parser_expr [.int .i64 1] (kB :: kPlus :: kOne :: kC1 :: L) (kC1 :: L) eSum sumR :=
  pexpr_op (o := kPlus) (m := 7) (pfront_ok (pminus_ok (patom_name pn_b) (by decide)) (by decide)) (by decide) (pexpr_end (pfront_ok (pminus_ok (patom_num rfl hp hc) (by decide)) (by decide)) (by decide) (.inr (by decide))) (by decide) (by decide) (by decide) (by decide) (by decide) (by decide)
theorem rd_mul (hp : ∀ {w : World}, Calls Tryz.prog f.query_plain #[.string kOne.2.2] w (Ret fun r w' => r = .string kOne.2.2 ∧ Below w.heap.size w w')) (hc : ∀ {w : World}, Env w → Calls Tryz.prog f.query_constant #[.string kOne.2.2] w (Ret fun r w' => r = .agg ⟨exHead (numX 1) none 0⟩ ∧ Below w.heap.size w w')) :
    XR f.query_parser_expr [.int .i64 1] (kA :: kStar :: kO2 :: kB :: kPlus :: kOne :: kC1 :: kC2 :: L) (kC2 :: L) eMul mulR :=
  pexpr_op (o := kStar) (m := 8) (pfront_ok (pminus_ok (patom_name pn_a) (by decide)) (by decide)) (by decide) (pexpr_end (pfront_ok (pminus_ok (patom_par (t := kO2) rfl (by decide) (by decide) (rd_sum hp hc) (by decide)) (by decide)) (by decide)) (by decide) (.inr (by decide))) (by decide) (by decide) (by decide) (by decide) (by decide) (by decide)
end
abbrev QL (a : Option Addr) (cap : Nat) (K : List It) (a1 : Option Addr) (c1 : Nat) (ag : Option Addr) (cg : Nat) (ao : Option Addr) (co : Nat) : List It :=
  itemsI a1 1 c1 (itHead iS a cap) :: exsI ag 1 cg (exHead (colX kC.2.2) none 0) :: keysI ao 1 co [.int .i64 0, .bool true] :: K
theorem PS.sub {w0 w : World} {b : Nat} {L : List Tk} {H H' : List It} (S : PS w0 w b L H) (h : H'.Sublist H) : PS w0 w b L H' := by
  obtain ⟨x, c, h1, h2, S⟩ := S
  exact ⟨x, c, h1, h2, S.sub (.cons_cons _ (.cons_cons _ h))⟩
theorem PS.sto5 {w0 w : World} {b : Nat} {L : List Tk} {H : List It} (S : PS w0 w b L H) (n : Nat) {b' : Nat} {x0 x1 x2 x3 x4 v0 v1 v2 v3 v4 : Value} {t : TypeId} (hn : H[n]? = some (It.cells b' #[x0, x1, x2, x3, x4] t)) {k : World → Prop} (hk : ∀ w', PS w0 w' b L (H.set n (It.cells b' #[v0, v1, v2, v3, v4] t)) → k w') :
    STO ⟨b', 0, none⟩ v0 (fun w => STO ⟨b', 1, none⟩ v1 (fun w => STO ⟨b', 2, none⟩ v2 (fun w => STO ⟨b', 3, none⟩ v3 (fun w => STO ⟨b', 4, none⟩ v4 k w) w) w) w) w := by
  obtain ⟨x, cc, g1, g2, S⟩ := S
  exact S.sto5 (n + 2) hn fun w' S' => hk w' ⟨x, cc, g1, g2, S'⟩
theorem rx_mul : RX eMul mulR := rx_op (by decide) (rx_leaf (by decide) (by decide) (by decide) (by decide) (by decide)) (rx_op (by decide) (rx_leaf (by decide) (by decide) (by decide) (by decide) (by decide)) (rx_leaf (by decide) (by decide) (by decide) (by decide) (by decide)))
theorem qat1 {w : World} {a : Option Addr} {cap : Nat} {K : List It} {a1 ag ao : Option Addr} (hR : mulR a cap K) (hk : ∀ it ∈ K, it.ok w) (r1 : Rd w a1 (itHead iS a cap)) (r2 : Rd w ag (exHead (colX kC.2.2) none 0)) (r3 : Rd w ao [.int .i64 0, .bool true]) : QAt w Q1 a1 none ag ao where
  it := ⟨_, r1, RowsC.one ⟨_, rfl, rx_mul hR hk, by decide, by decide⟩⟩
  wh := ⟨[], Rd.nil _ _, rfl⟩
  gr := ⟨_, r2, RowsC.one (colX_c w (by decide))⟩
  od := ⟨_, r3, RowsC.one ⟨rfl, by decide⟩⟩
  nit := by decide
  nwh := by decide
  ngr := by decide
  nod := by decide
  lim := by decide
theorem pquery_ok (hp : ∀ {w : World}, Calls Tryz.prog f.query_plain #[.string kOne.2.2] w (Ret fun r w' => r = .string kOne.2.2 ∧ Below w.heap.size w w')) (hc : ∀ {w : World}, Env w → Calls Tryz.prog f.query_constant #[.string kOne.2.2] w (Ret fun r w' => r = .agg ⟨exHead (numX 1) none 0⟩ ∧ Below w.heap.size w w'))
    {w0 w : World} {b : Nat} {H : List It} (E : Env w0) (S : PS w0 w b T1 H) : Calls Tryz.prog f.query_parser_query #[.pointer (some ⟨b, 0, none⟩)] w (Ret fun r w' => ∃ a cap K a1 c1 ag cg ao co, mulR a cap K ∧ r = .agg ⟨quL Q1 a1 none ag ao c1 0 cg co⟩ ∧ PS w0 w' b [kEnd] (QL a cap K a1 c1 ag cg ao co ++ H)) := by
  apply R.query_parser_query_calls
  unfold R.query_parser_query
  refine S.newB fun b2 w1 S1 => S1.newB fun b3 w2 S2 => S2.newB fun b4 w3 S3 => ?_
  refine S3.sto 0 rfl (cs' := #[.slice none 0 0, .slice none 0 0, .slice none 0 0, .slice none 0 0, .int .i64 0]) (by simp) rfl fun w4 S4 => S4.sto 0 rfl (cs' := #[.slice none 0 0, .slice none 0 0, .slice none 0 0, .slice none 0 0, .int .i64 0]) (by simp) rfl fun w5 S5 => S5.sto 0 rfl (cs' := #[.slice none 0 0, .slice none 0 0, .slice none 0 0, .slice none 0 0, .int .i64 0]) (by simp) rfl fun w6 S6 =>
    S6.sto 0 rfl (cs' := #[.slice none 0 0, .slice none 0 0, .slice none 0 0, .slice none 0 0, .int .i64 0]) (by simp) rfl fun w7 S7 => S7.sto 0 rfl (cs' := #[.slice none 0 0, .slice none 0 0, .slice none 0 0, .slice none 0 0, .int .i64 (-1)]) (by simp) rfl fun w8 S8 => ?_
  have S8 : PS w0 w8 b T1 (QA none 0 0 [] none 0 0 [] none 0 0 [] b4 b2 b b3 ++ H) := (((S8.perm (List.Perm.cons _ (List.Perm.swap _ _ _))).nil ty.api_Key 2).nil ty.api_Expr 6).nil ty.api_Item 8
  refine ⟨_, S8.cell 4 rfl rfl, S8.newB fun b6 w9 S9 => pneedY S9 (by decide) fun w10 S10 => ⟨rfl, _, S10.cell 4 rfl rfl, ?_⟩⟩
  refine (plist_one (w0 := w0) (u := kGroup) (L := [kBy, kC, kOrder, kBy2, kS2, kDesc, kEnd]) (Q := fun w' => ∃ a cap K a1 c1, mulR a cap K ∧ PS w0 w' b [kGroup, kBy, kC, kOrder, kBy2, kS2, kDesc, kEnd] (QA a1 1 c1 (itHead iS a cap) none 0 0 [] none 0 0 [] b4 b2 b b3 ++ (K ++ H))) (by kernel_rfl) (by decide) ((pc1_ok E (pitem_ok (g := kSum) (o := kO1) (cl := kC2) (s := kAs) (nm := kS) rfl rfl (by decide) (rd_mul hp hc) (by decide) (by decide) rfl (by decide)) S10).mono ?_)).mono ?_
  · rintro _ w' ⟨_, rfl, rfl, a, cap, K, a1, c1, hR, S'⟩
    exact ⟨_, rfl, rfl, _, S', fun w'' S'' => ⟨a, cap, K, a1, c1, hR, S''⟩⟩
  rintro _ w11 ⟨_, rfl, rfl, a, cap, K, a1, c1, hR, S11⟩
  have hC : ∀ {w' : World}, (∀ it ∈ K, it.ok w') → ItC (fun _ => False) w' iS (itHead iS a cap) := fun hk => ⟨_, rfl, rx_mul hR hk, by decide, by decide⟩
  refine ⟨rfl, fun _ w => PS w0 w b [kGroup, kBy, kC, kOrder, kBy2, kS2, kDesc, kEnd] (QA a1 1 c1 (itHead iS a cap) none 0 0 [] none 0 0 [] b4 b2 b b3 ++ (K ++ H)), ⟨_, S11.cell 4 rfl rfl, ptakeN S11 (by decide) fun w12 S12 => ⟨_, rfl, IFB_false S12⟩⟩, fun w16 S16 => ?_⟩
  refine ⟨fun _ w => ∃ ag cg, PS w0 w b [kOrder, kBy2, kS2, kDesc, kEnd] (QA a1 1 c1 (itHead iS a cap) ag 1 cg (exHead (colX kC.2.2) none 0) none 0 0 [] b4 b2 b b3 ++ (K ++ H)), ⟨_, S16.cell 4 rfl rfl, ptakeY S16 (by decide) fun w17 S17 => ⟨_, rfl, IFB_true ⟨_, S17.cell 4 rfl rfl, S17.newB fun b27 w18 S18 => pneedY S18 (by decide) fun w19 S19 => ⟨rfl, _, S19.cell 4 rfl rfl, ?_⟩⟩⟩⟩, ?_⟩
  · refine (plist_one (w0 := w0) (u := kOrder) (L := [kBy2, kS2, kDesc, kEnd]) (Q := fun w' => ∃ ag cg, PS w0 w' b [kOrder, kBy2, kS2, kDesc, kEnd] (QA a1 1 c1 (itHead iS a cap) ag 1 cg (exHead (colX kC.2.2) none 0) none 0 0 [] b4 b2 b b3 ++ (K ++ H))) (by kernel_rfl) (by decide) ((pc2_ok E (pexpr_end (pfront_ok (pminus_ok (patom_name pn_c) (by decide)) (by decide)) (by decide) (.inr (by decide))) S19).mono ?_)).mono ?_
    · rintro _ w' ⟨_, rfl, rfl, a2, c2, S'⟩
      exact ⟨_, rfl, rfl, _, S', fun w'' S'' => ⟨a2, c2, S''⟩⟩
    rintro _ w20 ⟨_, rfl, rfl, ag, cg, S20⟩
    exact ⟨rfl, ag, cg, S20⟩
  rintro w21 ⟨ag, cg, S21⟩
  refine ⟨fun _ w => ∃ ao co, PS w0 w b [kEnd] (QA a1 1 c1 (itHead iS a cap) ag 1 cg (exHead (colX kC.2.2) none 0) ao 1 co [.int .i64 0, .bool true] b4 b2 b b3 ++ (K ++ H)), ⟨_, S21.cell 4 rfl rfl, ptakeY S21 (by decide) fun w22 S22 => ⟨_, rfl, IFB_true ⟨_, S22.cell 4 rfl rfl, S22.newB fun b36 w23 S23 => pneedY S23 (by decide) fun w24 S24 => ⟨rfl, _, S24.cell 4 rfl rfl, ?_⟩⟩⟩⟩, ?_⟩
  · refine (plist_one (w0 := w0) (u := kEnd) (L := []) (Q := fun w' => ∃ ao co, PS w0 w' b [kEnd] (QA a1 1 c1 (itHead iS a cap) ag 1 cg (exHead (colX kC.2.2) none 0) ao 1 co [.int .i64 0, .bool true] b4 b2 b b3 ++ (K ++ H))) (by kernel_rfl) (by decide) ((pc3_ok (nm := kS2) (d := kDesc) E rfl (by decide) (by decide) (by decide) hC S24).mono ?_)).mono ?_
    · rintro _ w' ⟨_, rfl, rfl, a2, c2, S'⟩
      exact ⟨_, rfl, rfl, _, S', fun w'' S'' => ⟨a2, c2, S''⟩⟩
    rintro _ w25 ⟨_, rfl, rfl, ao, co, S25⟩
    exact ⟨rfl, ao, co, S25⟩
  rintro w26 ⟨ao, co, S26⟩
  refine ⟨fun _ w => PS w0 w b [kEnd] (QA a1 1 c1 (itHead iS a cap) ag 1 cg (exHead (colX kC.2.2) none 0) ao 1 co [.int .i64 0, .bool true] b4 b2 b b3 ++ (K ++ H)), ⟨_, S26.cell 4 rfl rfl, ptakeN S26 (by decide) fun w27 S27 => ⟨_, rfl, IFB_false S27⟩⟩, fun w30 S30 => ⟨_, S30.cell 4 rfl rfl, (pnext_ok S30).mono ?_⟩⟩
  rintro _ w31 ⟨_, rfl, rfl, S31⟩
  refine ⟨_, _, _, rfl, S31.lit3 fun b53 w35 S35 => ⟨_, S35.cell 0 rfl rfl, IFB_ne (fun h => absurd rfl h) (fun _ => ?_)⟩⟩
  refine ⟨_, _, _, S35.cell 4 rfl rfl, _, _, _, S35.cell 4 rfl rfl, _, _, _, S35.cell 4 rfl rfl, _, _, _, S35.cell 4 rfl rfl, _, S35.cell 4 rfl rfl, ?_⟩
  exact S35.sto5 6 rfl fun w40 S40 => ⟨_, _, _, S40.cell 6 rfl rfl, _, _, _, S40.cell 6 rfl rfl, _, _, _, S40.cell 6 rfl rfl, _, _, _, S40.cell 6 rfl rfl, _, S40.cell 6 rfl rfl, a, cap, K, a1, c1, ag, cg, ao, co, hR, rfl, S40.sub (.cons _ (.cons_cons _ (.cons_cons _ (.cons_cons _ (.cons _ (.cons _ (.cons _ (.refl _))))))))⟩
end Go.Proofs.YtbpdfpfgijhokaaGreatDoor
namespace Go.Proofs.YtbpdfpfgijhokaaGreatDoor
open Go.Dn Go.Proofs
set_option maxRecDepth 100000
set_option linter.unusedVariables false
namespace R
def strings_HasPrefix (s_1 : ByteArray) (prefix_2 : ByteArray) (k : Value → World → Prop) (w0 : World) : Prop :=
  Calls Tryz.prog f.in_stringslite_HasPrefix #[.string s_1, .string prefix_2] w0 (fun e_4 w1 => ∃ t7_3 : Bool, e_4 = .returned (.bool t7_3) ∧ k (.bool t7_3) w1)
theorem strings_HasPrefix_calls (s_1 : ByteArray) (prefix_2 : ByteArray) (k : Value → World → Prop) (w0 : World) (h : strings_HasPrefix s_1 prefix_2 k w0) : Calls Tryz.prog f.strings_HasPrefix #[.string s_1, .string prefix_2] w0 (fun e w => ∃ v, e = .returned v ∧ k v w) :=
  dFun_calls mixed (L := []) (C := []) (Eq.mpr (by kernel_rfl) h)
def strings_trimLeftByte (s_1 : ByteArray) (c_2 : Int) (k : Value → World → Prop) (w0 : World) : Prop :=
  ∃ (I_3 : List Value → World → Prop) (M_3 : List Value → World → Nat), I_3 [.string s_1] w0 ∧ ∀ (s_4 : ByteArray), ∀ w1 : World, I_3 [.string s_4] w1 → IFB (decide ((s_4.size : Int) > 0)) (((0 : Int) ≤ 0 ∧ 0 < (s_4.size : Int)) ∧ IFB (((sget s_4 0).toNat : Int) == c_2) (((0 : Int) ≤ 1 ∧ 1 ≤ (s_4.size : Int) ∧ (s_4.size : Int) ≤ (s_4.size : Int)) ∧ I_3 [.string (ByteArray.extract s_4 1 s_4.size)] w1 ∧ M_3 [.string (ByteArray.extract s_4 1 s_4.size)] w1 < M_3 [.string s_4] w1) (k (.string s_4) w1)) (k (.string s_4) w1)
theorem strings_trimLeftByte_calls (s_1 : ByteArray) (c_2 : Int) (k : Value → World → Prop) (w0 : World) (h : strings_trimLeftByte s_1 c_2 k w0) : Calls Tryz.prog f.strings_trimLeftByte #[.string s_1, .int .u8 c_2] w0 (fun e w => ∃ v, e = .returned v ∧ k v w) :=
  dFun_calls mixed (L := [(1, ⟨[(0, .string ⟨#[]⟩)], [1]⟩)]) (C := []) (Eq.mpr (by kernel_rfl) h)
def in_stringslite_HasPrefix (s_1 : ByteArray) (prefix_2 : ByteArray) (k : Value → World → Prop) (w0 : World) : Prop :=
  IFB (decide ((s_1.size : Int) ≥ (prefix_2.size : Int))) (((0 : Int) ≤ (0 : Int) ∧ (0 : Int) ≤ (prefix_2.size : Int) ∧ (prefix_2.size : Int) ≤ (s_1.size : Int)) ∧ k (.bool (bytesEq (ByteArray.extract s_1 0 prefix_2.size) prefix_2)) w0) (k (.bool false) w0)
theorem in_stringslite_HasPrefix_calls (s_1 : ByteArray) (prefix_2 : ByteArray) (k : Value → World → Prop) (w0 : World) (h : in_stringslite_HasPrefix s_1 prefix_2 k w0) : Calls Tryz.prog f.in_stringslite_HasPrefix #[.string s_1, .string prefix_2] w0 (fun e w => ∃ v, e = .returned v ∧ k v w) :=
  dFun_calls mixed (L := []) (C := []) (Eq.mpr (by kernel_rfl) h)
end R
end Go.Proofs.YtbpdfpfgijhokaaGreatDoor
