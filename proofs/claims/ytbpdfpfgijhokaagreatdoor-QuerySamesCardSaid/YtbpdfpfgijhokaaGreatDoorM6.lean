/-
  Texts of this claim, laid one behind the other by a program of mine (install.py): P.Parts, P.Qtx, P.Rtx, P.Alk, P.Ld, P.Rp1, P.Rp2, P.Rp3, P.Inj1, P.Inj2, P.Inj3, P.Rp4, P.Pl1, P.Pl2, P.Pl3, P.SortI, P.Pl4, P.Pl5, P.Pl6, P.Pl7, P.Rp5, P.Rp6.
-/
import Derived.Test.YtbpdfpfgijhokaaGreatDoorM5
import Derived.Lib.Join
import Derived.Test.YtbpdfpfgijhokaaGreatDoorM4
import Derived.Test.YtbpdfpfgijhokaaGreatDoorM3
namespace Go.Proofs.YtbpdfpfgijhokaaGreatDoor
set_option maxRecDepth 100000
open Go.Dn Go.Proofs
open Go.RowKit (Below)
set_option linter.unusedVariables false
theorem app_e0 (x : ByteArray) : x ++ E0 = x := ByteArray.append_empty
theorem commas_cons (x : ByteArray) (l : List ByteArray) : commas (x :: l) = x ++ sof (Lib.joinTail [44, 32] (l.map bl)) := by
  induction l generalizing x with
  | nil => exact (app_e0 x).symm
  | cons y l ih =>
    show x ++ ⟨#[44, 32]⟩ ++ commas (y :: l) = _
    rw [ih y]
    have e : sof (Lib.joinTail [44, 32] ((y :: l).map bl)) = ⟨#[44, 32]⟩ ++ (y ++ sof (Lib.joinTail [44, 32] (l.map bl))) := by
      rw [show (ByteArray.mk #[44, 32]) = sof [44, 32] from rfl]
      conv => rhs; rw [← sof_bl y]
      rw [sof_append, sof_append]
      simp [Lib.joinTail]
    rw [e, ByteArray.append_assoc]
theorem commas_join (l : List ByteArray) : commas l = sof (Lib.join (l.map bl) [44, 32]) := by
  cases l with
  | nil => rfl
  | cons x l =>
    rw [commas_cons, List.map_cons, Lib.join_cons]
    conv => lhs; rw [← sof_bl x]
    rw [sof_append]
theorem commas_snoc : ∀ (l : List ByteArray) (x : ByteArray), l ≠ [] → commas (l ++ [x]) = commas l ++ ⟨#[44, 32]⟩ ++ x
  | [], x, h => absurd rfl h
  | [y], x, _ => rfl
  | y :: z :: l, x, _ => by
    show y ++ ⟨#[44, 32]⟩ ++ commas ((z :: l) ++ [x]) = (y ++ ⟨#[44, 32]⟩ ++ commas (z :: l)) ++ ⟨#[44, 32]⟩ ++ x
    rw [commas_snoc (z :: l) x (by simp)]
    simp only [ByteArray.append_assoc]
theorem commas_size {B : Nat} : ∀ (l : List ByteArray), (∀ x ∈ l, x.size ≤ B) → (commas l).size ≤ l.length * (B + 2)
  | [], _ => by show 0 ≤ _; exact Nat.zero_le _
  | [x], h => by have := h x (by simp); show x.size ≤ _; simp; omega
  | x :: y :: l, h => by
    have h1 := h x (by simp)
    have h2 := commas_size (y :: l) fun z hz => h z (by simp [hz])
    show (x ++ ⟨#[44, 32]⟩ ++ commas (y :: l)).size ≤ _
    have e : (ByteArray.mk #[44, 32]).size = 2 := rfl
    rw [ByteArray.size_append, ByteArray.size_append, e, List.length_cons, Nat.add_mul]
    omega
theorem part_size {B : Nat} (head : ByteArray) (l : List ByteArray) (h : ∀ x ∈ l, x.size ≤ B) : (partT head l).size ≤ head.size + l.length * (B + 2) := by
  unfold partT
  split
  · exact Nat.zero_le _
  · rw [ByteArray.size_append]
    have := commas_size l h
    omega
section
variable {w0 w : World} {H : List It} {a : Option Addr} {c : Nat}
theorem join_ok (S : ST w0 w H) (n : Nat) {xs : List ByteArray} (hn : H[n]? = some (strsI a c xs)) (h1 : xs ≠ []) (hl : xs.length ≤ 100) (hs : ∀ x ∈ xs, x.size ≤ 1000000) : Calls Tryz.prog f.strings_Join #[.slice a xs.length c, .string ⟨#[44, 32]⟩] w (Ret fun v w' => v = .string (commas xs) ∧ Below w.heap.size w w') := by
  have hR : Row w ty.string 1 a xs.length c (xs.map Value.string) := S.get n hn
  rcases hR.2 with ⟨_, h, _⟩ | ⟨g, cur, rfl, hg, hcap, _, _, _⟩
  · exact absurd (List.eq_nil_of_length_eq_zero h) h1
  · have hj : (Lib.join (xs.map bl) [44, 32]).length ≤ 140737488355328 := by
      have h2 := commas_size xs hs
      rw [commas_join, size_sof] at h2
      have h3 : xs.length * (1000000 + 2) ≤ 100 * (1000000 + 2) := Nat.mul_le_mul_right _ hl
      omega
    refine (Tryz.strings_Join g 0 c xs ⟨#[44, 32]⟩ w (fun j x hx => ?_) (Array.getElem?_eq_some_iff.1 hg).1 (by omega) hcap hj).mono ?_
    · obtain ⟨p, hp, hc⟩ := hR.rd j (.string x) (by rw [List.getElem?_map, hx]; rfl)
      cases hp
      rw [addr_add_blk] at hc
      exact hc
    · rintro _ w' ⟨rfl, B⟩
      exact ⟨_, rfl, by rw [commas_join]; rfl, B⟩
end
theorem parts_api_Item_ok {w0 : World} {w : World} (head : ByteArray) {a : Option Addr} {c0 : Nat} {rs : List Value} {l : List Itm} (hl : Rd w a rs) (hC : RowsC (ItC (fun _ => False) w0) l rs) (hn : l.length ≤ 100) {fn : FuncId} {fi ca : Array Value} (hen : enters Tryz.prog fn = true) (g : Itm → ByteArray) (hh : head.size ≤ 1000) (hs : ∀ x ∈ l, (g x).size ≤ 1000000)
    (hf : ∀ w' x c, Below w.heap.size w w' → x ∈ l → (ItC (fun _ => False) w0) x c → Calls Tryz.prog fn ⟨fi.toList ++ [.agg ⟨c⟩] ++ ca.toList⟩ w' (Ret fun r w'' => r = .string (g x) ∧ Below w'.heap.size w' w'')) :
    Calls Tryz.prog f.query_parts_api_Item #[.string head, .slice a l.length c0, .func (.func fn) fi ca] w (Ret fun r w' => r = .string (partT head (l.map g)) ∧ Below w.heap.size w w') := by
  apply R.query_parts_api_Item_calls
  unfold R.query_parts_api_Item
  refine ⟨fun st w1 => ∃ (i : Nat) (oa : Option Addr) (oc : Nat), st = [.slice oa ((l.take i).map g).length oc, .int .i64 (i : Int)] ∧ i ≤ l.length ∧ ST w w1 [strsI oa oc ((l.take i).map g)], fun st _ => match st with | [_, .int _ t] => l.length - t.toNat | _ => 0, ⟨0, none, 0, rfl, by omega, (ST.start w).nil ty.string 1⟩, ?_⟩
  rintro oa ol oc t w1 ⟨i, oa', oc', hst, hi, S1⟩
  cases hst
  refine IFB_dec (fun hlt => ⟨⟨by omega, hlt⟩, ?_⟩) (fun hge => ?_)
  · have hil : i < l.length := by omega
    obtain ⟨q, c, rfl, hc, cell⟩ := rows_at (n := 8) (fun x c h => ItC.len h) (by decide) (hl.grown S1.bel) hC hil
    have hcc := hc
    obtain ⟨ce, rfl, hx, hy⟩ := id hc
    obtain ⟨a9, cap9, _, rfl, _⟩ := ExC.open hx
    refine ⟨_, by rw [Int.toNat_natCast]; exact cell 0 _ rfl, _, by rw [Int.toNat_natCast]; exact cell 1 _ rfl, _, by rw [Int.toNat_natCast]; exact cell 2 _ rfl, _, by rw [Int.toNat_natCast]; exact cell 3 _ rfl, _, by rw [Int.toNat_natCast]; exact cell 4 _ rfl, _, by rw [Int.toNat_natCast]; exact cell 5 _ rfl, _, by rw [Int.toNat_natCast]; exact cell 6 _ rfl, _, _, _, by rw [Int.toNat_natCast]; exact cell 7 _ rfl, (S1.lit8 fun b16 w2 _ S2 => ?_)⟩
    refine ⟨_, S2.cell 0 rfl rfl, _, S2.cell 0 rfl rfl, _, S2.cell 0 rfl rfl, _, S2.cell 0 rfl rfl, _, S2.cell 0 rfl rfl, _, S2.cell 0 rfl rfl, _, S2.cell 0 rfl rfl, _, _, _, S2.cell 0 rfl rfl, ?_⟩
    rw [hen]
    refine (hf w2 _ _ S2.bel (List.getElem_mem hil) hcc).mono ?_
    rintro _ w11 ⟨_, rfl, rfl, B11⟩
    have S11 := S2.grown B11
    have htk : (l.take (i + 1)).map g = (l.take i).map g ++ [g l[i]] := by rw [List.take_succ_eq_append_getElem hil, List.map_append]; rfl
    have hlen : ((l.take i).map g).length = i := by simp; omega
    refine ⟨_, rfl, S11.newB fun b27 w12 _ _ S12 => stAppS S12 2 rfl (ys := [g l[i]]) (mm := 1) rfl (S12.rdc 0 rfl) (by omega) fun a' c' w13 S13 => ⟨_, _, _, rfl, ?_, ?_⟩⟩
    · rw [← htk] at S13 ⊢
      exact ⟨i + 1, a', c', by rw [wrap_succ (by omega)], by omega, S13.drop 2⟩
    · show l.length - (IntKind.i64.wrap ((i : Int) + 1)).toNat < l.length - ((i : Nat) : Int).toNat
      rw [wrap_succ (by omega)]
      simp only [Int.toNat_natCast]
      omega
  · obtain rfl : i = l.length := by omega
    rw [List.take_length] at S1 ⊢
    refine IFB_eq (fun h => ⟨?_, S1.bel⟩) (fun h => (join_ok S1 0 rfl (fun e => h (by rw [e]; rfl)) (by simpa using hn) (fun x hx => by obtain ⟨y, hy, rfl⟩ := List.mem_map.1 hx; exact hs y hy)).mono ?_)
    · unfold partT
      rw [if_pos (by omega)]
    · rintro _ w14 ⟨_, rfl, rfl, B14⟩
      have hz := commas_size (B := 1000000) (l.map g) (fun x hx => by obtain ⟨y, hy, rfl⟩ := List.mem_map.1 hx; exact hs y hy)
      rw [List.length_map] at hz
      have h3 : l.length * (1000000 + 2) ≤ 100 * (1000000 + 2) := Nat.mul_le_mul_right _ hn
      refine ⟨_, rfl, by omega, ?_, (S1.grown B14).bel⟩
      unfold partT
      rw [if_neg (by omega)]
theorem parts_api_Expr_ok {w0 : World} {w : World} (head : ByteArray) {a : Option Addr} {c0 : Nat} {rs : List Value} {l : List Ex} (hl : Rd w a rs) (hC : RowsC (ExC (fun _ => False) w0) l rs) (hn : l.length ≤ 100) {fn : FuncId} {fi ca : Array Value} (hen : enters Tryz.prog fn = true) (g : Ex → ByteArray) (hh : head.size ≤ 1000) (hs : ∀ x ∈ l, (g x).size ≤ 1000000)
    (hf : ∀ w' x c, Below w.heap.size w w' → x ∈ l → (ExC (fun _ => False) w0) x c → Calls Tryz.prog fn ⟨fi.toList ++ [.agg ⟨c⟩] ++ ca.toList⟩ w' (Ret fun r w'' => r = .string (g x) ∧ Below w'.heap.size w' w'')) :
    Calls Tryz.prog f.query_parts_api_Expr #[.string head, .slice a l.length c0, .func (.func fn) fi ca] w (Ret fun r w' => r = .string (partT head (l.map g)) ∧ Below w.heap.size w w') := by
  apply R.query_parts_api_Expr_calls
  unfold R.query_parts_api_Expr
  refine ⟨fun st w1 => ∃ (i : Nat) (oa : Option Addr) (oc : Nat), st = [.slice oa ((l.take i).map g).length oc, .int .i64 (i : Int)] ∧ i ≤ l.length ∧ ST w w1 [strsI oa oc ((l.take i).map g)], fun st _ => match st with | [_, .int _ t] => l.length - t.toNat | _ => 0, ⟨0, none, 0, rfl, by omega, (ST.start w).nil ty.string 1⟩, ?_⟩
  rintro oa ol oc t w1 ⟨i, oa', oc', hst, hi, S1⟩
  cases hst
  refine IFB_dec (fun hlt => ⟨⟨by omega, hlt⟩, ?_⟩) (fun hge => ?_)
  · have hil : i < l.length := by omega
    obtain ⟨q, c, rfl, hc, cell⟩ := rows_at (n := 6) (fun x c h => ExC.len h) (by decide) (hl.grown S1.bel) hC hil
    have hcc := hc
    obtain ⟨a9, cap9, _, rfl, _⟩ := ExC.open hc
    refine ⟨_, by rw [Int.toNat_natCast]; exact cell 0 _ rfl, _, by rw [Int.toNat_natCast]; exact cell 1 _ rfl, _, by rw [Int.toNat_natCast]; exact cell 2 _ rfl, _, by rw [Int.toNat_natCast]; exact cell 3 _ rfl, _, by rw [Int.toNat_natCast]; exact cell 4 _ rfl, _, _, _, by rw [Int.toNat_natCast]; exact cell 5 _ rfl, (S1.lit6 fun b16 w2 _ S2 => ?_)⟩
    refine ⟨_, S2.cell 0 rfl rfl, _, S2.cell 0 rfl rfl, _, S2.cell 0 rfl rfl, _, S2.cell 0 rfl rfl, _, S2.cell 0 rfl rfl, _, _, _, S2.cell 0 rfl rfl, ?_⟩
    rw [hen]
    refine (hf w2 _ _ S2.bel (List.getElem_mem hil) hcc).mono ?_
    rintro _ w11 ⟨_, rfl, rfl, B11⟩
    have S11 := S2.grown B11
    have htk : (l.take (i + 1)).map g = (l.take i).map g ++ [g l[i]] := by rw [List.take_succ_eq_append_getElem hil, List.map_append]; rfl
    have hlen : ((l.take i).map g).length = i := by simp; omega
    refine ⟨_, rfl, S11.newB fun b27 w12 _ _ S12 => stAppS S12 2 rfl (ys := [g l[i]]) (mm := 1) rfl (S12.rdc 0 rfl) (by omega) fun a' c' w13 S13 => ⟨_, _, _, rfl, ?_, ?_⟩⟩
    · rw [← htk] at S13 ⊢
      exact ⟨i + 1, a', c', by rw [wrap_succ (by omega)], by omega, S13.drop 2⟩
    · show l.length - (IntKind.i64.wrap ((i : Int) + 1)).toNat < l.length - ((i : Nat) : Int).toNat
      rw [wrap_succ (by omega)]
      simp only [Int.toNat_natCast]
      omega
  · obtain rfl : i = l.length := by omega
    rw [List.take_length] at S1 ⊢
    refine IFB_eq (fun h => ⟨?_, S1.bel⟩) (fun h => (join_ok S1 0 rfl (fun e => h (by rw [e]; rfl)) (by simpa using hn) (fun x hx => by obtain ⟨y, hy, rfl⟩ := List.mem_map.1 hx; exact hs y hy)).mono ?_)
    · unfold partT
      rw [if_pos (by omega)]
    · rintro _ w14 ⟨_, rfl, rfl, B14⟩
      have hz := commas_size (B := 1000000) (l.map g) (fun x hx => by obtain ⟨y, hy, rfl⟩ := List.mem_map.1 hx; exact hs y hy)
      rw [List.length_map] at hz
      have h3 : l.length * (1000000 + 2) ≤ 100 * (1000000 + 2) := Nat.mul_le_mul_right _ hn
      refine ⟨_, rfl, by omega, ?_, (S1.grown B14).bel⟩
      unfold partT
      rw [if_neg (by omega)]
theorem parts_api_Key_ok {w : World} (head : ByteArray) {a : Option Addr} {c0 : Nat} {rs : List Value} {l : List (Int × Bool)} (hl : Rd w a rs) (hC : RowsC (keyC) l rs) (hn : l.length ≤ 100) {fn : FuncId} {fi ca : Array Value} (hen : enters Tryz.prog fn = true) (g : (Int × Bool) → ByteArray) (hh : head.size ≤ 1000) (hs : ∀ x ∈ l, (g x).size ≤ 1000000)
    (hf : ∀ w' x c, Below w.heap.size w w' → x ∈ l → (keyC) x c → Calls Tryz.prog fn ⟨fi.toList ++ [.agg ⟨c⟩] ++ ca.toList⟩ w' (Ret fun r w'' => r = .string (g x) ∧ Below w'.heap.size w' w'')) :
    Calls Tryz.prog f.query_parts_api_Key #[.string head, .slice a l.length c0, .func (.func fn) fi ca] w (Ret fun r w' => r = .string (partT head (l.map g)) ∧ Below w.heap.size w w') := by
  apply R.query_parts_api_Key_calls
  unfold R.query_parts_api_Key
  refine ⟨fun st w1 => ∃ (i : Nat) (oa : Option Addr) (oc : Nat), st = [.slice oa ((l.take i).map g).length oc, .int .i64 (i : Int)] ∧ i ≤ l.length ∧ ST w w1 [strsI oa oc ((l.take i).map g)], fun st _ => match st with | [_, .int _ t] => l.length - t.toNat | _ => 0, ⟨0, none, 0, rfl, by omega, (ST.start w).nil ty.string 1⟩, ?_⟩
  rintro oa ol oc t w1 ⟨i, oa', oc', hst, hi, S1⟩
  cases hst
  refine IFB_dec (fun hlt => ⟨⟨by omega, hlt⟩, ?_⟩) (fun hge => ?_)
  · have hil : i < l.length := by omega
    obtain ⟨q, c, rfl, hc, cell⟩ := rows_at (n := 2) (fun x c h => keyC_len h) (by decide) (hl.grown S1.bel) hC hil
    have hcc := hc
    obtain rfl := hc.1
    refine ⟨_, by rw [Int.toNat_natCast]; exact cell 0 _ rfl, _, by rw [Int.toNat_natCast]; exact cell 1 _ rfl, (S1.newB fun b16 w2a _ _ S2a => S2a.sto 0 rfl (by simp) rfl fun w2b S2b => S2b.sto 0 rfl (by simp) rfl fun w2 S2 => ?_)⟩
    refine ⟨_, S2.cell 0 rfl rfl, _, S2.cell 0 rfl rfl, ?_⟩
    rw [hen]
    refine (hf w2 _ _ S2.bel (List.getElem_mem hil) hcc).mono ?_
    rintro _ w11 ⟨_, rfl, rfl, B11⟩
    have S11 := S2.grown B11
    have htk : (l.take (i + 1)).map g = (l.take i).map g ++ [g l[i]] := by rw [List.take_succ_eq_append_getElem hil, List.map_append]; rfl
    have hlen : ((l.take i).map g).length = i := by simp; omega
    refine ⟨_, rfl, S11.newB fun b27 w12 _ _ S12 => stAppS S12 2 rfl (ys := [g l[i]]) (mm := 1) rfl (S12.rdc 0 rfl) (by omega) fun a' c' w13 S13 => ⟨_, _, _, rfl, ?_, ?_⟩⟩
    · rw [← htk] at S13 ⊢
      exact ⟨i + 1, a', c', by rw [wrap_succ (by omega)], by omega, S13.drop 2⟩
    · show l.length - (IntKind.i64.wrap ((i : Int) + 1)).toNat < l.length - ((i : Nat) : Int).toNat
      rw [wrap_succ (by omega)]
      simp only [Int.toNat_natCast]
      omega
  · obtain rfl : i = l.length := by omega
    rw [List.take_length] at S1 ⊢
    refine IFB_eq (fun h => ⟨?_, S1.bel⟩) (fun h => (join_ok S1 0 rfl (fun e => h (by rw [e]; rfl)) (by simpa using hn) (fun x hx => by obtain ⟨y, hy, rfl⟩ := List.mem_map.1 hx; exact hs y hy)).mono ?_)
    · unfold partT
      rw [if_pos (by omega)]
    · rintro _ w14 ⟨_, rfl, rfl, B14⟩
      have hz := commas_size (B := 1000000) (l.map g) (fun x hx => by obtain ⟨y, hy, rfl⟩ := List.mem_map.1 hx; exact hs y hy)
      rw [List.length_map] at hz
      have h3 : l.length * (1000000 + 2) ≤ 100 * (1000000 + 2) := Nat.mul_le_mul_right _ hn
      refine ⟨_, rfl, by omega, ?_, (S1.grown B14).bel⟩
      unfold partT
      rw [if_neg (by omega)]
theorem rightX_size {x : Ex} (h : rightX x = true) : x.size ≤ 400 := by
  simp only [rightX, Ex.formed, Bool.and_eq_true, decide_eq_true_eq] at h
  exact h.1.2
theorem rightI_iff {i : Itm} : rightI i = true ↔ okName i.1 = true ∧ (0 ≤ i.2.1 ∧ i.2.1 ≤ 5) ∧ (if i.2.1 = 1 then bareX i.2.2 else rightX i.2.2) = true := by
  simp only [rightI, Bool.and_eq_true, decide_eq_true_eq, and_assoc]
theorem rightI_x {i : Itm} (h : rightI i = true) (h1 : ¬ i.2.1 = 1) : rightX i.2.2 = true := by
  have := (rightI_iff.1 h).2.2
  rwa [if_neg h1] at this
theorem agg_size (a : Int) : (aggName a).size ≤ 5 := by
  unfold aggName
  split
  · decide
  · split
    · decide
    · split <;> decide
theorem itemT_size {i : Itm} (h : rightI i = true) (hf : i.2.2.fit) : (itemT i).size ≤ 840100 := by
  have hn := okName_size (rightI_iff.1 h).1
  have e1 : (ByteArray.mk #[32, 97, 115, 32]).size = 4 := rfl
  have e2 : (ByteArray.mk #[99, 111, 117, 110, 116, 40, 42, 41]).size = 8 := rfl
  have e3 : (ByteArray.mk #[40]).size = 1 := rfl
  have e4 : (ByteArray.mk #[41]).size = 1 := rfl
  have ha := agg_size i.2.1
  unfold itemT
  rw [ByteArray.size_append, ByteArray.size_append]
  by_cases h0 : i.2.1 = 0
  · rw [if_pos h0]
    have := rightX_text (rightI_x h (by omega)) hf
    omega
  · rw [if_neg h0]
    by_cases h1 : i.2.1 = 1
    · rw [if_pos h1]; omega
    · rw [if_neg h1]
      have := rightX_text (rightI_x h h1) hf
      simp only [ByteArray.size_append]
      omega
theorem gather_at {w : World} (E : Env w) {a : Int} (h1 : 2 ≤ a) (h2 : a ≤ 5) : w.cell? ((⟨0, 0, none⟩ : Addr).add (a.toNat * 1)) = some (.string (aggName a)) := by
  obtain ⟨n, rfl⟩ : ∃ n : Nat, a = n := ⟨a.toNat, by omega⟩
  have hn : n = 2 ∨ n = 3 ∨ n = 4 ∨ n = 5 := by omega
  rw [Int.toNat_natCast, Nat.mul_one]
  have : gatherCells[n]? = some (.string (aggName n)) := by rcases hn with rfl | rfl | rfl | rfl <;> rfl
  obtain ⟨p, hp, hc⟩ := E.gat n _ this
  cases hp
  exact hc
section
variable {w : World} {i : Itm} {a : Option Addr} {cap : Nat}
theorem query_shownItem_ok (E : Env w) (hx : XC w i.2.2 (exHead i.2.2 a cap)) (hr : rightI i = true) : Calls Tryz.prog f.query_shownItem #[.agg ⟨itHead i a cap⟩] w (Ret fun r w' => r = .string (itemT i) ∧ Below w.heap.size w w') := by
  apply R.query_shownItem_calls
  unfold R.query_shownItem
  have hn := okName_size (rightI_iff.1 hr).1
  have e1 : (ByteArray.mk #[32, 97, 115, 32]).size = 4 := rfl
  have e2 : (ByteArray.mk #[99, 111, 117, 110, 116, 40, 42, 41]).size = 8 := rfl
  have e3 : (ByteArray.mk #[40]).size = 1 := rfl
  have e4 : (ByteArray.mk #[41]).size = 1 := rfl
  have ha := agg_size i.2.1
  have har := (rightI_iff.1 hr).2.1
  refine (ST.start w).newB fun b9 w1 _ _ S1 => ⟨_, S1.cell 0 rfl rfl, IFB_eq (fun h0 => ?_) (fun h0 => IFB_eq (fun h1 => ⟨by omega, _, S1.cell 0 rfl rfl, by rw [ByteArray.size_append]; omega, ?_, S1.bel⟩) (fun h1 => S1.draw fun w3 _ S3 => ?_))⟩
  · have hX := rightI_x hr (by omega)
    have ht := rightX_text hX hx.fit
    refine ⟨_, S1.cell 0 rfl rfl, _, S1.cell 0 rfl rfl, _, S1.cell 0 rfl rfl, _, S1.cell 0 rfl rfl, _, S1.cell 0 rfl rfl, _, _, _, S1.cell 0 rfl rfl, (query_shown_ok i.2.2 40 (rightX_fair hX hx.fit) (rightX_size hX) w1 a cap 1 (E.grown S1.bel) (hx.grown S1.bel)).mono ?_⟩
    rintro _ w2 ⟨_, rfl, rfl, B2⟩
    have S2 := S1.grown B2
    rw [at_one]
    refine ⟨_, rfl, by omega, _, S2.cell 0 rfl rfl, by rw [ByteArray.size_append]; omega, ?_, S2.bel⟩
    unfold itemT
    rw [if_pos h0]
  · unfold itemT
    rw [if_neg h0, if_pos h1]
  · have hX := rightI_x hr h1
    have ht := rightX_text hX hx.fit
    have hg := gather_at (E.grown S3.bel) (a := i.2.1) (by omega) (by omega)
    refine ⟨_, S3.cell 0 rfl rfl, ⟨by omega, by omega⟩, _, hg, by omega, ?_⟩
    refine ⟨_, S3.cell 0 rfl rfl, _, S3.cell 0 rfl rfl, _, S3.cell 0 rfl rfl, _, S3.cell 0 rfl rfl, _, S3.cell 0 rfl rfl, _, _, _, S3.cell 0 rfl rfl, (query_shown_ok i.2.2 40 (rightX_fair hX hx.fit) (rightX_size hX) w3 a cap 1 (E.grown S3.bel) (hx.grown S3.bel)).mono ?_⟩
    rintro _ w4 ⟨_, rfl, rfl, B4⟩
    have S4 := S3.grown B4
    rw [at_one]
    refine ⟨_, rfl, gather_at (E.grown S4.bel) (by omega) (by omega), S4.cell 0 rfl rfl, by rw [ByteArray.size_append]; omega, by simp only [ByteArray.size_append]; omega, by simp only [ByteArray.size_append]; omega, _, S4.cell 0 rfl rfl, by simp only [ByteArray.size_append]; omega, ?_, S4.bel⟩
    unfold itemT
    rw [if_neg h0, if_neg h1]
end
theorem keyT_at {l : List Itm} {k : Int × Bool} {i : Nat} (hi : i < l.length) (hk : k.1 = i) : keyT l k = l[i].1 ++ if k.2 then ⟨#[32, 100, 101, 115, 99]⟩ else E0 := by
  unfold keyT
  rw [hk, Int.toNat_natCast, List.getD_eq_getElem?_getD, List.getElem?_eq_getElem hi]
  rfl
section
variable {w : World} {q : Qu} {ai aw ag ao : Option Addr} {ci cw cg co : Nat}
theorem show_key_ok {w0 : World} {H : List It} {b : Nat} (n : Nat) (Q : QAt w q ai aw ag ao) (S : ST w0 w H) (hn : H[n]? = some (quI b q ai aw ag ao ci cw cg co)) (k : Int × Bool) (hk : rightK q.it k.1 = true) (hsz : ∀ i ∈ q.it, i.1.size ≤ 24) :
    Calls Tryz.prog f.query_Show_c2 #[.agg #[.int .i64 k.1, .bool k.2], .pointer (some ⟨b, 0, none⟩)] w (Ret fun r w' => r = .string (keyT q.it k) ∧ Below w.heap.size w w') := by
  apply R.query_Show_c2_calls
  unfold R.query_Show_c2
  obtain ⟨rs, hrd, hC⟩ := Q.it
  obtain ⟨i, hi, he, _⟩ := rightK_iff.1 hk
  have e1 : (ByteArray.mk #[32, 100, 101, 115, 99]).size = 5 := rfl
  refine (ST.start w).newB fun b4 w1 _ B1 S1 => ?_
  have T1 := S.grown S1.bel
  obtain ⟨p, hp, hc⟩ := it_name (hrd.grown S1.bel) hC hi
  subst hp
  have hz := hsz q.it[i] (List.getElem_mem hi)
  refine ⟨_, S1.cell 0 rfl rfl, IFB_of (fun hd => ⟨_, _, _, T1.cell n hn rfl, _, S1.cell 0 rfl rfl, ⟨by omega, by omega⟩, _, by rw [he, Int.toNat_natCast]; exact hc, by omega, ?_, S1.bel⟩) (fun hd => ⟨_, _, _, T1.cell n hn rfl, _, S1.cell 0 rfl rfl, ⟨by omega, by omega⟩, _, by rw [he, Int.toNat_natCast]; exact hc, ?_, S1.bel⟩)⟩
  · rw [keyT_at hi he, hd]; rfl
  · rw [keyT_at hi he, hd]
    congr 1
    exact (app_e0 _).symm
theorem keyT_size {l : List Itm} (hsz : ∀ i ∈ l, i.1.size ≤ 24) {k : Int × Bool} (hk : rightK l k.1 = true) : (keyT l k).size ≤ 29 := by
  obtain ⟨i, hi, he, _⟩ := rightK_iff.1 hk
  rw [keyT_at hi he, ByteArray.size_append]
  have := hsz _ (List.getElem_mem hi)
  have e1 : (ByteArray.mk #[32, 100, 101, 115, 99]).size = 5 := rfl
  split
  · omega
  · show _ + 0 ≤ _; omega
theorem show_expr_ok {w : World} {x : Ex} {a : Option Addr} {cap : Nat} (E : Env w) (hx : XC w x (exHead x a cap)) (hr : rightX x = true) : Calls Tryz.prog f.query_Show_c1 #[.agg ⟨exHead x a cap⟩] w (Ret fun r w' => r = .string x.text ∧ Below w.heap.size w w') := by
  apply R.query_Show_c1_calls
  unfold R.query_Show_c1
  refine (ST.start w).newB fun b7 w1 _ _ S1 => ⟨_, S1.cell 0 rfl rfl, _, S1.cell 0 rfl rfl, _, S1.cell 0 rfl rfl, _, S1.cell 0 rfl rfl, _, S1.cell 0 rfl rfl, _, _, _, S1.cell 0 rfl rfl, (query_shown_ok x 40 (rightX_fair hr hx.fit) (rightX_size hr) w1 a cap 1 (E.grown S1.bel) (hx.grown S1.bel)).mono ?_⟩
  rintro _ w2 ⟨_, rfl, rfl, B2⟩
  rw [at_one]
  exact ⟨_, rfl, rfl, (S1.grown B2).bel⟩
def showQ (q : Qu) : Value := if rightQ q = true then .tuple #[.string (quT q), .int .i64 0] else .tuple #[.string ⟨#[]⟩, .int .i64 110]
theorem rows_fit {w : World} {l : List Ex} {rs : List Value} (h : RowsC (ExC (fun _ => False) w) l rs) : ∀ x ∈ l, x.fit := by
  intro x hx
  obtain ⟨i, hi, rfl⟩ := List.mem_iff_getElem.1 hx
  exact (h.get (n := 6) (fun x c h => ExC.len h) i hi).fit
theorem items_fit {w : World} {l : List Itm} {rs : List Value} (h : RowsC (ItC (fun _ => False) w) l rs) : ∀ x ∈ l, x.2.2.fit := by
  intro x hx
  obtain ⟨i, hi, rfl⟩ := List.mem_iff_getElem.1 hx
  obtain ⟨c, _, h, _⟩ := h.get (n := 8) (fun x c h => ItC.len h) i hi
  exact h.fit
structure Bnd (q : Qu) : Prop where
  it : ∀ i ∈ q.it, (itemT i).size ≤ 1000000
  wh : ∀ x ∈ q.wh, x.text.size ≤ 1000000
  gr : ∀ x ∈ q.gr, x.text.size ≤ 1000000
  od : ∀ k ∈ q.od, (keyT q.it k).size ≤ 1000000
  nm : ∀ i ∈ q.it, i.1.size ≤ 24
theorem QAt.bnd (Q : QAt w q ai aw ag ao) (h : smallQ q = true) : Bnd q := by
  obtain ⟨hn, hi, hw, hg, ho⟩ := smallQ_iff.1 h
  obtain ⟨ri, _, hCi⟩ := Q.it
  obtain ⟨rw_, _, hCw⟩ := Q.wh
  obtain ⟨rg, _, hCg⟩ := Q.gr
  have hz : ∀ i ∈ q.it, i.1.size ≤ 24 := fun i h => okName_size (rightI_iff.1 (hi i h)).1
  refine ⟨fun i h => ?_, fun x h => ?_, fun x h => ?_, fun k h => ?_, hz⟩
  · have := itemT_size (hi i h) (items_fit hCi i h); omega
  · have := rightX_text (hw x h) (rows_fit hCw x h); omega
  · have := rightX_text (hg x h) (rows_fit hCg x h); omega
  · have := keyT_size hz (ho k h); omega
theorem query_Show_ok (E : Env w) (Q : QAt w q ai aw ag ao) : Calls Tryz.prog f.query_Show #[.agg ⟨quL q ai aw ag ao ci cw cg co⟩] w (Ret fun r w' => r = showQ q ∧ Below w.heap.size w w') := by
  apply R.query_Show_calls
  unfold R.query_Show
  refine (ST.start w).newB fun b6 w1 _ _ S1 => ?_
  have S1 : ST w w1 [quI b6 q ai aw ag ao ci cw cg co] := S1
  refine ⟨_, _, _, S1.cell 0 rfl rfl, _, _, _, S1.cell 0 rfl rfl, _, _, _, S1.cell 0 rfl rfl, _, _, _, S1.cell 0 rfl rfl, _, S1.cell 0 rfl rfl, (query_fits_ok (E.grown S1.bel) (Q.grown S1.bel) (ci := ci) (cw := cw) (cg := cg) (co := co)).mono ?_⟩
  rintro _ w2 ⟨_, rfl, rfl, B2⟩
  have S2 := S1.grown B2
  refine ⟨_, rfl, IFB_not (IFB_of (fun hs => S2.draw fun w3 _ S3 => ⟨_, _, _, S3.cell 0 rfl rfl, _, _, _, S3.cell 0 rfl rfl, _, _, _, S3.cell 0 rfl rfl, ?_⟩) (fun hs => ⟨by unfold showQ; rw [if_neg (by simp [rightQ, hs])], S2.bel⟩))⟩
  obtain ⟨hn, hi, hw, hg, ho⟩ := smallQ_iff.1 hs
  have bd := Q.bnd hs
  obtain ⟨ri, hri, hCi⟩ := Q.it
  obtain ⟨rw_, hrw, hCw⟩ := Q.wh
  obtain ⟨rg, hrg, hCg⟩ := Q.gr
  obtain ⟨ro, hro, hCo⟩ := Q.od
  refine (parts_api_Item_ok ⟨#[115, 101, 108, 101, 99, 116, 32]⟩ (hri.grown S3.bel) hCi (by omega) (by kernel_rfl) itemT (by decide) bd.it ?_).mono ?_
  · rintro w4 x cs B4 hx ⟨ce, rfl, hxe, hy⟩
    obtain ⟨a9, cap9, _, rfl, _⟩ := ExC.open hxe
    exact query_shownItem_ok (i := x) ((E.grown S3.bel).grown B4) ((hxe.grown S3.bel).grown B4) (hi x hx)
  rintro _ w4 ⟨_, rfl, rfl, B4⟩
  have S4 := S3.grown B4
  refine ⟨_, rfl, S4.cell 0 rfl rfl, S4.cell 0 rfl rfl, (parts_api_Expr_ok ⟨#[32, 119, 104, 101, 114, 101, 32]⟩ (hrw.grown S4.bel) hCw (by omega) (by kernel_rfl) Ex.text (by decide) bd.wh ?_).mono ?_⟩
  · rintro w5 x cs B5 hx hxe
    obtain ⟨a9, cap9, _, rfl, _⟩ := ExC.open hxe
    exact show_expr_ok ((E.grown S4.bel).grown B5) ((hxe.grown S4.bel).grown B5) (hw x hx)
  rintro _ w5 ⟨_, rfl, rfl, B5⟩
  have S5 := S4.grown B5
  have z1 := part_size (B := 1000000) ⟨#[115, 101, 108, 101, 99, 116, 32]⟩ (q.it.map itemT) (fun x hx => by obtain ⟨y, hy, rfl⟩ := List.mem_map.1 hx; exact bd.it y hy)
  have z2 := part_size (B := 1000000) ⟨#[32, 119, 104, 101, 114, 101, 32]⟩ (q.wh.map Ex.text) (fun x hx => by obtain ⟨y, hy, rfl⟩ := List.mem_map.1 hx; exact bd.wh y hy)
  have z3 := part_size (B := 1000000) ⟨#[32, 103, 114, 111, 117, 112, 32, 98, 121, 32]⟩ (q.gr.map Ex.text) (fun x hx => by obtain ⟨y, hy, rfl⟩ := List.mem_map.1 hx; exact bd.gr y hy)
  have z4 := part_size (B := 1000000) ⟨#[32, 111, 114, 100, 101, 114, 32, 98, 121, 32]⟩ (q.od.map (keyT q.it)) (fun x hx => by obtain ⟨y, hy, rfl⟩ := List.mem_map.1 hx; exact bd.od y hy)
  rw [List.length_map] at z1 z2 z3 z4
  have f1 : (ByteArray.mk #[115, 101, 108, 101, 99, 116, 32]).size = 7 := rfl
  have f2 : (ByteArray.mk #[32, 119, 104, 101, 114, 101, 32]).size = 7 := rfl
  have f3 : (ByteArray.mk #[32, 103, 114, 111, 117, 112, 32, 98, 121, 32]).size = 10 := rfl
  have f4 : (ByteArray.mk #[32, 111, 114, 100, 101, 114, 32, 98, 121, 32]).size = 10 := rfl
  have m1 : q.it.length * (1000000 + 2) ≤ 16 * (1000000 + 2) := Nat.mul_le_mul_right _ (by omega)
  have m2 : q.wh.length * (1000000 + 2) ≤ 16 * (1000000 + 2) := Nat.mul_le_mul_right _ (by omega)
  have m3 : q.gr.length * (1000000 + 2) ≤ 16 * (1000000 + 2) := Nat.mul_le_mul_right _ (by omega)
  have m4 : q.od.length * (1000000 + 2) ≤ 16 * (1000000 + 2) := Nat.mul_le_mul_right _ (by omega)
  refine ⟨_, rfl, S5.cell 0 rfl rfl, by omega, (parts_api_Expr_ok ⟨#[32, 103, 114, 111, 117, 112, 32, 98, 121, 32]⟩ (hrg.grown S5.bel) hCg (by omega) (by kernel_rfl) Ex.text (by decide) bd.gr ?_).mono ?_⟩
  · rintro w6 x cs B6 hx hxe
    obtain ⟨a9, cap9, _, rfl, _⟩ := ExC.open hxe
    exact show_expr_ok ((E.grown S5.bel).grown B6) ((hxe.grown S5.bel).grown B6) (hg x hx)
  rintro _ w6 ⟨_, rfl, rfl, B6⟩
  have S6 := S5.grown B6
  refine ⟨_, rfl, by simp only [ByteArray.size_append]; omega, _, _, _, S6.cell 0 rfl rfl, (parts_api_Key_ok ⟨#[32, 111, 114, 100, 101, 114, 32, 98, 121, 32]⟩ (hro.grown S6.bel) hCo (by omega) (by kernel_rfl) (keyT q.it) (by decide) bd.od ?_).mono ?_⟩
  · rintro w7 k cs B7 hk ⟨rfl, _⟩
    exact show_key_ok 0 ((Q.grown S6.bel).grown B7) (S6.grown B7) rfl k (ho k hk) bd.nm
  rintro _ w7 ⟨_, rfl, rfl, B7⟩
  have S7 := S6.grown B7
  have hL : (ByteArray.mk #[32, 108, 105, 109, 105, 116, 32]).size = 7 := rfl
  have hit := Lib.itoa_length_le q.lim Q.lim.1 Q.lim.2
  refine ⟨_, rfl, by simp only [ByteArray.size_append]; omega, fun st w9 => st = [.string (quT q)] ∧ Below w.heap.size w w9, ?_, ?_⟩
  · refine ⟨_, S7.cell 0 rfl rfl, IFB_dec (fun h0 => ⟨_, S7.cell 0 rfl rfl, (Tryz.strconv_Itoa q.lim Q.lim.1 Q.lim.2 w7 (E.grown S7.bel).pow).mono ?_⟩) (fun h0 => ⟨?_, S7.bel⟩)⟩
    · rintro _ w8 ⟨rfl, k, os, rfl⟩
      have hsz : (sof (Lib.itoa q.lim)).size ≤ 21 := by rw [size_sof]; exact hit
      refine ⟨sof (Lib.itoa q.lim), rfl, by omega, by simp only [ByteArray.size_append]; omega, ?_, (S7.grown (below_grow w7 k os)).bel⟩
      unfold quT limT
      rw [if_pos h0]
    · unfold quT limT
      rw [if_neg h0, app_e0]
  · rintro s w9 ⟨hs9, B9⟩
    obtain rfl : s = quT q := by simpa using hs9
    refine IFB_dec (fun h => ⟨?_, B9⟩) (fun h => ⟨?_, B9⟩)
    · unfold showQ
      rw [if_neg (by simp [rightQ, hs]; omega)]
    · unfold showQ
      rw [if_pos (by simp [rightQ, hs]; omega)]
end
def aggLits : List ByteArray := [⟨#[]⟩, ⟨#[99, 111, 117, 110, 116, 40, 42, 41]⟩, ⟨#[99, 111, 117, 110, 116, 40]⟩, ⟨#[115, 117, 109, 40]⟩, ⟨#[109, 105, 110, 40]⟩, ⟨#[109, 97, 120, 40]⟩]
section
variable {w : World} {i : Itm} {a : Option Addr} {cap : Nat}
theorem ref11_gathered_ok (hx : XC w i.2.2 (exHead i.2.2 a cap)) (hr : rightI i = true) : Calls Tryz.prog f.ref11_gathered #[.agg ⟨itHead i a cap⟩] w (Ret fun r w' => r = .string (itemT i) ∧ Below w.heap.size w w') := by
  apply R.ref11_gathered_calls
  unfold R.ref11_gathered
  have hn := okName_size (rightI_iff.1 hr).1
  have e1 : (ByteArray.mk #[32, 97, 115, 32]).size = 4 := rfl
  have e2 : (ByteArray.mk #[99, 111, 117, 110, 116, 40, 42, 41]).size = 8 := rfl
  have e3 : (ByteArray.mk #[40]).size = 1 := rfl
  have e4 : (ByteArray.mk #[41]).size = 1 := rfl
  have ha := agg_size i.2.1
  have har := (rightI_iff.1 hr).2.1
  obtain ⟨n, hna⟩ : ∃ n : Nat, i.2.1 = n := ⟨i.2.1.toNat, by omega⟩
  have hn6 : n < 6 := by omega
  refine (ST.start w).newB fun b9 w1 _ _ S1 => S1.newB fun b10 w2 _ _ S2 => ⟨_, S2.cell 1 rfl rfl, ⟨by omega, by omega⟩, aggLits.getD n E0, ?_, ?_⟩
  · rw [hna, addr_one]
    refine S2.cell 0 rfl ?_
    show ((aggLits.map Value.string).toArray)[n]? = _
    have : n < aggLits.length := hn6
    simp [this, List.getD_eq_getElem?_getD]
  have hlit : ¬ n = 0 → ¬ n = 1 → aggLits.getD n E0 = aggName i.2.1 ++ ⟨#[40]⟩ := fun h0 h1 => by
    have h : n = 2 ∨ n = 3 ∨ n = 4 ∨ n = 5 := by omega
    rw [hna]
    rcases h with rfl | rfl | rfl | rfl <;> rfl
  refine ⟨fun st w4 => st = [.string (if n = 0 then i.2.2.text else aggLits.getD n E0)] ∧ ST w w4 [It.cells b10 (aggLits.map Value.string).toArray ty.string, itI b9 i a cap], ⟨_, S2.cell 1 rfl rfl, IFB_eq (fun h0 => ?_) (fun h0 => ⟨by rw [if_neg (by omega)], S2⟩)⟩, ?_⟩
  · have hX := rightI_x hr (by omega)
    refine ⟨_, S2.cell 1 rfl rfl, _, S2.cell 1 rfl rfl, _, S2.cell 1 rfl rfl, _, S2.cell 1 rfl rfl, _, S2.cell 1 rfl rfl, _, _, _, S2.cell 1 rfl rfl, (ref11_text_ok i.2.2 40 (rightX_fair hX hx.fit) (rightX_size hX) w2 a cap (hx.grown S2.bel)).mono ?_⟩
    rintro _ w3 ⟨_, rfl, rfl, B3⟩
    exact ⟨_, rfl, by rw [if_pos (by omega)], S2.grown B3⟩
  · rintro s w4 ⟨hs, S4⟩
    obtain rfl : s = if n = 0 then i.2.2.text else aggLits.getD n E0 := by simpa using hs
    refine ⟨_, S4.cell 1 rfl rfl, IFB_dec (fun h2 => ?_) (fun h2 => ?_)⟩
    · have hX := rightI_x hr (by omega)
      have ht := rightX_text hX hx.fit
      rw [if_neg (by omega), hlit (by omega) (by omega)]
      refine ⟨_, S4.cell 1 rfl rfl, _, S4.cell 1 rfl rfl, _, S4.cell 1 rfl rfl, _, S4.cell 1 rfl rfl, _, S4.cell 1 rfl rfl, _, _, _, S4.cell 1 rfl rfl, (ref11_text_ok i.2.2 40 (rightX_fair hX hx.fit) (rightX_size hX) w4 a cap (hx.grown S4.bel)).mono ?_⟩
      rintro _ w5 ⟨_, rfl, rfl, B5⟩
      have S5 := S4.grown B5
      refine ⟨_, rfl, by simp only [ByteArray.size_append]; omega, by simp only [ByteArray.size_append]; omega, by simp only [ByteArray.size_append]; omega, _, S5.cell 1 rfl rfl, by simp only [ByteArray.size_append]; omega, ?_, S5.bel⟩
      unfold itemT
      rw [if_neg (by omega), if_neg (by omega)]
    · have hz : (if n = 0 then i.2.2.text else aggLits.getD n E0).size ≤ 900000 := by
        split
        · have hX := rightI_x hr (by omega)
          have ht := rightX_text hX hx.fit
          omega
        · obtain rfl : n = 1 := by omega
          decide
      refine ⟨by omega, _, S4.cell 1 rfl rfl, by rw [ByteArray.size_append]; omega, ?_, S4.bel⟩
      unfold itemT
      by_cases h0 : n = 0
      · rw [if_pos h0, if_pos (by omega)]
      · obtain rfl : n = 1 := by omega
        rw [if_neg h0, if_neg (by omega), if_pos (by omega)]
        rfl
end
theorem part_zero {α : Type} (h : ByteArray) (l : List α) (g : α → ByteArray) : partT h ((l.take 0).map g) = E0 := rfl
theorem part_one {α : Type} (h : ByteArray) (l : List α) (g : α → ByteArray) (hl : 0 < l.length) : partT h ((l.take 1).map g) = h ++ g l[0] := by
  rw [List.take_succ_eq_append_getElem hl]
  rfl
theorem part_step {α : Type} (h : ByteArray) (l : List α) (g : α → ByteArray) {i : Nat} (hi : i < l.length) (h0 : 0 < i) : partT h ((l.take (i + 1)).map g) = partT h ((l.take i).map g) ++ ⟨#[44, 32]⟩ ++ g l[i] := by
  have hl : ((l.take i).map g).length = i := by simp; omega
  rw [List.take_succ_eq_append_getElem hi, List.map_append]
  unfold partT
  rw [if_neg (by simp), if_neg (by omega)]
  show h ++ commas ((l.take i).map g ++ [g l[i]]) = _
  rw [commas_snoc _ _ (fun e => by rw [e] at hl; simp at hl; omega)]
  simp only [ByteArray.append_assoc]
theorem take_size {α : Type} {B : Nat} {l : List α} {g : α → ByteArray} (h : ∀ x ∈ l, (g x).size ≤ B) (hd : ByteArray) (i : Nat) : (partT hd ((l.take i).map g)).size ≤ hd.size + l.length * (B + 2) := by
  have := part_size hd ((l.take i).map g) (fun x hx => by obtain ⟨y, hy, rfl⟩ := List.mem_map.1 hx; exact h y (List.mem_of_mem_take hy))
  rw [List.length_map, List.length_take] at this
  have h2 : min i l.length * (B + 2) ≤ l.length * (B + 2) := Nat.mul_le_mul_right _ (Nat.min_le_right _ _)
  omega
def selT : ByteArray := ⟨#[115, 101, 108, 101, 99, 116, 32]⟩
def whT : ByteArray := ⟨#[32, 119, 104, 101, 114, 101, 32]⟩
def grT : ByteArray := ⟨#[32, 103, 114, 111, 117, 112, 32, 98, 121, 32]⟩
def odT : ByteArray := ⟨#[32, 111, 114, 100, 101, 114, 32, 98, 121, 32]⟩
def accI (q : Qu) (i : Nat) : ByteArray := if i = 0 then selT else partT selT ((q.it.take i).map itemT)
section
variable {w : World} {q : Qu} {ai aw ag ao : Option Addr} {ci cw cg co : Nat}
theorem ref11_shown_ok (Q : QAt w q ai aw ag ao) (hs : smallQ q = true) : Calls Tryz.prog f.ref11_shown #[.agg ⟨quL q ai aw ag ao ci cw cg co⟩] w (Ret fun r w' => r = .string (quT q) ∧ Below w.heap.size w w') := by
  apply R.ref11_shown_calls
  unfold R.ref11_shown
  obtain ⟨hn, hi, hw, hg, ho⟩ := smallQ_iff.1 hs
  have bd := Q.bnd hs
  obtain ⟨ri, hri, hCi⟩ := Q.it
  obtain ⟨rw_, hrw, hCw⟩ := Q.wh
  obtain ⟨rg, hrg, hCg⟩ := Q.gr
  obtain ⟨ro, hro, hCo⟩ := Q.od
  have e2 : (ByteArray.mk #[44, 32]).size = 2 := rfl
  have f1 : (ByteArray.mk #[115, 101, 108, 101, 99, 116, 32]).size = 7 := rfl
  have f2 : (ByteArray.mk #[32, 119, 104, 101, 114, 101, 32]).size = 7 := rfl
  have f3 : (ByteArray.mk #[32, 103, 114, 111, 117, 112, 32, 98, 121, 32]).size = 10 := rfl
  have f4 : (ByteArray.mk #[32, 111, 114, 100, 101, 114, 32, 98, 121, 32]).size = 10 := rfl
  have g1 : selT.size = 7 := rfl
  have g2 : whT.size = 7 := rfl
  have g3 : grT.size = 10 := rfl
  have g4 : odT.size = 10 := rfl
  have m1 : q.it.length * (1000000 + 2) ≤ 16 * (1000000 + 2) := Nat.mul_le_mul_right _ (by omega)
  have m2 : q.wh.length * (1000000 + 2) ≤ 16 * (1000000 + 2) := Nat.mul_le_mul_right _ (by omega)
  have m3 : q.gr.length * (1000000 + 2) ≤ 16 * (1000000 + 2) := Nat.mul_le_mul_right _ (by omega)
  have m4 : q.od.length * (1000000 + 2) ≤ 16 * (1000000 + 2) := Nat.mul_le_mul_right _ (by omega)
  have z1 := take_size (B := 1000000) bd.it selT
  have z2 := take_size (B := 1000000) bd.wh whT
  have z3 := take_size (B := 1000000) bd.gr grT
  have z4 := take_size (B := 1000000) bd.od odT
  refine (ST.start w).newB fun b6 w1 _ _ S1 => ?_
  have S1 : ST w w1 [quI b6 q ai aw ag ao ci cw cg co] := S1
  refine ⟨fun st w2 => ∃ i : Nat, st = [.string (accI q i), .int .i64 (i : Int)] ∧ i ≤ q.it.length ∧ ST w w2 [quI b6 q ai aw ag ao ci cw cg co], fun st _ => match st with | [_, .int _ t] => q.it.length - t.toNat | _ => 0, ⟨0, rfl, by omega, S1⟩, ?_⟩
  rintro s t w2 ⟨i, hst, hil, S2⟩
  cases hst
  refine ⟨_, _, _, S2.cell 0 rfl rfl, IFB_dec (fun hlt => ?_) (fun hge => ?_)⟩
  · have hi1 : i < q.it.length := by omega
    obtain ⟨p, a3, cap3, hpa, hxk, hsz, cell⟩ := item_at (hri.grown S2.bel) hCi hi1
    have hz := bd.it _ (List.getElem_mem hi1)
    have next : ∀ w', ST w w' [quI b6 q ai aw ag ao ci cw cg co] → ∀ s, s = accI q (i + 1) → (∃ j : Nat, [Value.string s, Value.int .i64 (IntKind.i64.wrap ((i : Int) + 1))] = [.string (accI q j), .int .i64 (j : Int)] ∧ j ≤ q.it.length ∧ ST w w' [quI b6 q ai aw ag ao ci cw cg co]) ∧ q.it.length - (IntKind.i64.wrap ((i : Int) + 1)).toNat < q.it.length - ((i : Nat) : Int).toNat := by
      rintro w' S s rfl
      rw [wrap_succ (by omega)]
      refine ⟨⟨i + 1, rfl, by omega, S⟩, ?_⟩
      simp only [Int.toNat_natCast]
      omega
    subst hpa
    refine IFB_dec (fun h0 => ?_) (fun h0 => ?_)
    · have hacc : accI q i = partT selT ((q.it.take i).map itemT) := by unfold accI; rw [if_neg (by omega)]
      have hzi := z1 i
      rw [← hacc] at hzi
      refine ⟨by omega, _, _, _, S2.cell 0 rfl rfl, ⟨by omega, hlt⟩, _, by rw [Int.toNat_natCast]; exact cell 0 _ rfl, _, by rw [Int.toNat_natCast]; exact cell 1 _ rfl, _, by rw [Int.toNat_natCast]; exact cell 2 _ rfl, _, by rw [Int.toNat_natCast]; exact cell 3 _ rfl, _, by rw [Int.toNat_natCast]; exact cell 4 _ rfl, _, by rw [Int.toNat_natCast]; exact cell 5 _ rfl, _, by rw [Int.toNat_natCast]; exact cell 6 _ rfl, _, _, _, by rw [Int.toNat_natCast]; exact cell 7 _ rfl, (ref11_gathered_ok (i := q.it[i]) (hxk.grown S2.bel) (hi _ (List.getElem_mem hi1))).mono ?_⟩
      rintro _ w3 ⟨_, rfl, rfl, B3⟩
      refine ⟨_, rfl, by simp only [ByteArray.size_append]; omega, next _ (S2.grown B3) _ ?_⟩
      rw [hacc]
      unfold accI
      rw [if_neg (by omega), part_step _ _ _ hi1 (by omega)]
    · obtain rfl : i = 0 := by omega
      have hz0 : (accI q 0).size = 7 := rfl
      refine ⟨_, _, _, S2.cell 0 rfl rfl, ⟨by omega, hlt⟩, _, by rw [Int.toNat_natCast]; exact cell 0 _ rfl, _, by rw [Int.toNat_natCast]; exact cell 1 _ rfl, _, by rw [Int.toNat_natCast]; exact cell 2 _ rfl, _, by rw [Int.toNat_natCast]; exact cell 3 _ rfl, _, by rw [Int.toNat_natCast]; exact cell 4 _ rfl, _, by rw [Int.toNat_natCast]; exact cell 5 _ rfl, _, by rw [Int.toNat_natCast]; exact cell 6 _ rfl, _, _, _, by rw [Int.toNat_natCast]; exact cell 7 _ rfl, (ref11_gathered_ok (i := q.it[0]) (hxk.grown S2.bel) (hi _ (List.getElem_mem hi1))).mono ?_⟩
      rintro _ w3 ⟨_, rfl, rfl, B3⟩
      refine ⟨_, rfl, by omega, next _ (S2.grown B3) _ ?_⟩
      unfold accI
      rw [if_pos rfl, if_neg (by omega), part_one _ _ _ hi1]
  have hacc : accI q i = partT selT (q.it.map itemT) := by
    obtain rfl : i = q.it.length := by omega
    unfold accI
    rw [if_neg (by omega), List.take_length]
  have hz1 : (partT selT (q.it.map itemT)).size ≤ 7 + 16 * (1000000 + 2) := by have := z1 q.it.length; rw [List.take_length] at this; omega
  have hz2 : (partT whT (q.wh.map Ex.text)).size ≤ 7 + 16 * (1000000 + 2) := by have := z2 q.wh.length; rw [List.take_length] at this; omega
  rw [hacc]
  refine ⟨fun st w6 => st = [.string (partT selT (q.it.map itemT) ++ partT whT (q.wh.map Ex.text))] ∧ ST w w6 [quI b6 q ai aw ag ao ci cw cg co], ⟨_, _, _, S2.cell 0 rfl rfl, IFB_dec (fun h0 => ?_) (fun h0 => ?_)⟩, ?_⟩
  · have hwl : 0 < q.wh.length := by omega
    obtain ⟨p, a3, cap3, hpa, hxk, cell⟩ := exs_at (hrw.grown S2.bel) hCw hwl
    subst hpa
    have hX := hw _ (List.getElem_mem hwl)
    have hz := bd.wh _ (List.getElem_mem hwl)
    refine ⟨by omega, _, _, _, S2.cell 0 rfl rfl, ⟨by omega, by omega⟩, _, cell 0 _ rfl, _, cell 1 _ rfl, _, cell 2 _ rfl, _, cell 3 _ rfl, _, cell 4 _ rfl, _, _, _, cell 5 _ rfl, (ref11_text_ok _ 40 (rightX_fair hX hxk.fit) (rightX_size hX) w2 a3 cap3 (hxk.grown S2.bel)).mono ?_⟩
    rintro _ w5 ⟨_, rfl, rfl, B5⟩
    refine ⟨_, rfl, by simp only [ByteArray.size_append]; omega, ?_, S2.grown B5⟩
    have : q.wh = [q.wh[0]] := by
      match hq : q.wh, hwl with
      | [x], _ => rfl
      | x :: y :: l, _ => rw [hq] at hn; simp at hn
    rw [show partT whT (q.wh.map Ex.text) = whT ++ q.wh[0].text by
      conv => lhs; rw [this]
      rfl, ByteArray.append_assoc]
    rfl
  · have : q.wh = [] := List.eq_nil_of_length_eq_zero (by omega)
    refine ⟨?_, S2⟩
    rw [this]
    exact congrArg (fun x => [Value.string x]) (app_e0 _).symm
  rintro s w6 ⟨hs6, S6⟩
  obtain rfl : s = partT selT (q.it.map itemT) ++ partT whT (q.wh.map Ex.text) := by simpa using hs6
  obtain ⟨P2, hP2⟩ : ∃ P2, P2 = partT selT (q.it.map itemT) ++ partT whT (q.wh.map Ex.text) := ⟨_, rfl⟩
  have hzP2 : P2.size ≤ 14 + 32 * (1000000 + 2) := by rw [hP2, ByteArray.size_append]; omega
  rw [← hP2]
  refine ⟨fun st w7 => ∃ i : Nat, st = [.string (P2 ++ partT grT ((q.gr.take i).map Ex.text)), .int .i64 (i : Int)] ∧ i ≤ q.gr.length ∧ ST w w7 [quI b6 q ai aw ag ao ci cw cg co], fun st _ => match st with | [_, .int _ t] => q.gr.length - t.toNat | _ => 0, ⟨0, by rw [part_zero, app_e0]; rfl, by omega, S6⟩, ?_⟩
  rintro s t w7 ⟨i, hst, hil, S7⟩
  cases hst
  have hzi := z3 i
  refine ⟨_, _, _, S7.cell 0 rfl rfl, IFB_dec (fun hlt => ?_) (fun hge => ?_)⟩
  · have hi1 : i < q.gr.length := by omega
    have next : ∀ w', ST w w' [quI b6 q ai aw ag ao ci cw cg co] → ∀ s, s = P2 ++ partT grT ((q.gr.take (i + 1)).map Ex.text) → (∃ j : Nat, [Value.string s, Value.int .i64 (IntKind.i64.wrap ((i : Int) + 1))] = [.string (P2 ++ partT grT ((q.gr.take j).map Ex.text)), .int .i64 (j : Int)] ∧ j ≤ q.gr.length ∧ ST w w' [quI b6 q ai aw ag ao ci cw cg co]) ∧ q.gr.length - (IntKind.i64.wrap ((i : Int) + 1)).toNat < q.gr.length - ((i : Nat) : Int).toNat := by
      rintro w' S s rfl
      rw [wrap_succ (by omega)]
      refine ⟨⟨i + 1, rfl, by omega, S⟩, ?_⟩
      simp only [Int.toNat_natCast]
      omega
    obtain ⟨p, a3, cap3, hpa, hxk, cell⟩ := exs_at (hrg.grown S7.bel) hCg hi1
    subst hpa
    have hX := hg _ (List.getElem_mem hi1)
    have hz := bd.gr _ (List.getElem_mem hi1)
    refine IFB_eq (fun h0 => ?_) (fun h0 => ?_)
    · obtain rfl : i = 0 := by omega
      rw [part_zero, app_e0]
      refine ⟨by omega, _, _, _, S7.cell 0 rfl rfl, ⟨by omega, by omega⟩, _, cell 0 _ rfl, _, cell 1 _ rfl, _, cell 2 _ rfl, _, cell 3 _ rfl, _, cell 4 _ rfl, _, _, _, cell 5 _ rfl, (ref11_text_ok _ 40 (rightX_fair hX hxk.fit) (rightX_size hX) w7 a3 cap3 (hxk.grown S7.bel)).mono ?_⟩
      rintro _ w8 ⟨_, rfl, rfl, B8⟩
      refine ⟨_, rfl, by simp only [ByteArray.size_append]; omega, next _ (S7.grown B8) _ ?_⟩
      rw [part_one _ _ _ hi1, ByteArray.append_assoc]
      rfl
    · refine ⟨by simp only [ByteArray.size_append]; omega, _, _, _, S7.cell 0 rfl rfl, ⟨by omega, hlt⟩, _, by rw [Int.toNat_natCast]; exact cell 0 _ rfl, _, by rw [Int.toNat_natCast]; exact cell 1 _ rfl, _, by rw [Int.toNat_natCast]; exact cell 2 _ rfl, _, by rw [Int.toNat_natCast]; exact cell 3 _ rfl, _, by rw [Int.toNat_natCast]; exact cell 4 _ rfl, _, _, _, by rw [Int.toNat_natCast]; exact cell 5 _ rfl, (ref11_text_ok _ 40 (rightX_fair hX hxk.fit) (rightX_size hX) w7 a3 cap3 (hxk.grown S7.bel)).mono ?_⟩
      rintro _ w8 ⟨_, rfl, rfl, B8⟩
      refine ⟨_, rfl, by simp only [ByteArray.size_append]; omega, next _ (S7.grown B8) _ ?_⟩
      rw [part_step _ _ _ hi1 (by omega)]
      simp only [ByteArray.append_assoc]
  obtain rfl : i = q.gr.length := by omega
  rw [List.take_length] at hzi ⊢
  obtain ⟨P3, hP3⟩ : ∃ P3, P3 = P2 ++ partT grT (q.gr.map Ex.text) := ⟨_, rfl⟩
  have hzP3 : P3.size ≤ 24 + 48 * (1000000 + 2) := by rw [hP3, ByteArray.size_append]; omega
  rw [← hP3]
  refine ⟨fun st w10 => ∃ i : Nat, st = [.string (P3 ++ partT odT ((q.od.take i).map (keyT q.it))), .int .i64 (i : Int)] ∧ i ≤ q.od.length ∧ ST w w10 [quI b6 q ai aw ag ao ci cw cg co], fun st _ => match st with | [_, .int _ t] => q.od.length - t.toNat | _ => 0, ⟨0, by rw [part_zero, app_e0]; rfl, by omega, S7⟩, ?_⟩
  rintro s t w10 ⟨i, hst, hil, S10⟩
  cases hst
  have hzj := z4 i
  refine ⟨_, _, _, S10.cell 0 rfl rfl, IFB_dec (fun hlt => ?_) (fun hge => ?_)⟩
  · have hi1 : i < q.od.length := by omega
    refine ⟨fun st w11 => st = [.string (P3 ++ if i = 0 then odT else partT odT ((q.od.take i).map (keyT q.it)) ++ ⟨#[44, 32]⟩)] ∧ w11 = w10, IFB_eq (fun h0 => ⟨by rw [ByteArray.size_append]; omega, ?_, rfl⟩) (fun h0 => ⟨by simp only [ByteArray.size_append]; omega, ?_, rfl⟩), ?_⟩
    · obtain rfl : i = 0 := by omega
      rw [part_zero, app_e0, if_pos rfl]
      rfl
    · rw [if_neg (by omega), ByteArray.append_assoc]
    rintro s w11 ⟨hs11, rfl⟩
    obtain rfl : s = P3 ++ if i = 0 then odT else partT odT ((q.od.take i).map (keyT q.it)) ++ ⟨#[44, 32]⟩ := by simpa using hs11
    have hzs : (P3 ++ if i = 0 then odT else partT odT ((q.od.take i).map (keyT q.it)) ++ ⟨#[44, 32]⟩).size ≤ 100 + 64 * (1000000 + 2) := by
      rw [ByteArray.size_append]
      split
      · omega
      · rw [ByteArray.size_append]; omega
    refine S10.draw fun w12 _ S12 => ?_
    obtain ⟨pk, hpk, hk0, hk1, _⟩ := key_at (hro.grown S12.bel) hCo hi1
    obtain ⟨m, hm, he, _⟩ := rightK_iff.1 (ho _ (List.getElem_mem hi1))
    obtain ⟨pi, hpi, hc⟩ := it_name (hri.grown S12.bel) hCi hm
    subst hpk
    subst hpi
    have hnm := bd.nm _ (List.getElem_mem hm)
    have f5 : (ByteArray.mk #[32, 100, 101, 115, 99]).size = 5 := rfl
    refine ⟨_, _, _, S12.cell 0 rfl rfl, _, _, _, S12.cell 0 rfl rfl, ⟨by omega, hlt⟩, _, by rw [Int.toNat_natCast]; exact hk0, ⟨by omega, by omega⟩, _, by rw [he, Int.toNat_natCast]; exact hc, by omega, _, _, _, S12.cell 0 rfl rfl, ⟨by omega, hlt⟩, _, by rw [Int.toNat_natCast]; exact hk1, ?_⟩
    have next : ∀ w', ST w w' [quI b6 q (some pi) aw ag (some pk) ci cw cg co] → ∀ s, s = P3 ++ partT odT ((q.od.take (i + 1)).map (keyT q.it)) → (∃ j : Nat, [Value.string s, Value.int .i64 (IntKind.i64.wrap ((i : Int) + 1))] = [.string (P3 ++ partT odT ((q.od.take j).map (keyT q.it))), .int .i64 (j : Int)] ∧ j ≤ q.od.length ∧ ST w w' [quI b6 q (some pi) aw ag (some pk) ci cw cg co]) ∧ q.od.length - (IntKind.i64.wrap ((i : Int) + 1)).toNat < q.od.length - ((i : Nat) : Int).toNat := by
      rintro w' S s rfl
      rw [wrap_succ (by omega)]
      refine ⟨⟨i + 1, rfl, by omega, S⟩, ?_⟩
      simp only [Int.toNat_natCast]
      omega
    have hstep : partT odT ((q.od.take (i + 1)).map (keyT q.it)) = (if i = 0 then odT else partT odT ((q.od.take i).map (keyT q.it)) ++ ⟨#[44, 32]⟩) ++ keyT q.it q.od[i] := by
      by_cases h0 : i = 0
      · subst h0
        rw [part_one _ _ _ hi1, if_pos rfl]
      · rw [part_step _ _ _ hi1 (by omega), if_neg h0]
    refine IFB_of (fun hd => ⟨by rw [ByteArray.size_append]; omega, next _ S12 _ ?_⟩) (fun hd => next _ S12 _ ?_)
    · rw [hstep, keyT_at hm he, hd]
      simp only [ByteArray.append_assoc]
      rfl
    · rw [hstep, keyT_at hm he, hd]
      rw [show (if false = true then (ByteArray.mk #[32, 100, 101, 115, 99]) else E0) = E0 from rfl, app_e0]
      simp only [ByteArray.append_assoc]
  obtain rfl : i = q.od.length := by omega
  rw [List.take_length] at hzj ⊢
  have hL : (ByteArray.mk #[32, 108, 105, 109, 105, 116, 32]).size = 7 := rfl
  have hq : quT q = P3 ++ partT odT (q.od.map (keyT q.it)) ++ limT q.lim := by rw [hP3, hP2]; rfl
  have hit := Lib.itoa_length_le q.lim Q.lim.1 Q.lim.2
  have hsz : (sof (Lib.itoa q.lim)).size ≤ 21 := by rw [size_sof]; exact hit
  refine ⟨_, S10.cell 0 rfl rfl, IFB_dec (fun h0 => ⟨by rw [ByteArray.size_append]; omega, _, S10.cell 0 rfl rfl, (ref_Digits_ok w10 q.lim Q.lim.1 Q.lim.2).mono ?_⟩) (fun h0 => ⟨?_, S10.bel⟩)⟩
  · rintro _ w13 ⟨_, rfl, rfl, B13⟩
    refine ⟨_, rfl, by simp only [ByteArray.size_append]; omega, ?_, (S10.grown B13).bel⟩
    rw [hq]
    unfold limT
    rw [if_pos h0]
    simp only [ByteArray.append_assoc]
  · rw [hq]
    unfold limT
    rw [if_neg h0, app_e0]
theorem ref11_Right_ok (Q : QAt w q ai aw ag ao) : Calls Tryz.prog f.ref11_Right #[.agg ⟨quL q ai aw ag ao ci cw cg co⟩] w (Ret fun r w' => r = .bool (rightQ q) ∧ Below w.heap.size w w') := by
  apply R.ref11_Right_calls
  unfold R.ref11_Right
  refine (ST.start w).newB fun b6 w1 _ _ S1 => ?_
  have S1 : ST w w1 [quI b6 q ai aw ag ao ci cw cg co] := S1
  refine ⟨_, _, _, S1.cell 0 rfl rfl, _, _, _, S1.cell 0 rfl rfl, _, _, _, S1.cell 0 rfl rfl, _, _, _, S1.cell 0 rfl rfl, _, S1.cell 0 rfl rfl, (ref11_small_ok (Q.grown S1.bel) (ci := ci) (cw := cw) (cg := cg) (co := co)).mono ?_⟩
  rintro _ w2 ⟨_, rfl, rfl, B2⟩
  have S2 := S1.grown B2
  refine ⟨_, rfl, IFB_of (fun hs => ⟨_, _, _, S2.cell 0 rfl rfl, _, _, _, S2.cell 0 rfl rfl, _, _, _, S2.cell 0 rfl rfl, _, _, _, S2.cell 0 rfl rfl, _, S2.cell 0 rfl rfl, (ref11_shown_ok (Q.grown S2.bel) hs (ci := ci) (cw := cw) (cg := cg) (co := co)).mono ?_⟩) (fun hs => ⟨by simp [rightQ, hs], S2.bel⟩)⟩
  rintro _ w3 ⟨_, rfl, rfl, B3⟩
  refine ⟨_, rfl, ?_, (S2.grown B3).bel⟩
  congr 1
  rw [Bool.eq_iff_iff]
  simp [rightQ, hs]
  omega
end
theorem same_self (x : Ex) : x.same x = true := (same_iff x x).2 rfl
theorem IFB_yes {b : Bool} {A B : Prop} (hb : b = true) (h : A) : IFB b A B := by subst hb; exact h
theorem IFB_no {b : Bool} {A B : Prop} (hb : b = false) (h : B) : IFB b A B := by subst hb; exact h
section
variable {w : World} {q : Qu} {ai aw ag ao bi bw bg bo : Option Addr} {ci cw cg co di dw dg d_o : Nat}
end
/-! ### lists of columns -/
section
variable {w : World} {a b : Option Addr} {c d : Nat}
end
section
variable {w0 w : World} {H : List It}
theorem stX (S : ST w0 w H) (n : Nat) {b : Nat} {x : Ex} {a : Option Addr} {cap : Nat} (hn : H[n]? = some (exI b (exHead x a cap))) {Q : Int → ByteArray → Int → Int → ByteArray → Option Addr → Nat → Nat → Prop} (hq : Q x.op x.nm x.v.1 x.v.2.1 x.v.2.2 a x.ks.length cap) :
    ∃ t0 : Int, w.cell? ⟨b, 0, none⟩ = some (.int .i64 t0) ∧ ∃ t1 : ByteArray, w.cell? ⟨b, 1, none⟩ = some (.string t1) ∧ ∃ t2 : Int, w.cell? ⟨b, 2, none⟩ = some (.int .i64 t2) ∧ ∃ t3 : Int, w.cell? ⟨b, 3, none⟩ = some (.int .i64 t3) ∧ ∃ t4 : ByteArray, w.cell? ⟨b, 4, none⟩ = some (.string t4) ∧
      ∃ (t5 : Option Addr) (l c : Nat), w.cell? ⟨b, 5, none⟩ = some (.slice t5 l c) ∧ Q t0 t1 t2 t3 t4 t5 l c :=
  ⟨_, S.cell n hn rfl, _, S.cell n hn rfl, _, S.cell n hn rfl, _, S.cell n hn rfl, _, S.cell n hn rfl, _, _, _, S.cell n hn rfl, hq⟩
theorem stQ (S : ST w0 w H) (n : Nat) {b : Nat} {q : Qu} {ai aw ag ao : Option Addr} {ci cw cg co : Nat} (hn : H[n]? = some (quI b q ai aw ag ao ci cw cg co)) {Q : Option Addr → Nat → Nat → Option Addr → Nat → Nat → Option Addr → Nat → Nat → Option Addr → Nat → Nat → Int → Prop}
    (hq : Q ai q.it.length ci aw q.wh.length cw ag q.gr.length cg ao q.od.length co q.lim) :
    ∃ (a0 : Option Addr) (l0 c0 : Nat), w.cell? ⟨b, 0, none⟩ = some (.slice a0 l0 c0) ∧ ∃ (a1 : Option Addr) (l1 c1 : Nat), w.cell? ⟨b, 1, none⟩ = some (.slice a1 l1 c1) ∧ ∃ (a2 : Option Addr) (l2 c2 : Nat), w.cell? ⟨b, 2, none⟩ = some (.slice a2 l2 c2) ∧ ∃ (a3 : Option Addr) (l3 c3 : Nat), w.cell? ⟨b, 3, none⟩ = some (.slice a3 l3 c3) ∧
      ∃ n4 : Int, w.cell? ⟨b, 4, none⟩ = some (.int .i64 n4) ∧ Q a0 l0 c0 a1 l1 c1 a2 l2 c2 a3 l3 c3 n4 :=
  ⟨_, _, _, S.cell n hn rfl, _, _, _, S.cell n hn rfl, _, _, _, S.cell n hn rfl, _, _, _, S.cell n hn rfl, _, S.cell n hn rfl, hq⟩
end
abbrev Tk := Int × Int × ByteArray
def tkC (t : Tk) : List Value := [.int .i64 t.1, .int .i64 t.2.1, .string t.2.2]
abbrev tksL (T : List Tk) : List Value := T.flatMap tkC
theorem tk_at {w : World} {a : Option Addr} {T : List Tk} (hl : Rd w a (tksL T)) {i : Nat} (hi : i < T.length) : ∃ p, a = some p ∧ w.cell? (p.add (i * 3)) = some (.int .i64 T[i].1) ∧ w.cell? ((p.add (i * 3)).add 1) = some (.int .i64 T[i].2.1) ∧ w.cell? ((p.add (i * 3)).add 2) = some (.string T[i].2.2) := by
  have hc : ∀ c : Tk, (tkC c).length = 3 := fun _ => rfl
  obtain ⟨p, hp, h0⟩ := hl (i * 3 + 0) _ (by rw [flat_get hc T i 0 hi (by omega)]; rfl)
  obtain ⟨p1, hp1, h1⟩ := hl (i * 3 + 1) _ (by rw [flat_get hc T i 1 hi (by omega)]; rfl)
  obtain ⟨p2, hp2, h2⟩ := hl (i * 3 + 2) _ (by rw [flat_get hc T i 2 hi (by omega)]; rfl)
  subst hp
  cases hp1
  cases hp2
  exact ⟨p, rfl, h0, by rw [addr_add_add]; exact h1, by rw [addr_add_add]; exact h2⟩
section
variable {w w0 : World} {H : List It} {b : Nat} {a : Option Addr} {c i : Nat} {ok : Bool} {T : List Tk}
end
section
variable {w0 w : World} {H : List It}
theorem stEx (S : ST w0 w H) (n : Nat) {b : Nat} {x0 x1 x2 x3 x4 x5 : Value} {t0 t2 t3 : Int} {t1 t4 : ByteArray} {a5 : Option Addr} {l5 c5 : Nat} {t : TypeId} (hn : H[n]? = some (It.cells b #[x0, x1, x2, x3, x4, x5] t)) {Q : Int → ByteArray → Int → Int → ByteArray → Option Addr → Nat → Nat → World → Prop}
    (hk : ∀ w', ST w0 w' (H.set n (It.cells b #[.int .i64 t0, .string t1, .int .i64 t2, .int .i64 t3, .string t4, .slice a5 l5 c5] t)) → Q t0 t1 t2 t3 t4 a5 l5 c5 w') :
    STO ⟨b, 0, none⟩ (.int .i64 t0) (fun w => STO ⟨b, 1, none⟩ (.string t1) (fun w => STO ⟨b, 2, none⟩ (.int .i64 t2) (fun w => STO ⟨b, 3, none⟩ (.int .i64 t3) (fun w => STO ⟨b, 4, none⟩ (.string t4) (fun w => STO ⟨b, 5, none⟩ (.slice a5 l5 c5) (fun w =>
      ∃ r0 : Int, w.cell? ⟨b, 0, none⟩ = some (.int .i64 r0) ∧ ∃ r1 : ByteArray, w.cell? ⟨b, 1, none⟩ = some (.string r1) ∧ ∃ r2 : Int, w.cell? ⟨b, 2, none⟩ = some (.int .i64 r2) ∧ ∃ r3 : Int, w.cell? ⟨b, 3, none⟩ = some (.int .i64 r3) ∧ ∃ r4 : ByteArray, w.cell? ⟨b, 4, none⟩ = some (.string r4) ∧
      ∃ (r5 : Option Addr) (r5l r5c : Nat), w.cell? ⟨b, 5, none⟩ = some (.slice r5 r5l r5c) ∧ Q r0 r1 r2 r3 r4 r5 r5l r5c w) w) w) w) w) w) w := by
  have hlt := (List.getElem?_eq_some_iff.1 hn).1
  have g : ∀ {x : It}, (H.set n x)[n]? = some x := List.getElem?_set_self hlt
  refine S.sto n hn (cs' := #[.int .i64 t0, x1, x2, x3, x4, x5]) (by simp) rfl fun w1 S1 => S1.sto n g (cs' := #[.int .i64 t0, .string t1, x2, x3, x4, x5]) (by simp) rfl fun w2 S2 => ?_
  rw [List.set_set] at S2
  refine S2.sto n g (cs' := #[.int .i64 t0, .string t1, .int .i64 t2, x3, x4, x5]) (by simp) rfl fun w3 S3 => ?_
  rw [List.set_set] at S3
  refine S3.sto n g (cs' := #[.int .i64 t0, .string t1, .int .i64 t2, .int .i64 t3, x4, x5]) (by simp) rfl fun w4 S4 => ?_
  rw [List.set_set] at S4
  refine S4.sto n g (cs' := #[.int .i64 t0, .string t1, .int .i64 t2, .int .i64 t3, .string t4, x5]) (by simp) rfl fun w5 S5 => ?_
  rw [List.set_set] at S5
  refine S5.sto n g (cs' := #[.int .i64 t0, .string t1, .int .i64 t2, .int .i64 t3, .string t4, .slice a5 l5 c5]) (by simp) rfl fun w6 S6 => ?_
  rw [List.set_set] at S6
  exact ⟨_, S6.cell n g rfl, _, S6.cell n g rfl, _, S6.cell n g rfl, _, S6.cell n g rfl, _, S6.cell n g rfl, _, _, _, S6.cell n g rfl, hk w6 S6⟩
end
def colX (s : ByteArray) : Ex := .mk 1 s V0 []
def headW : List ByteArray := [⟨#[110, 117, 108, 108]⟩, ⟨#[116, 114, 117, 101]⟩, ⟨#[102, 97, 108, 115, 101]⟩, ⟨#[108, 101, 110]⟩, ⟨#[40]⟩, ⟨#[45]⟩, ⟨#[110, 111, 116]⟩, ⟨#[99, 111, 117, 110, 116]⟩, ⟨#[115, 117, 109]⟩, ⟨#[109, 105, 110]⟩, ⟨#[109, 97, 120]⟩]
abbrev lvl (b10 b2 : Nat) (x : Ex) (H : List It) : List It := exI b10 (exHead x none 0) :: It.cells b2 #[.int .i64 0, .string E0, .int .i64 0, .int .i64 0, .string E0, .slice none 0 0] ty.api_Expr :: H
end Go.Proofs.YtbpdfpfgijhokaaGreatDoor
namespace Go.Proofs.YtbpdfpfgijhokaaGreatDoor
set_option maxRecDepth 100000
open Go.Dn Go.Proofs
open Go.RowKit (Below)
set_option linter.unusedVariables false
/-! ### plain -/
def isLet (c : UInt8) : Bool := decide (97 ≤ c.toNat ∧ c.toNat ≤ 122)
def isDig (c : UInt8) : Bool := decide (48 ≤ c.toNat ∧ c.toNat ≤ 57)
def wordCh (c : UInt8) : Bool := isLet c || isDig c || decide (c.toNat = 95)
def runN (p : UInt8 → Bool) : List UInt8 → Nat
  | [] => 0
  | c :: r => if p c then runN p r + 1 else 0
def quoteN : List UInt8 → Nat
  | [] => 0
  | c :: r => if c.toNat ≠ 39 then (if quoteN r = 0 then 0 else quoteN r + 1) else
    match r with
    | [] => 1
    | d :: r' => if d.toNat ≠ 39 then 1 else if quoteN r' = 0 then 0 else quoteN r' + 2
def signCh (c : UInt8) : Bool := [40, 41, 44, 43, 45, 42, 47, 37, 61, 60].contains c.toNat
theorem runN_le (p : UInt8 → Bool) : ∀ l, runN p l ≤ l.length
  | [] => Nat.le_refl _
  | c :: r => by have := runN_le p r; simp only [runN, List.length_cons]; split <;> omega
theorem runN_at {p : UInt8 → Bool} : ∀ {l : List UInt8} {n : Nat}, n ≤ l.length → (∀ c ∈ l.take n, p c = true) → (∀ h : n < l.length, p l[n] = false) → runN p l = n
  | [], n, hn, _, _ => by simp at hn; simp [runN, hn]
  | c :: r, 0, _, _, h => by
    have := h (by simp)
    simp only [List.getElem_cons_zero] at this
    simp [runN, this]
  | c :: r, n + 1, hn, h1, h2 => by
    have hc := h1 c (by simp)
    simp only [runN, hc, if_true]
    rw [runN_at (l := r) (n := n) (by simpa using hn) (fun d hd => h1 d (by simp [hd])) fun h => by have := h2 (by simpa using h); simpa using this]
theorem quoteN_other {c : UInt8} (h : c.toNat ≠ 39) (r : List UInt8) : quoteN (c :: r) = if quoteN r = 0 then 0 else quoteN r + 1 := by
  cases r with
  | nil => simp [quoteN, h]
  | cons d r => rw [quoteN, if_pos h]
theorem quoteN_end {c : UInt8} (h : c.toNat = 39) : quoteN [c] = 1 := by rw [quoteN, if_neg (by omega)]
theorem quoteN_one {c d : UInt8} (h : c.toNat = 39) (h2 : d.toNat ≠ 39) (r : List UInt8) : quoteN (c :: d :: r) = 1 := by rw [quoteN, if_neg (by omega)]; exact if_pos h2
theorem quoteN_two {c d : UInt8} (h : c.toNat = 39) (h2 : d.toNat = 39) (r : List UInt8) : quoteN (c :: d :: r) = if quoteN r = 0 then 0 else quoteN r + 2 := by rw [quoteN, if_neg (by omega)]; exact if_neg (by omega)
/-! ### the walk -/
section
variable {w : World} {s : ByteArray}
theorem sget_at {i : Nat} (h : i < s.size) : sget s i = (bl s)[i]'(by rw [bl_length]; exact h) := by
  rw [sget_eq, List.getD_eq_getElem?_getD, List.getElem?_eq_getElem (by rw [bl_length]; exact h), Option.getD_some]
theorem call0 {P : Program} {f : FuncId} {args : Array Value} {v : Value} {Q : Ending → World → Prop} (h : Calls P f args w (Ret fun r w' => r = v ∧ w' = w)) (hk : Q (.returned v) w) : Calls P f args w Q := (ST.start w).call0 h hk
def zTk : Value := .agg #[.int .i64 0, .int .i64 0, .string ⟨#[]⟩]
end
end Go.Proofs.YtbpdfpfgijhokaaGreatDoor
namespace Go.Proofs.YtbpdfpfgijhokaaGreatDoor
set_option maxRecDepth 100000
open Go.Dn Go.Proofs
set_option linter.unusedVariables false
/-! ### what holds from some number on -/
def Ev (p : Nat → Prop) : Prop := ∃ n, ∀ f, n ≤ f → p f
theorem Ev.step {p q : Nat → Prop} (h : Ev p) (hpq : ∀ f, p f → q (f + 1)) : Ev q := by
  obtain ⟨n, hn⟩ := h
  refine ⟨n + 1, fun f hf => ?_⟩
  obtain ⟨g, rfl⟩ : ∃ g, f = g + 1 := ⟨f - 1, by omega⟩
  exact hpq g (hn g (by omega))
theorem Ev.and {p q : Nat → Prop} (h : Ev p) (h' : Ev q) : Ev fun f => p f ∧ q f := by
  obtain ⟨n, hn⟩ := h
  obtain ⟨m, hm⟩ := h'
  exact ⟨max n m, fun f hf => ⟨hn f (by omega), hm f (by omega)⟩⟩
theorem Ev.all {q : Nat → Prop} (h : ∀ f, q (f + 1)) : Ev q := ⟨1, fun f hf => by obtain ⟨g, rfl⟩ : ∃ g, f = g + 1 := ⟨f - 1, by omega⟩; exact h g⟩
theorem Ev.one {p : Nat → Prop} (h : Ev p) : ∃ f, p f := by
  obtain ⟨n, hn⟩ := h
  exact ⟨n, hn n (Nat.le_refl _)⟩
/-! ### signs -/
def opTab : List (List UInt8 × Int × Int) :=
  [([32, 111, 114, 32], 1, 13), ([32, 97, 110, 100, 32], 2, 12), ([32, 105, 115, 32, 110, 117, 108, 108], 4, 15), ([32, 61, 32], 5, 9), ([32, 60, 32], 5, 10), ([32, 60, 61, 32], 5, 11), ([32, 43, 32], 6, 3), ([32, 45, 32], 6, 4), ([32, 42, 32], 7, 5), ([32, 47, 32], 7, 6), ([32, 37, 32], 7, 7)]
def nextOp (s : List UInt8) : Option (Int × Int × List UInt8) := opTab.findSome? fun e => if e.1.isPrefixOf s then some (e.2.1, e.2.2, s.drop e.1.length) else none
def powN (s : List UInt8) : Int := match nextOp s with | none => 0 | some e => e.1
theorem next_bin {op : Int} (h : 3 ≤ op ∧ op ≤ 13 ∧ op ≠ 8) (s : List UInt8) : nextOp (32 :: (bl (signOf op) ++ 32 :: s)) = some (rowOf op, op, s) := by
  have hn : op = 3 ∨ op = 4 ∨ op = 5 ∨ op = 6 ∨ op = 7 ∨ op = 9 ∨ op = 10 ∨ op = 11 ∨ op = 12 ∨ op = 13 := by omega
  rcases hn with rfl | rfl | rfl | rfl | rfl | rfl | rfl | rfl | rfl | rfl <;> rfl
theorem next_null (s : List UInt8) : nextOp ([32, 105, 115, 32, 110, 117, 108, 108] ++ s) = some (4, 15, s) := rfl
theorem next_tab {s : List UInt8} {e : Int × Int × List UInt8} (h : nextOp s = some e) : (e.1 = 4 ∧ e.2.1 = 15) ∨ ((e.1 = 1 ∨ e.1 = 2 ∨ e.1 = 5 ∨ e.1 = 6 ∨ e.1 = 7) ∧ e.2.1 ≠ 15) := by
  unfold nextOp at h
  obtain ⟨t, ht, he⟩ := List.exists_of_findSome?_eq_some h
  split at he
  · cases he
    simp only [opTab, List.mem_cons, List.not_mem_nil, or_false] at ht
    rcases ht with rfl | rfl | rfl | rfl | rfl | rfl | rfl | rfl | rfl | rfl | rfl <;> simp
  · cases he
theorem pow_paren (s : List UInt8) : powN (41 :: s) = 0 := rfl
def Sep (s : List UInt8) : Prop := s = [] ∨ ∃ c r, s = c :: r ∧ (c = 32 ∨ c = 41 ∨ c = 44)
theorem Sep.sp (s : List UInt8) : Sep (32 :: s) := .inr ⟨_, _, rfl, .inl rfl⟩
theorem Sep.cl (s : List UInt8) : Sep (41 :: s) := .inr ⟨_, _, rfl, .inr (.inl rfl)⟩
theorem Sep.no {p : UInt8 → Bool} {s : List UInt8} (h : Sep s) (h1 : p 32 = false) (h2 : p 41 = false) (h3 : p 44 = false) : ∀ c r, s = c :: r → p c = false := by
  intro c r hc
  rcases h with rfl | ⟨c', r', rfl, h⟩
  · cases hc
  · cases hc
    rcases h with rfl | rfl | rfl <;> assumption
theorem Sep.word {s : List UInt8} (h : Sep s) : ∀ c r, s = c :: r → wordCh c = false := h.no (by decide) (by decide) (by decide)
theorem Sep.dig {s : List UInt8} (h : Sep s) : ∀ c r, s = c :: r → isDig c = false := h.no (by decide) (by decide) (by decide)
theorem run_all {p : UInt8 → Bool} : ∀ {l rest : List UInt8}, (∀ c ∈ l, p c = true) → (∀ c r, rest = c :: r → p c = false) → runN p (l ++ rest) = l.length
  | [], [], _, _ => rfl
  | [], c :: r, _, h => by simp [runN, h c r rfl]
  | c :: l, rest, h1, h2 => by
    rw [List.cons_append, runN, if_pos (h1 c (by simp)), run_all (fun d hd => h1 d (by simp [hd])) h2]
    rfl
/-! ### a reader of canonical texts -/
def cst (b : List UInt8) : Ex := .mk 2 (sof b) V0 []
inductive Tag where
  | E (lv : Int)
  | L (lv : Int) (x : Ex) (own : Int)
  | M
  | A
def nullW : List UInt8 := [110, 117, 108, 108]
def trueW : List UInt8 := [116, 114, 117, 101]
def falseW : List UInt8 := [102, 97, 108, 115, 101]
def lenW : List UInt8 := [108, 101, 110]
def notW : List UInt8 := [110, 111, 116, 32]
def closeP : Option (Ex × List UInt8) → Option (Ex × List UInt8)
  | some (x, c :: r) => if c = 41 then some (x, r) else none
  | _ => none
def ps : Nat → Tag → List UInt8 → Option (Ex × List UInt8)
  | 0, _, _ => none
  | f + 1, .E lv, s =>
    if lv ≤ 3 ∧ notW.isPrefixOf s = true then (ps f (.E 3) (s.drop 4)).bind fun k => ps f (.L lv (.mk 14 E0 V0 [k.1]) 3) k.2
    else (ps f .M s).bind fun x => ps f (.L lv x.1 9) x.2
  | f + 1, .L lv x own, s =>
    match nextOp s with
    | none => some (x, s)
    | some e =>
      if e.2.1 = 15 then (if 4 < lv ∨ own < 5 then some (x, s) else ps f (.L lv (.mk 15 E0 V0 [x]) 4) e.2.2)
      else if e.1 < lv ∨ own < e.1 ∨ (e.1 = 5 ∧ own = 5) then some (x, s)
      else (ps f (.E (e.1 + 1)) e.2.2).bind fun y => ps f (.L lv (.mk e.2.1 E0 V0 [x, y.1]) e.1) y.2
  | f + 1, .M, s =>
    match s with
    | [] => none
    | c :: r =>
      if c = 45 then (if isDig (r.headD 0) then some (cst (45 :: r.take (runN isDig r)), r.drop (runN isDig r)) else (ps f .M r).bind fun k => some (.mk 8 E0 V0 [k.1], k.2))
      else ps f .A (c :: r)
  | f + 1, .A, s =>
    match s with
    | [] => none
    | c :: r =>
      if c = 40 then closeP (ps f (.E 1) r)
      else if c = 39 then some (cst (39 :: r.take (quoteN r)), r.drop (quoteN r))
      else if isDig c then some (cst ((c :: r).take (runN isDig (c :: r))), (c :: r).drop (runN isDig (c :: r)))
      else if (c :: r).take (runN wordCh (c :: r)) = nullW ∨ (c :: r).take (runN wordCh (c :: r)) = trueW ∨ (c :: r).take (runN wordCh (c :: r)) = falseW then some (cst ((c :: r).take (runN wordCh (c :: r))), (c :: r).drop (runN wordCh (c :: r)))
      else if (c :: r).take (runN wordCh (c :: r)) = lenW then (closeP (ps f (.E 1) ((c :: r).drop (runN wordCh (c :: r) + 1)))).bind fun k => some (.mk 16 E0 V0 [k.1], k.2)
      else some (.mk 1 (sof ((c :: r).take (runN wordCh (c :: r)))) V0 [], (c :: r).drop (runN wordCh (c :: r)))
section
variable {f : Nat} {lv own : Int} {x : Ex} {s rest : List UInt8}
theorem psE_not (h : lv ≤ 3) : ps (f + 1) (.E lv) (notW ++ s) = (ps f (.E 3) s).bind fun k => ps f (.L lv (.mk 14 E0 V0 [k.1]) 3) k.2 := by
  rw [ps, if_pos ⟨h, rfl⟩]
  rfl
theorem psE_M (h : notW.isPrefixOf s = false) : ps (f + 1) (.E lv) s = (ps f .M s).bind fun x => ps f (.L lv x.1 9) x.2 := by
  rw [ps, if_neg (by rw [h]; simp)]
theorem psL_stop (h : powN s < lv) : ps (f + 1) (.L lv x own) s = some (x, s) := by
  rw [ps]
  unfold powN at h
  split
  · rfl
  · rename_i e he
    rw [he] at h
    simp only at h
    rcases next_tab he with ⟨h1, h2⟩ | ⟨h1, h2⟩
    · rw [if_pos h2, if_pos (.inl (by omega))]
    · rw [if_neg h2, if_pos (.inl h)]
theorem psL_null (h1 : lv ≤ 4) (h2 : 5 ≤ own) : ps (f + 1) (.L lv x own) ([32, 105, 115, 32, 110, 117, 108, 108] ++ s) = ps f (.L lv (.mk 15 E0 V0 [x]) 4) s := by
  rw [ps, next_null]
  simp only [if_true]
  rw [if_neg (by omega)]
theorem psL_bin {op : Int} (h : 3 ≤ op ∧ op ≤ 13 ∧ op ≠ 8) (h1 : lv ≤ rowOf op) (h2 : rowOf op ≤ own) (h3 : ¬ (rowOf op = 5 ∧ own = 5)) :
    ps (f + 1) (.L lv x own) (32 :: (bl (signOf op) ++ 32 :: s)) = (ps f (.E (rowOf op + 1)) s).bind fun y => ps f (.L lv (.mk op E0 V0 [x, y.1]) (rowOf op)) y.2 := by
  rw [ps, next_bin h]
  simp only
  rw [if_neg (by omega), if_neg (by rintro (h | h | h) <;> omega)]
theorem psM_A {c : UInt8} {r : List UInt8} (h : c ≠ 45) : ps (f + 1) .M (c :: r) = ps f .A (c :: r) := by
  rw [ps]
  simp only [h, if_false]
theorem psM_neg {r : List UInt8} (h : isDig (r.headD 0) = false) : ps (f + 1) .M (45 :: r) = (ps f .M r).bind fun k => some (.mk 8 E0 V0 [k.1], k.2) := by
  rw [ps]
  simp only [h, if_true, Bool.false_eq_true, if_false]
theorem psM_num {c : UInt8} {r : List UInt8} (h : ∀ d ∈ c :: r, isDig d = true) (hs : Sep rest) : ps (f + 1) .M (45 :: ((c :: r) ++ rest)) = some (cst (45 :: c :: r), rest) := by
  have hr := run_all h hs.dig
  have hc : isDig (((c :: r) ++ rest).headD 0) = true := h c (by simp)
  rw [ps]
  simp only [if_true, hc]
  rw [hr, List.take_left, List.drop_left]
theorem psA_par (hx : ps f (.E 1) (s ++ 41 :: rest) = some (x, 41 :: rest)) : ps (f + 1) .A (40 :: (s ++ 41 :: rest)) = some (x, rest) := by
  rw [ps]
  simp only [if_true, hx, closeP]
theorem psA_num {c : UInt8} {r : List UInt8} (h : ∀ d ∈ c :: r, isDig d = true) (hs : Sep rest) : ps (f + 1) .A ((c :: r) ++ rest) = some (cst (c :: r), rest) := by
  have hr := run_all h hs.dig
  have hc : isDig c = true := h c (by simp)
  have h40 : c ≠ 40 := by rintro rfl; revert hc; decide
  have h39 : c ≠ 39 := by rintro rfl; revert hc; decide
  rw [List.cons_append] at hr ⊢
  rw [ps]
  simp only [h40, h39, if_false, hc, if_true, hr]
  rw [← List.cons_append, List.take_left, List.drop_left]
theorem let_no {c : UInt8} (h : isLet c = true) : c ≠ 40 ∧ c ≠ 39 ∧ isDig c = false ∧ c ≠ 45 := by
  refine ⟨?_, ?_, ?_, ?_⟩
  · rintro rfl; revert h; decide
  · rintro rfl; revert h; decide
  · simp only [isLet, decide_eq_true_eq] at h
    simp only [isDig, decide_eq_false_iff_not]
    omega
  · rintro rfl; revert h; decide
theorem psA_cst {c : UInt8} {r : List UInt8} (hl : isLet c = true) (h : ∀ d ∈ c :: r, wordCh d = true) (hs : Sep rest) (hw : c :: r = nullW ∨ c :: r = trueW ∨ c :: r = falseW) : ps (f + 1) .A ((c :: r) ++ rest) = some (cst (c :: r), rest) := by
  have hr := run_all h hs.word
  obtain ⟨h40, h39, hd, _⟩ := let_no hl
  rw [List.cons_append] at hr ⊢
  have e1 : (c :: (r ++ rest)).take (c :: r).length = c :: r := by rw [← List.cons_append, List.take_left]
  have e2 : (c :: (r ++ rest)).drop (c :: r).length = rest := by rw [← List.cons_append, List.drop_left]
  rw [ps]
  simp only [h40, h39, if_false, hd, Bool.false_eq_true, hr, e1, e2]
  rw [if_pos hw]
theorem psA_len (hx : ps f (.E 1) (s ++ 41 :: rest) = some (x, 41 :: rest)) : ps (f + 1) .A (lenW ++ 40 :: (s ++ 41 :: rest)) = some (.mk 16 E0 V0 [x], rest) := by
  obtain ⟨t, ht⟩ : ∃ t, t = s ++ 41 :: rest := ⟨_, rfl⟩
  rw [← ht] at hx ⊢
  have hr : runN wordCh (108 :: 101 :: 110 :: 40 :: t) = 3 := run_all (l := lenW) (rest := 40 :: t) (by decide) fun c r h => by cases h; decide
  show ps (f + 1) .A (108 :: 101 :: 110 :: 40 :: t) = _
  have e1 : (108 :: 101 :: 110 :: 40 :: t).take 3 = lenW := rfl
  have e2 : (108 :: 101 :: 110 :: 40 :: t).drop (3 + 1) = t := rfl
  rw [ps]
  simp only [show ¬ (108 : UInt8) = 40 by decide, show ¬ (108 : UInt8) = 39 by decide, if_false, show isDig 108 = false by decide, Bool.false_eq_true, hr, e1, e2]
  rw [if_neg (by decide), if_pos trivial, hx]
  rfl
theorem psA_name {c : UInt8} {r : List UInt8} (hl : isLet c = true) (h : ∀ d ∈ c :: r, wordCh d = true) (hs : ∀ d u, rest = d :: u → wordCh d = false) (h1 : c :: r ≠ nullW) (h2 : c :: r ≠ trueW) (h3 : c :: r ≠ falseW) (h4 : c :: r ≠ lenW) : ps (f + 1) .A ((c :: r) ++ rest) = some (.mk 1 (sof (c :: r)) V0 [], rest) := by
  have hr := run_all h hs
  obtain ⟨h40, h39, hd, _⟩ := let_no hl
  rw [List.cons_append] at hr ⊢
  have e1 : (c :: (r ++ rest)).take (c :: r).length = c :: r := by rw [← List.cons_append, List.take_left]
  have e2 : (c :: (r ++ rest)).drop (c :: r).length = rest := by rw [← List.cons_append, List.drop_left]
  rw [ps]
  simp only [h40, h39, if_false, hd, Bool.false_eq_true, hr, e1, e2, h1, h2, h3, h4, or_self]
theorem quote_run : ∀ (l : List UInt8) (rest : List UInt8), (∀ c r, rest = c :: r → c.toNat ≠ 39) → quoteN (quoteL l ++ 39 :: rest) = (quoteL l).length + 1
  | [], [], _ => rfl
  | [], c :: r, h => quoteN_one rfl (h c r rfl) r
  | c :: l, rest, h => by
    have ih := quote_run l rest h
    by_cases hc : c = 39
    · subst hc
      have e : quoteL (39 :: l) = 39 :: 39 :: quoteL l := by simp [quoteL]
      rw [e, List.cons_append, List.cons_append, quoteN_two rfl rfl, ih, if_neg (by omega)]
      simp
    · have e : quoteL (c :: l) = c :: quoteL l := by simp [quoteL, hc]
      have hn : c.toNat ≠ 39 := fun hh => hc (UInt8.toNat_inj.1 hh)
      rw [e, List.cons_append, quoteN_other hn, ih, if_neg (by omega)]
      simp
theorem psA_text (l : List UInt8) (hs : Sep rest) : ps (f + 1) .A ((39 :: quoteL l ++ [39]) ++ rest) = some (cst (39 :: quoteL l ++ [39]), rest) := by
  have hq := quote_run l rest fun c r hc => by
    rcases hs with rfl | ⟨c', r', rfl, h⟩
    · cases hc
    · cases hc
      rcases h with rfl | rfl | rfl <;> decide
  have e : (39 :: quoteL l ++ [39]) ++ rest = 39 :: (quoteL l ++ 39 :: rest) := by simp
  have e1 : (quoteL l ++ 39 :: rest).take ((quoteL l).length + 1) = quoteL l ++ [39] := by
    rw [show quoteL l ++ 39 :: rest = (quoteL l ++ [39]) ++ rest by simp]
    exact List.take_left' (by simp)
  have e2 : (quoteL l ++ 39 :: rest).drop ((quoteL l).length + 1) = rest := by
    rw [show quoteL l ++ 39 :: rest = (quoteL l ++ [39]) ++ rest by simp]
    exact List.drop_left' (by simp)
  rw [e, ps]
  simp only [show ¬ (39 : UInt8) = 40 by decide, if_false, if_true, hq, e1, e2]
  rfl
end
end Go.Proofs.YtbpdfpfgijhokaaGreatDoor
namespace Go.Proofs.YtbpdfpfgijhokaaGreatDoor
set_option maxRecDepth 100000
open Go.Dn Go.Proofs
set_option linter.unusedVariables false
mutual
/-- constants as they are written -/
def Ex.raw : Ex → Ex
  | .mk op nm v ks => if op = 2 then cst (showL v) else .mk op nm v (Ex.rawL ks)
def Ex.rawL : List Ex → List Ex
  | [] => []
  | k :: ks => k.raw :: Ex.rawL ks
end
def Ex.nice (x : Ex) (d : Nat) : Prop := x.okA d = true ∧ ∀ s ∈ x.names, okName s = true
theorem nice_kid {op : Int} {nm : ByteArray} {v : Val} {ks : List Ex} {d : Nat} (h : (Ex.mk op nm v ks).nice (d + 1)) : okN (.mk op nm v ks) = true ∧ ∀ k ∈ ks, k.nice d := by
  obtain ⟨h1, h2⟩ := formed_kid h.1
  refine ⟨h1, fun k hk => ⟨h2 k hk, fun s hs => h.2 s ?_⟩⟩
  simp only [Ex.names, List.mem_append]
  exact .inr (namesL_mem hk s hs)
theorem name_bl {s : ByteArray} (h : okName s = true) : ∃ c r, bl s = c :: r ∧ isLet c = true ∧ (∀ e ∈ c :: r, wordCh e = true) ∧ ∀ k ∈ keyWords, k ≠ s := by
  simp only [okName, isNameB, Bool.and_eq_true, decide_eq_true_eq, Bool.not_eq_true'] at h
  obtain ⟨⟨⟨h1, h2⟩, h3⟩, h4⟩ := h
  have hbl := bl_length s
  cases hb : bl s with
  | nil => rw [hb] at hbl; simp at hbl; omega
  | cons c r =>
    have hall : ∀ j, j < s.size → nameAt s j = true := fun j hj => List.all_eq_true.1 h1 j (List.mem_range.2 hj)
    have hg : ∀ j (hj : j < s.size), sget s j = (bl s)[j]'(by omega) := fun j hj => sget_at hj
    have hlb : ∀ c : UInt8, letB c = isLet c := fun c => by
      have := byte_all (p := fun c => letB c == isLet c) (by kernel_rfl) c
      simpa using this
    have hwb : ∀ c : UInt8, (letB c || othB c) = wordCh c := fun c => by
      have := byte_all (p := fun c => (letB c || othB c) == wordCh c) (by kernel_rfl) c
      simpa using this
    refine ⟨c, r, rfl, ?_, ?_, ?_⟩
    · have h0 := hall 0 (by omega)
      have e0 : sget s 0 = c := by rw [hg 0 (by omega)]; simp only [hb, List.getElem_cons_zero]
      simp only [nameAt, e0] at h0
      rw [← hlb]
      simpa using h0
    · intro e he
      rw [← hb] at he
      obtain ⟨j, hj, rfl⟩ := List.mem_iff_getElem.1 he
      have h0 := hall j (by omega)
      rw [nameAt, hg j (by omega)] at h0
      rw [← hwb]
      revert h0
      cases letB (bl s)[j] <;> cases othB (bl s)[j] <;> simp
    · intro k hk hks
      subst hks
      simp only [isKeyB] at h4
      have : (keyWords.any fun y => decide (y = k)) = true := List.any_eq_true.2 ⟨k, hk, by simp⟩
      rw [h4] at this
      cases this
theorem not_key {s : ByteArray} {l : List UInt8} (h : ∀ k ∈ keyWords, k ≠ s) (hl : (keyWords.any fun k => decide (k = sof l)) = true) : bl s ≠ l := by
  intro he
  obtain ⟨k, hk, hkl⟩ := List.any_eq_true.1 hl
  exact h k hk (by rw [of_decide_eq_true hkl, ← he, sof_bl])
theorem no_not {c : UInt8} {r rest : List UInt8} (h : ∀ e ∈ c :: r, wordCh e = true) (hs : Sep rest) (hn : c :: r ≠ [110, 111, 116]) : notW.isPrefixOf ((c :: r) ++ rest) = false := by
  apply Bool.eq_false_iff.2
  intro hp
  obtain ⟨t, ht⟩ := List.isPrefixOf_iff_prefix.1 hp
  have hc := hs.word
  match r, ht, h, hn with
  | [], ht, h, _ =>
    simp only [notW, List.cons_append, List.nil_append, List.cons.injEq] at ht
    exact absurd (hc 111 (116 :: 32 :: t) ht.2.symm) (by decide)
  | [a], ht, h, _ =>
    simp only [notW, List.cons_append, List.nil_append, List.cons.injEq] at ht
    exact absurd (hc 116 (32 :: t) ht.2.2.symm) (by decide)
  | [a, b], ht, h, hn =>
    simp only [notW, List.cons_append, List.nil_append, List.cons.injEq] at ht
    exact hn (by rw [← ht.1, ← ht.2.1, ← ht.2.2.1])
  | a :: b :: d :: r, ht, h, _ =>
    simp only [notW, List.cons_append, List.nil_append, List.cons.injEq] at ht
    exact absurd (h d (by simp)) (by rw [← ht.2.2.2.1]; decide)
def tied (x : Ex) : Int := if 8 ≤ x.lvl then 9 else x.lvl
def ownOf (x : Ex) (need : Int) : Int := if x.lvl < need then 9 else tied x
theorem own_ge {x : Ex} {need : Int} (h : need ≤ 9) : need ≤ ownOf x need := by
  unfold ownOf tied
  split
  · exact h
  · split <;> omega
theorem pow_ne3 (s : List UInt8) : powN s ≠ 3 := by
  unfold powN
  split
  · omega
  · rename_i e he
    rcases next_tab he with ⟨h1, _⟩ | ⟨h1, _⟩ <;> omega
structure Txt (x : Ex) : Prop where
  at_ : 8 ≤ x.lvl → ∀ rest, Sep rest → Ev fun f => ps f .M (bl x.text ++ rest) = some (x.raw, rest)
  nn : 8 ≤ x.lvl → ∀ rest, Sep rest → notW.isPrefixOf (bl x.text ++ rest) = false
  hd : 8 ≤ x.lvl → isNum x.op x.v = false → ∃ c r, bl x.text = c :: r ∧ isDig c = false
  low : x.lvl < 8 → ∀ lv rest R, lv ≤ x.lvl → Sep rest → powN rest ≤ x.lvl → (Ev fun f => ps f (.L lv x.raw x.lvl) rest = some R) → Ev fun f => ps f (.E lv) (bl x.text ++ rest) = some R
section
variable {x : Ex} {lv need : Int} {rest : List UInt8} {R : Ex × List UInt8}
theorem Txt.un (T : Txt x) (h : lv ≤ x.lvl) (hs : Sep rest) (hp : powN rest ≤ tied x) (hL : Ev fun f => ps f (.L lv x.raw (tied x)) rest = some R) : Ev fun f => ps f (.E lv) (bl x.text ++ rest) = some R := by
  by_cases h8 : 8 ≤ x.lvl
  · rw [tied, if_pos h8] at hL
    exact ((T.at_ h8 rest hs).and hL).step fun f ⟨a, b⟩ => by rw [psE_M (T.nn h8 rest hs), a]; exact b
  · rw [tied, if_neg h8] at hL hp
    exact T.low (by omega) lv rest R h hs hp hL
theorem lvl_one (x : Ex) : 1 ≤ x.lvl := lvl_ge x.op x.v
theorem tied_one (x : Ex) : 1 ≤ tied x := by
  have := lvl_one x
  unfold tied
  split <;> omega
theorem Txt.par (T : Txt x) (rest : List UInt8) : Ev fun f => ps f .A (40 :: (bl x.text ++ 41 :: rest)) = some (x.raw, rest) :=
  (T.un (lv := 1) (R := (x.raw, 41 :: rest)) (lvl_one x) (Sep.cl rest) (by rw [pow_paren]; have := tied_one x; omega) (Ev.all fun f => psL_stop (by rw [pow_paren]; decide))).step fun f h => psA_par h
theorem bl_brak (s : ByteArray) : bl (brak s) ++ rest = 40 :: (bl s ++ 41 :: rest) := by
  unfold brak
  rw [bl_append, bl_append]
  simp [bl]
theorem Txt.parM (T : Txt x) (rest : List UInt8) : Ev fun f => ps f .M (40 :: (bl x.text ++ 41 :: rest)) = some (x.raw, rest) := (T.par rest).step fun f h => (psM_A (by decide)).trans h
theorem Txt.full (T : Txt x) (h : lv ≤ need) (hn : need ≤ 9) (hs : Sep rest) (hp : powN rest ≤ ownOf x need) (hL : Ev fun f => ps f (.L lv x.raw (ownOf x need)) rest = some R) : Ev fun f => ps f (.E lv) (bl (x.at need) ++ rest) = some R := by
  unfold Ex.at wrapT
  unfold ownOf at hp hL
  by_cases hl : x.lvl < need
  · rw [if_pos hl] at hp hL ⊢
    rw [bl_brak]
    exact ((T.parM rest).and hL).step fun f ⟨a, b⟩ => by rw [psE_M rfl, a]; exact b
  · rw [if_neg hl] at hp hL ⊢
    exact T.un (by omega) hs hp hL
theorem Txt.stop (T : Txt x) (hn : need ≤ 9) (hs : Sep rest) (hp : powN rest < need) : Ev fun f => ps f (.E need) (bl (x.at need) ++ rest) = some (x.raw, rest) :=
  T.full (Int.le_refl _) hn hs (by have := own_ge (x := x) hn; omega) (Ev.all fun f => psL_stop hp)
end
theorem showL_txt {v : Val} (h : rightB v = true) : Txt (.mk 2 E0 v []) := by
  have ht : bl (Ex.mk 2 E0 v []).text = showL v := by
    unfold Ex.text nodeT
    rw [if_neg (by decide), if_pos rfl, bl_sof]
  have hr : (Ex.mk 2 E0 v []).raw = cst (showL v) := by simp [Ex.raw]
  have hl : 8 ≤ (Ex.mk 2 E0 v []).lvl := by
    show 8 ≤ lvlOf 2 v
    unfold lvlOf
    split
    · omega
    · show 8 ≤ rowOf 2; decide
  have dd : ∀ u : Nat, ∃ c r, Lib.decDigits u = c :: r ∧ ∀ d ∈ c :: r, isDig d = true := by
    intro u
    have hall : ∀ u : Nat, ∀ d ∈ Lib.decDigits u, isDig d = true := by
      intro u
      induction u using Nat.strongRecOn with
      | _ u ih =>
        intro d hd
        have one : ∀ n, n < 10 → isDig (UInt8.ofNat (48 + n)) = true := fun n hn => by
          have e : (UInt8.ofNat (48 + n)).toNat = 48 + n := by simp; omega
          simp only [isDig, e, decide_eq_true_eq]
          omega
        by_cases h : u < 10
        · rw [Lib.decDigits_one h, List.mem_singleton] at hd
          rw [hd]
          exact one u h
        · rw [Lib.decDigits, dif_neg h, List.mem_append, List.mem_singleton] at hd
          rcases hd with hd | hd
          · exact ih (u / 10) (by omega) d hd
          · rw [hd]; exact one (u % 10) (by omega)
    obtain ⟨c, r, e, _⟩ := vdec_head u
    exact ⟨c, r, e, by rw [← e]; exact hall u⟩
  have hc := show_cases h _ rfl
  refine ⟨fun _ rest hs => ?_, fun _ rest hs => ?_, fun _ hn => ?_, fun h8 => absurd h8 (by omega)⟩
  · rw [ht, hr]
    rcases hc with ⟨_, e⟩ | ⟨_, e⟩ | ⟨_, e⟩ | ⟨_, e⟩ | ⟨_, _, e⟩
    · rw [e]
      exact Ev.step (Ev.all fun f => psA_cst (c := 110) (r := [117, 108, 108]) (by decide) (by decide) hs (.inl rfl)) fun f h => (psM_A (by decide)).trans h
    · rw [e]
      unfold Lib.itoa
      split
      · obtain ⟨c, r, e, hd⟩ := dd v.2.1.natAbs
        rw [e]
        exact Ev.all fun f => psM_num hd hs
      · obtain ⟨c, r, e, hd⟩ := dd v.2.1.toNat
        rw [e]
        have h45 : c ≠ 45 := by rintro rfl; exact absurd (hd 45 (by simp)) (by decide)
        exact Ev.step (Ev.all fun f => psA_num hd hs) fun f h => (psM_A h45).trans h
    · rw [e]
      exact Ev.step (Ev.all fun f => psA_cst (c := 102) (r := [97, 108, 115, 101]) (by decide) (by decide) hs (.inr (.inr rfl))) fun f h => (psM_A (by decide)).trans h
    · rw [e]
      exact Ev.step (Ev.all fun f => psA_cst (c := 116) (r := [114, 117, 101]) (by decide) (by decide) hs (.inr (.inl rfl))) fun f h => (psM_A (by decide)).trans h
    · rw [e]
      exact Ev.step (Ev.all fun f => psA_text (bl v.2.2) hs) fun f h => (psM_A (by decide)).trans h
  · rw [ht]
    rcases hc with ⟨_, e⟩ | ⟨_, e⟩ | ⟨_, e⟩ | ⟨_, e⟩ | ⟨_, _, e⟩
    · rw [e]; rfl
    · rw [e]
      obtain ⟨c, r, e2, hd⟩ := vitoa_head v.2.1
      rw [e2]
      have : c ≠ 110 := by rintro rfl; revert hd; decide
      show ((110 : UInt8) == c && _) = false
      rw [show ((110 : UInt8) == c) = false by simpa using Ne.symm this]
      rfl
    · rw [e]; rfl
    · rw [e]; rfl
    · rw [e]; rfl
  · rw [ht]
    rcases hc with ⟨_, e⟩ | ⟨e1, e⟩ | ⟨_, e⟩ | ⟨_, e⟩ | ⟨_, _, e⟩
    · rw [e]; exact ⟨_, _, rfl, by decide⟩
    · exfalso
      simp only [Ex.op, Ex.v, isNum, decide_eq_false_iff_not] at hn
      exact hn ⟨trivial, by rw [e1]⟩
    · rw [e]; exact ⟨_, _, rfl, by decide⟩
    · rw [e]; exact ⟨_, _, rfl, by decide⟩
    · rw [e]; exact ⟨_, _, rfl, by decide⟩
theorem txt_all : ∀ (x : Ex) (d : Nat), x.nice d → Txt x := by
  intro x
  induction x using Ex.ind with
  | h op nm v ks ih =>
    intro d hx
    cases d with
    | zero => have := hx.1; simp [Ex.okA] at this
    | succ d =>
      obtain ⟨ho, hk⟩ := nice_kid hx
      obtain ⟨_, hnm, hv, hrv⟩ := okN_iff.1 ho
      simp only [Ex.op, Ex.nm, Ex.v] at hnm hv hrv
      rcases okN_kids ho with ⟨hop, rfl⟩ | ⟨hop, k, rfl⟩ | ⟨hop, k, k', rfl⟩
      · rcases hop with rfl | rfl
        · have hv : v = V0 := hv.resolve_left (by decide)
          subst hv
          obtain ⟨c, r, hb, hl, hw, hkey⟩ := name_bl (hx.2 nm (by simp [Ex.names]))
          have ht : bl (Ex.mk 1 nm V0 []).text = c :: r := by
            unfold Ex.text nodeT
            rw [if_pos rfl, hb]
          have hr : (Ex.mk 1 nm V0 []).raw = .mk 1 (sof (c :: r)) V0 [] := by
            rw [← hb, sof_bl]
            simp [Ex.raw, Ex.rawL]
          have nk : ∀ l, (keyWords.any fun k => decide (k = sof l)) = true → c :: r ≠ l := fun l h => by rw [← hb]; exact not_key hkey h
          refine ⟨fun _ rest hs => ?_, fun _ rest hs => ?_, fun _ _ => ?_, fun h8 => ?_⟩
          · rw [ht, hr]
            exact Ev.step (Ev.all fun f => psA_name hl hw hs.word (nk _ (by decide)) (nk _ (by decide)) (nk _ (by decide)) (nk _ (by decide))) fun f h => (psM_A (let_no hl).2.2.2).trans h
          · rw [ht]
            exact no_not hw hs (nk _ (by decide))
          · exact ⟨c, r, ht, (let_no hl).2.2.1⟩
          · exact absurd h8 (by show ¬ lvlOf 1 V0 < 8; decide)
        · have hn : nm = E0 := hnm.resolve_left (by decide)
          subst hn
          exact showL_txt hrv
      · have T := ih k (by simp) d (hk k (by simp))
        have hn : nm = E0 := hnm.resolve_left (by omega)
        have hv : v = V0 := hv.resolve_left (by omega)
        subst hn hv
        have hr : (Ex.mk op E0 V0 [k]).raw = .mk op E0 V0 [k.raw] := by simp only [Ex.raw, Ex.rawL]; rw [if_neg (by omega)]
        rcases hop with rfl | rfl | rfl | rfl
        · have hl : (Ex.mk 8 E0 V0 [k]).lvl = 8 := by show lvlOf 8 V0 = 8; decide
          have ht : bl (nodeT 8 E0 V0 (Ex.texts [k])) = 45 :: (if isNum k.op k.v = true then 40 :: (bl k.text ++ [41]) else bl (k.at 8)) := by
            unfold nodeT
            rw [if_neg (by decide), if_neg (by decide), if_neg (by decide), if_neg (by decide), if_neg (by decide), if_pos rfl]
            show bl (if isNum k.op k.v = true then _ else _) = _
            split
            · rw [bl_append, bl_append, kidT0, at_one]; rfl
            · rw [bl_append, kidT0]; rfl
          refine ⟨fun _ rest hs => ?_, fun _ rest hs => by show notW.isPrefixOf (bl (nodeT 8 E0 V0 (Ex.texts [k])) ++ rest) = false; rw [ht]; rfl, fun _ _ => ⟨_, _, ht, by decide⟩, fun h8 => absurd h8 (by omega)⟩
          show Ev fun f => ps f .M (bl (nodeT 8 E0 V0 (Ex.texts [k])) ++ rest) = some ((Ex.mk 8 E0 V0 [k]).raw, rest)
          rw [ht, hr, List.cons_append]
          by_cases hnum : isNum k.op k.v = true
          · rw [if_pos hnum]
            have e : (40 :: (bl k.text ++ [41])) ++ rest = 40 :: (bl k.text ++ 41 :: rest) := by simp
            rw [e]
            exact Ev.step (T.parM rest) fun f h => by rw [psM_neg (by rfl), h]; rfl
          · rw [if_neg hnum]
            have hnf : isNum k.op k.v = false := by simpa using hnum
            unfold Ex.at wrapT
            by_cases h8 : k.lvl < 8
            · rw [if_pos h8, bl_brak]
              exact Ev.step (T.parM rest) fun f h => by rw [psM_neg (by rfl), h]; rfl
            · rw [if_neg h8]
              obtain ⟨c, r, hc, hcd⟩ := T.hd (by omega) hnf
              exact Ev.step (T.at_ (by omega) rest hs) fun f h => by rw [psM_neg (by rw [hc]; exact hcd), h]; rfl
        · have hl : (Ex.mk 14 E0 V0 [k]).lvl = 3 := by show lvlOf 14 V0 = 3; decide
          have ht : bl (nodeT 14 E0 V0 (Ex.texts [k])) = notW ++ bl (k.at 3) := by
            unfold nodeT
            rw [if_neg (by decide), if_neg (by decide), if_neg (by decide), if_pos rfl, bl_append, kidT0]; rfl
          refine ⟨fun h8 => absurd h8 (by omega), fun h8 => absurd h8 (by omega), fun h8 => absurd h8 (by omega), fun _ lv rest R hlv hs hp hL => ?_⟩
          rw [hl] at hlv hp hL
          show Ev fun f => ps f (.E lv) (bl (nodeT 14 E0 V0 (Ex.texts [k])) ++ rest) = some R
          rw [ht, List.append_assoc]
          rw [hr] at hL
          have := pow_ne3 rest
          exact ((T.stop (need := 3) (by decide) hs (by omega)).and hL).step fun f ⟨a, b⟩ => by rw [psE_not hlv, a]; exact b
        · have hl : (Ex.mk 15 E0 V0 [k]).lvl = 4 := by show lvlOf 15 V0 = 4; decide
          have ht : bl (nodeT 15 E0 V0 (Ex.texts [k])) = bl (k.at 5) ++ [32, 105, 115, 32, 110, 117, 108, 108] := by
            unfold nodeT
            rw [if_neg (by decide), if_neg (by decide), if_neg (by decide), if_neg (by decide), if_pos rfl, bl_append, kidT0]; rfl
          refine ⟨fun h8 => absurd h8 (by omega), fun h8 => absurd h8 (by omega), fun h8 => absurd h8 (by omega), fun _ lv rest R hlv hs hp hL => ?_⟩
          rw [hl] at hlv hp hL
          show Ev fun f => ps f (.E lv) (bl (nodeT 15 E0 V0 (Ex.texts [k])) ++ rest) = some R
          rw [ht, List.append_assoc]
          rw [hr] at hL
          have ho5 := own_ge (x := k) (need := 5) (by decide)
          refine T.full (need := 5) (by omega) (by decide) (Sep.sp _) ?_ (hL.step fun f b => by rw [psL_null (by omega) ho5]; exact b)
          have : powN ([32, 105, 115, 32, 110, 117, 108, 108] ++ rest) = 4 := rfl
          omega
        · have ht : ∀ rest, bl (nodeT 16 E0 V0 (Ex.texts [k])) ++ rest = lenW ++ 40 :: (bl (k.at 1) ++ 41 :: rest) := by
            intro rest
            unfold nodeT
            rw [if_neg (by decide), if_neg (by decide), if_pos rfl, bl_append, bl_append, kidT0]
            simp [bl, lenW]
          refine ⟨fun _ rest hs => ?_, fun _ rest hs => by show notW.isPrefixOf (bl (nodeT 16 E0 V0 (Ex.texts [k])) ++ rest) = false; rw [ht]; rfl, fun _ _ => ?_, fun h8 => absurd h8 (by show ¬ lvlOf 16 V0 < 8; decide)⟩
          · show Ev fun f => ps f .M (bl (nodeT 16 E0 V0 (Ex.texts [k])) ++ rest) = some ((Ex.mk 16 E0 V0 [k]).raw, rest)
            rw [ht, hr]
            exact Ev.step (Ev.step (T.stop (need := 1) (by decide) (Sep.cl rest) (by rw [pow_paren]; decide)) fun f h => psA_len h) fun f h => (psM_A (by decide)).trans h
          · have := ht []
            rw [List.append_nil] at this
            exact ⟨_, _, this, by decide⟩
      · have T := ih k (by simp) d (hk k (by simp))
        have T' := ih k' (by simp) d (hk k' (by simp))
        have hn : nm = E0 := hnm.resolve_left (by omega)
        have hv : v = V0 := hv.resolve_left (by omega)
        subst hn hv
        have hr : (Ex.mk op E0 V0 [k, k']).raw = .mk op E0 V0 [k.raw, k'.raw] := by simp only [Ex.raw, Ex.rawL]; rw [if_neg (by omega)]
        have hrow : 1 ≤ rowOf op ∧ rowOf op ≤ 7 := by
          have : op = 3 ∨ op = 4 ∨ op = 5 ∨ op = 6 ∨ op = 7 ∨ op = 9 ∨ op = 10 ∨ op = 11 ∨ op = 12 ∨ op = 13 := by omega
          rcases this with rfl | rfl | rfl | rfl | rfl | rfl | rfl | rfl | rfl | rfl <;> decide
        have hl : (Ex.mk op E0 V0 [k, k']).lvl = rowOf op := by
          show lvlOf op V0 = _
          unfold lvlOf
          rw [if_neg (by omega)]
        have ht : ∀ rest, bl (nodeT op E0 V0 (Ex.texts [k, k'])) ++ rest = bl (k.at (leftNeed op)) ++ 32 :: (bl (signOf op) ++ 32 :: (bl (k'.at (rowOf op + 1)) ++ rest)) := by
          intro rest
          unfold nodeT
          rw [if_neg (by omega), if_neg (by omega), if_neg (by omega), if_neg (by omega), if_neg (by omega), if_neg (by omega), bl_append, bl_append, bl_append, bl_append, kidT0, kidT1]
          simp [bl]
        refine ⟨fun h8 => absurd h8 (by omega), fun h8 => absurd h8 (by omega), fun h8 => absurd h8 (by omega), fun _ lv rest R hlv hs hp hL => ?_⟩
        rw [hl] at hlv hp hL
        show Ev fun f => ps f (.E lv) (bl (nodeT op E0 V0 (Ex.texts [k, k'])) ++ rest) = some R
        rw [ht]
        rw [hr] at hL
        have hleft : rowOf op ≤ leftNeed op ∧ leftNeed op ≤ 7 ∧ (rowOf op = 5 → leftNeed op = 6) := by
          unfold leftNeed
          split <;> omega
        have hown := own_ge (x := k) (need := leftNeed op) (by omega)
        have hpow : powN (32 :: (bl (signOf op) ++ 32 :: (bl (k'.at (rowOf op + 1)) ++ rest))) = rowOf op := by
          unfold powN
          rw [next_bin hop]
        exact T.full (need := leftNeed op) (by omega) (by omega) (Sep.sp _) (by omega) (((T'.stop (need := rowOf op + 1) (by omega) hs (by omega)).and hL).step fun f ⟨a, b⟩ => by
          rw [psL_bin hop hlv (by omega) (by rintro ⟨h1, h2⟩; have := hleft.2.2 h1; omega), a]; exact b)
/-! ### one text, one expression -/
theorem raw_inj : ∀ (x : Ex) (d : Nat), x.okA d = true → x.fit → ∀ (y : Ex) (e : Nat), y.okA e = true → y.fit → x.raw = y.raw → x = y := by
  intro x
  induction x using Ex.ind with
  | h op nm v ks ih =>
    intro d hx hfx y e hy hfy hr
    obtain ⟨op', nm', v', ks'⟩ := y
    cases d with
    | zero => simp [Ex.okA] at hx
    | succ d =>
    cases e with
    | zero => simp [Ex.okA] at hy
    | succ e =>
    obtain ⟨ho, hk⟩ := formed_kid hx
    obtain ⟨ho', hk'⟩ := formed_kid hy
    obtain ⟨_, hnm, hv, hrv⟩ := okN_iff.1 ho
    obtain ⟨_, hnm', hv', hrv'⟩ := okN_iff.1 ho'
    simp only [Ex.op, Ex.nm, Ex.v] at hnm hv hrv hnm' hv' hrv'
    simp only [Ex.raw] at hr
    unfold Ex.fit at hfx hfy
    by_cases h2 : op = 2
    · subst h2
      rw [if_pos rfl] at hr
      by_cases h2' : op' = 2
      · subst h2'
        rw [if_pos rfl] at hr
        simp only [cst, Ex.mk.injEq, true_and, and_true] at hr
        have hs : showL v = showL v' := by rw [← bl_sof (showL v), hr, bl_sof]
        have hvv := show_inj hrv hrv' ⟨hfx.1.2.2.1.1, hfx.1.2.2.1.2⟩ ⟨hfy.1.2.2.1.1, hfy.1.2.2.1.2⟩ hs
        have k1 : ks = [] := by rcases okN_kids ho with ⟨_, h⟩ | ⟨h, _⟩ | ⟨h, _⟩ <;> first | exact h | omega
        have k2 : ks' = [] := by rcases okN_kids ho' with ⟨_, h⟩ | ⟨h, _⟩ | ⟨h, _⟩ <;> first | exact h | omega
        rw [hvv, k1, k2, hnm.resolve_left (by decide), hnm'.resolve_left (by decide)]
      · rw [if_neg h2'] at hr
        simp only [cst, Ex.mk.injEq] at hr
        exact absurd hr.1.symm h2'
    · rw [if_neg h2] at hr
      by_cases h2' : op' = 2
      · subst h2'
        rw [if_pos rfl] at hr
        simp only [cst, Ex.mk.injEq] at hr
        exact absurd hr.1 h2
      · rw [if_neg h2'] at hr
        simp only [Ex.mk.injEq] at hr
        obtain ⟨r1, r2, r3, r4⟩ := hr
        have hL : ∀ (l l' : List Ex), (∀ k ∈ l, k ∈ ks) → (∀ k ∈ l', k ∈ ks') → Ex.rawL l = Ex.rawL l' → l = l' := by
          intro l
          induction l with
          | nil => intro l' _ _ h; cases l' with | nil => rfl | cons a b => simp [Ex.rawL] at h
          | cons a l ihl =>
            intro l' hl hl' h
            cases l' with
            | nil => simp [Ex.rawL] at h
            | cons b l' =>
              simp only [Ex.rawL, List.cons.injEq] at h
              rw [ih a (hl a (by simp)) d (hk a (hl a (by simp))) (fitL_iff.1 hfx.2 a (hl a (by simp))) b e (hk' b (hl' b (by simp))) (fitL_iff.1 hfy.2 b (hl' b (by simp))) h.1, ihl l' (fun k hk => hl k (by simp [hk])) (fun k hk => hl' k (by simp [hk])) h.2]
        rw [r1, r2, r3, hL ks ks' (fun _ h => h) (fun _ h => h) r4]
theorem text_inj {x y : Ex} {s t : List UInt8} (hx : rightX x = true) (hfx : x.fit) (hy : rightX y = true) (hfy : y.fit) (hs : Sep s) (hs0 : powN s = 0) (ht : Sep t) (ht0 : powN t = 0) (h : bl x.text ++ s = bl y.text ++ t) : x = y ∧ s = t := by
  have nx : ∀ {z : Ex}, rightX z = true → z.nice 40 := fun h => by
    simp only [rightX, Ex.formed, Bool.and_eq_true, List.all_eq_true, decide_eq_true_eq] at h
    exact ⟨h.1.1, h.2⟩
  have ev : ∀ {z : Ex} {s : List UInt8}, rightX z = true → Sep s → powN s = 0 → Ev fun f => ps f (.E 1) (bl z.text ++ s) = some (z.raw, s) := fun {z s} hz hs h0 => by
    have := (txt_all z 40 (nx hz)).stop (need := 1) (rest := s) (by decide) hs (by omega)
    rwa [at_one] at this
  obtain ⟨f, h1, h2⟩ := ((ev hx hs hs0).and (ev hy ht ht0)).one
  rw [h, h2] at h1
  simp only [Option.some.injEq, Prod.mk.injEq] at h1
  exact ⟨raw_inj x 40 (nx hx).1 hfx y 40 (nx hy).1 hfy h1.1.symm, h1.2.symm⟩
def Fol (s : List UInt8) : Prop := Sep s ∧ powN s = 0
theorem Fol.comma (s : List UInt8) : Fol (44 :: 32 :: s) := ⟨.inr ⟨_, _, rfl, .inr (.inr rfl)⟩, rfl⟩
theorem Fol.close (s : List UInt8) : Fol (41 :: s) := ⟨Sep.cl s, rfl⟩
theorem word_split {l m s t : List UInt8} (hl : ∀ c ∈ l, wordCh c = true) (hm : ∀ c ∈ m, wordCh c = true) (hs : ∀ c r, s = c :: r → wordCh c = false) (ht : ∀ c r, t = c :: r → wordCh c = false) (h : l ++ s = m ++ t) : l = m ∧ s = t := by
  have h1 := run_all hl hs
  have h2 := run_all hm ht
  rw [h, h2] at h1
  exact List.append_inj h h1.symm
theorem name_split {n m : ByteArray} {s t : List UInt8} (hn : okName n = true) (hm : okName m = true) (hs : Sep s) (ht : Sep t) (h : bl n ++ s = bl m ++ t) : n = m ∧ s = t := by
  obtain ⟨c, r, e, _, hw, _⟩ := name_bl hn
  obtain ⟨c', r', e', _, hw', _⟩ := name_bl hm
  obtain ⟨h1, h2⟩ := word_split (by rw [e]; exact hw) (by rw [e']; exact hw') hs.word ht.word h
  exact ⟨bl_inj h1, h2⟩
theorem commas_bl (T : ByteArray) : ∀ l : List ByteArray, l ≠ [] → bl (commas (T :: l)) = bl T ++ 44 :: 32 :: bl (commas l)
  | [], h => absurd rfl h
  | y :: l, _ => by
    rw [commas, bl_append, bl_append]
    simp [bl]
theorem list_split {α : Type} {T : α → ByteArray} {P : α → Prop} {F : List UInt8 → Prop} (hF : ∀ r, F (44 :: 32 :: r)) (hinj : ∀ x y s t, P x → P y → F s → F t → bl (T x) ++ s = bl (T y) ++ t → x = y ∧ s = t) :
    ∀ (l l' : List α) (s t : List UInt8), (∀ x ∈ l, P x) → (∀ x ∈ l', P x) → l ≠ [] → l' ≠ [] → F s → F t → (∀ r, s ≠ 44 :: r) → (∀ r, t ≠ 44 :: r) → bl (commas (l.map T)) ++ s = bl (commas (l'.map T)) ++ t → l = l' ∧ s = t := by
  intro l
  induction l with
  | nil => intro l' s t _ _ h; exact absurd rfl h
  | cons x l ih =>
    intro l' s t hl hl' _ hne hs ht hs4 ht4 h
    cases l' with
    | nil => exact absurd rfl hne
    | cons y l' =>
      cases l with
      | nil =>
        cases l' with
        | nil =>
          obtain ⟨h1, h2⟩ := hinj x y s t (hl x (by simp)) (hl' y (by simp)) hs ht h
          exact ⟨by rw [h1], h2⟩
        | cons y2 l' =>
          rw [List.map_cons (l := y2 :: l'), commas_bl _ _ (by simp), List.append_assoc, List.cons_append, List.cons_append] at h
          obtain ⟨_, h2⟩ := hinj x y s _ (hl x (by simp)) (hl' y (by simp)) hs (hF _) h
          exact absurd h2 (hs4 _)
      | cons x2 l =>
        rw [List.map_cons (l := x2 :: l), commas_bl _ _ (by simp), List.append_assoc, List.cons_append, List.cons_append] at h
        cases l' with
        | nil =>
          obtain ⟨_, h2⟩ := hinj x y _ t (hl x (by simp)) (hl' y (by simp)) (hF _) ht h
          exact absurd h2.symm (ht4 _)
        | cons y2 l' =>
          rw [List.map_cons (l := y2 :: l'), commas_bl _ _ (by simp), List.append_assoc, List.cons_append, List.cons_append] at h
          obtain ⟨h1, h2⟩ := hinj x y _ _ (hl x (by simp)) (hl' y (by simp)) (hF _) (hF _) h
          simp only [List.cons.injEq, true_and] at h2
          obtain ⟨h3, h4⟩ := ih (y2 :: l') s t (fun z hz => hl z (by simp [hz])) (fun z hz => hl' z (by simp [hz])) (by simp) (by simp) hs ht hs4 ht4 h2
          exact ⟨by rw [h1, h3], h4⟩
/-! ### items -/
theorem right_ev {z : Ex} {s : List UInt8} (hz : rightX z = true) (hs : Fol s) : Ev fun f => ps f (.E 1) (bl z.text ++ s) = some (z.raw, s) := by
  simp only [rightX, Ex.formed, Bool.and_eq_true, List.all_eq_true, decide_eq_true_eq] at hz
  have := (txt_all z 40 ⟨hz.1.1, hz.2⟩).stop (need := 1) (rest := s) (by decide) hs.1 (by rw [hs.2]; decide)
  rwa [at_one] at this
theorem not_head {z : Ex} {s u w : List UInt8} (hz : rightX z = true) (hs : Fol s) (hn : okName (sof w) = false) (hu : nextOp u = none) (hE : Ev fun f => ps f .M (w ++ u) = some (.mk 1 (sof w) V0 [], u)) (hnn : notW.isPrefixOf (w ++ u) = false) : bl z.text ++ s ≠ w ++ u := by
  intro h
  have h2 : Ev fun f => ps f (.E 1) (w ++ u) = some (.mk 1 (sof w) V0 [], u) :=
    (hE.and (Ev.all (q := fun f => ps f (.L 1 (.mk 1 (sof w) V0 []) 9) u = some (.mk 1 (sof w) V0 [], u)) fun f => psL_stop (by unfold powN; rw [hu]; decide))).step fun f ⟨a, b⟩ => by rw [psE_M hnn, a]; exact b
  obtain ⟨f, h3, h4⟩ := ((right_ev hz hs).and h2).one
  rw [h, h4] at h3
  simp only [Option.some.injEq, Prod.mk.injEq] at h3
  obtain ⟨op, nm, v, ks⟩ := z
  simp only [Ex.raw] at h3
  split at h3
  · have := h3.1
    simp [cst] at this
  · have := h3.1
    simp only [Ex.mk.injEq] at this
    obtain ⟨rfl, e, _⟩ := this
    simp only [rightX, Ex.formed, Bool.and_eq_true, List.all_eq_true, decide_eq_true_eq] at hz
    have := hz.2 nm (by simp [Ex.names])
    rw [← e, hn] at this
    cases this
def aggW (k : Int) : List UInt8 := bl (aggName k)
theorem agg_word {k : Int} (h : 2 ≤ k ∧ k ≤ 5) : ∃ c r, aggW k = c :: r ∧ isLet c = true ∧ (∀ e ∈ c :: r, wordCh e = true) ∧ c :: r ≠ nullW ∧ c :: r ≠ trueW ∧ c :: r ≠ falseW ∧ c :: r ≠ lenW ∧ c :: r ≠ [110, 111, 116] ∧ okName (sof (aggW k)) = false := by
  have : k = 2 ∨ k = 3 ∨ k = 4 ∨ k = 5 := by omega
  rcases this with rfl | rfl | rfl | rfl
  · exact ⟨_, _, rfl, by decide, by decide, by decide, by decide, by decide, by decide, by decide, by decide⟩
  · exact ⟨_, _, rfl, by decide, by decide, by decide, by decide, by decide, by decide, by decide, by decide⟩
  · exact ⟨_, _, rfl, by decide, by decide, by decide, by decide, by decide, by decide, by decide, by decide⟩
  · exact ⟨_, _, rfl, by decide, by decide, by decide, by decide, by decide, by decide, by decide, by decide⟩
theorem not_agg {z : Ex} {s u : List UInt8} {k : Int} (hk : 2 ≤ k ∧ k ≤ 5) (hz : rightX z = true) (hs : Fol s) : bl z.text ++ s ≠ aggW k ++ 40 :: u := by
  obtain ⟨c, r, e, hl, hw, h1, h2, h3, h4, h5, hn⟩ := agg_word hk
  have h40 : ∀ d v, (40 :: u : List UInt8) = d :: v → wordCh d = false := fun d v h => by cases h; decide
  refine not_head hz hs hn rfl ?_ ?_
  · rw [e]
    exact Ev.step (Ev.all fun f => psA_name hl hw h40 h1 h2 h3 h4) fun f h => (psM_A (let_no hl).2.2.2).trans h
  · rw [e]
    apply Bool.eq_false_iff.2
    intro hp
    obtain ⟨t, ht⟩ := List.isPrefixOf_iff_prefix.1 hp
    have h32 : ∀ d v, (32 :: t : List UInt8) = d :: v → wordCh d = false := fun d v h => by cases h; decide
    obtain ⟨h6, h7⟩ := word_split (l := [110, 111, 116]) (s := 32 :: t) (by decide) hw h32 h40 ht
    exact h5 h6.symm
theorem not_star {z : Ex} {s u : List UInt8} (hz : rightX z = true) (hs : Fol s) : bl z.text ++ s ≠ 42 :: u := by
  have h42 : ∀ d v, (42 :: u : List UInt8) = d :: v → wordCh d = false := fun d v h => by cases h; decide
  refine not_head (w := []) hz hs (by decide) rfl ?_ rfl
  refine Ev.step (Ev.all (q := fun f => ps f .A (42 :: u) = some (.mk 1 (sof []) V0 [], 42 :: u)) fun f => ?_) fun f h => (psM_A (by decide)).trans h
  have hr : runN wordCh (42 :: u) = 0 := run_all (l := []) (by simp) h42
  rw [ps]
  simp only [show ¬ (42 : UInt8) = 40 by decide, show ¬ (42 : UInt8) = 39 by decide, if_false, show isDig 42 = false by decide, Bool.false_eq_true, hr, List.take_zero, List.drop_zero]
  rw [if_neg (by decide), if_neg (by decide)]
def ItP (i : Itm) : Prop := rightI i = true ∧ i.2.2.fit
theorem item_bl (i : Itm) (s : List UInt8) : bl (itemT i) ++ s = (if i.2.1 = 0 then bl i.2.2.text else if i.2.1 = 1 then [99, 111, 117, 110, 116, 40, 42, 41] else aggW i.2.1 ++ 40 :: (bl i.2.2.text ++ [41])) ++ ([32, 97, 115, 32] ++ (bl i.1 ++ s)) := by
  unfold itemT aggW
  rw [bl_append, bl_append]
  split
  · simp [bl]
  · split
    · simp [bl]
    · rw [bl_append, bl_append, bl_append]
      simp [bl]
theorem agg_inj {k l : Int} (hk : 2 ≤ k ∧ k ≤ 5) (hl : 2 ≤ l ∧ l ≤ 5) (h : aggW k = aggW l) : k = l := by
  have h1 : k = 2 ∨ k = 3 ∨ k = 4 ∨ k = 5 := by omega
  have h2 : l = 2 ∨ l = 3 ∨ l = 4 ∨ l = 5 := by omega
  rcases h1 with rfl | rfl | rfl | rfl <;> rcases h2 with rfl | rfl | rfl | rfl <;> first | rfl | exact absurd h (by decide)
theorem ag_bl (w a r : List UInt8) : (w ++ 40 :: (a ++ [41])) ++ r = w ++ 40 :: (a ++ 41 :: r) := by simp
theorem item_split {i j : Itm} {s t : List UInt8} (hi : ItP i) (hj : ItP j) (hs : Sep s) (ht : Sep t) (h : bl (itemT i) ++ s = bl (itemT j) ++ t) : i = j ∧ s = t := by
  obtain ⟨n, k, x⟩ := i
  obtain ⟨m, l, y⟩ := j
  obtain ⟨hi, hfx⟩ := hi
  obtain ⟨hj, hfy⟩ := hj
  simp only [rightI, Bool.and_eq_true, decide_eq_true_eq] at hi hj
  obtain ⟨⟨hn, hk⟩, hx⟩ := hi
  obtain ⟨⟨hm, hl⟩, hy⟩ := hj
  rw [item_bl, item_bl] at h
  simp only at h hfx hfy
  have fas : ∀ u, Fol ([32, 97, 115, 32] ++ u) := fun u => ⟨Sep.sp _, rfl⟩
  have fin : k = l → x = y → bl n ++ s = bl m ++ t → ((n, k, x) : Itm) = (m, l, y) ∧ s = t := by
    rintro rfl rfl h
    obtain ⟨rfl, h2⟩ := name_split hn hm hs ht h
    exact ⟨rfl, h2⟩
  have bare : ∀ {z : Ex}, bareX z = true → z = .mk 0 E0 V0 [] := by
    rintro ⟨op, nm, v, ks⟩ hz
    unfold bareX at hz
    simp only [Bool.and_eq_true] at hz
    obtain ⟨⟨⟨e1, e2⟩, e3⟩, e4⟩ := hz
    have e1 : op = 0 := of_decide_eq_true e1
    have e2 : nm = E0 := of_decide_eq_true e2
    have e3 : v = V0 := of_decide_eq_true e3
    have e4 : ks.length = 0 := of_decide_eq_true e4
    rw [e1, e2, e3, List.eq_nil_of_length_eq_zero e4]
  have star : ∀ {u v : List UInt8} {q : Int}, 2 ≤ q ∧ q ≤ 5 → ∀ {z : Ex} {r : List UInt8}, rightX z = true → [99, 111, 117, 110, 116, 40, 42, 41] ++ u ≠ (aggW q ++ 40 :: (bl z.text ++ [41])) ++ r := by
    intro u v q hq z r hz he
    obtain ⟨c, w, e, _, hw, _⟩ := agg_word hq
    rw [ag_bl] at he
    have h40 : ∀ {o : List UInt8}, ∀ d v, (40 :: o : List UInt8) = d :: v → wordCh d = false := fun d v h => by cases h; decide
    obtain ⟨_, h2⟩ := word_split (l := [99, 111, 117, 110, 116]) (s := 40 :: 42 :: 41 :: u) (by decide) (by rw [e]; exact hw) h40 h40 he
    simp only [List.cons.injEq, true_and] at h2
    exact not_star hz (Fol.close r) h2.symm
  by_cases k0 : k = 0
  · subst k0
    rw [if_pos rfl] at h
    rw [if_neg (by decide)] at hx
    by_cases l0 : l = 0
    · subst l0
      rw [if_pos rfl] at h
      rw [if_neg (by decide)] at hy
      obtain ⟨e1, e2⟩ := text_inj hx hfx hy hfy (fas _).1 (fas _).2 (fas _).1 (fas _).2 h
      exact fin rfl e1 (List.append_cancel_left e2)
    · rw [if_neg l0] at h
      by_cases l1 : l = 1
      · subst l1
        rw [if_pos rfl] at h
        exact absurd h (not_agg (k := 2) (by decide) hx (fas _))
      · rw [if_neg l1, List.append_assoc, List.cons_append] at h
        exact absurd h (not_agg (k := l) (by omega) hx (fas _))
  · rw [if_neg k0] at h
    by_cases k1 : k = 1
    · subst k1
      rw [if_pos rfl] at h hx
      by_cases l0 : l = 0
      · subst l0
        rw [if_pos rfl] at h
        rw [if_neg (by decide)] at hy
        exact absurd h.symm (not_agg (k := 2) (by decide) hy (fas _))
      · rw [if_neg l0] at h
        by_cases l1 : l = 1
        · subst l1
          rw [if_pos rfl] at h hy
          exact fin rfl (by rw [bare hx, bare hy]) (List.append_cancel_left (List.append_cancel_left h))
        · rw [if_neg l1] at h hy
          exact absurd h (star (v := []) (by omega) hy)
    · rw [if_neg k1] at h hx
      by_cases l0 : l = 0
      · subst l0
        rw [if_pos rfl, List.append_assoc, List.cons_append] at h
        rw [if_neg (by decide)] at hy
        exact absurd h.symm (not_agg (k := k) (by omega) hy (fas _))
      · rw [if_neg l0] at h
        by_cases l1 : l = 1
        · subst l1
          rw [if_pos rfl] at h
          exact absurd h.symm (star (v := []) (by omega) hx)
        · rw [if_neg l1] at h hy
          obtain ⟨c, w, e, _, hw, _⟩ := agg_word (k := k) (by omega)
          obtain ⟨c', w', e', _, hw', _⟩ := agg_word (k := l) (by omega)
          rw [ag_bl, ag_bl] at h
          have h40 : ∀ {o : List UInt8}, ∀ d v, (40 :: o : List UInt8) = d :: v → wordCh d = false := fun d v h => by cases h; decide
          obtain ⟨e1, e2⟩ := word_split (by rw [e]; exact hw) (by rw [e']; exact hw') h40 h40 h
          simp only [List.cons.injEq, true_and] at e2
          obtain ⟨e3, e4⟩ := text_inj hx hfx hy hfy (Fol.close _).1 (Fol.close _).2 (Fol.close _).1 (Fol.close _).2 e2
          simp only [List.cons.injEq, true_and] at e4
          exact fin (agg_inj (by omega) (by omega) e1) e3 (List.append_cancel_left e4)
/-! ### keys -/
theorem key_split {l : List Itm} (hl : ∀ i ∈ l, okName i.1 = true) {k m : Int × Bool} {s t : List UInt8} (hk : rightK l k.1 = true) (hm : rightK l m.1 = true) (hs : Sep s ∧ ∀ r, s ≠ 32 :: 100 :: r) (ht : Sep t ∧ ∀ r, t ≠ 32 :: 100 :: r) (h : bl (keyT l k) ++ s = bl (keyT l m) ++ t) : k = m ∧ s = t := by
  obtain ⟨k, dk⟩ := k
  obtain ⟨m, dm⟩ := m
  simp only [rightK, Bool.and_eq_true, decide_eq_true_eq] at hk hm
  have nm : ∀ {j : Int}, 0 ≤ j ∧ j < (l.length : Int) → okName (l.getD j.toNat (E0, 0, .mk 0 E0 V0 [])).1 = true := fun {j} hj => by
    have : j.toNat < l.length := by omega
    rw [List.getD_eq_getElem?_getD, List.getElem?_eq_getElem this, Option.getD_some]
    exact hl _ (List.getElem_mem _)
  unfold keyT at h
  rw [bl_append, bl_append, List.append_assoc, List.append_assoc] at h
  simp only at h
  have sp : ∀ (d : Bool) (s : List UInt8), Sep s → Sep (bl (if d = true then (⟨#[32, 100, 101, 115, 99]⟩ : ByteArray) else E0) ++ s) := fun d s hs => by
    cases d
    · exact hs
    · exact Sep.sp _
  obtain ⟨e1, e2⟩ := name_split (nm hk.1) (nm hm.1) (sp dk s hs.1) (sp dm t ht.1) h
  have ekm : k = m := by
    have h1 := hk.2
    have h2 := hm.2
    rw [e1, h2] at h1
    simp only [Option.some.injEq] at h1
    omega
  subst ekm
  cases dk <;> cases dm
  · exact ⟨rfl, e2⟩
  · exact absurd e2 (hs.2 _)
  · exact absurd e2.symm (ht.2 _)
  · exact ⟨rfl, List.append_cancel_left e2⟩
/-! ### a query -/
theorem part_bl (head : ByteArray) (l : List ByteArray) (s : List UInt8) : bl (partT head l) ++ s = if l.length = 0 then s else bl head ++ (bl (commas l) ++ s) := by
  unfold partT
  split
  · rfl
  · rw [bl_append, List.append_assoc]
def limB (q : Qu) : List UInt8 := bl (limT q.lim)
def ordB (q : Qu) : List UInt8 := bl (partT ⟨#[32, 111, 114, 100, 101, 114, 32, 98, 121, 32]⟩ (q.od.map (keyT q.it))) ++ limB q
def grpB (q : Qu) : List UInt8 := bl (partT ⟨#[32, 103, 114, 111, 117, 112, 32, 98, 121, 32]⟩ (q.gr.map Ex.text)) ++ ordB q
def whrB (q : Qu) : List UInt8 := bl (partT ⟨#[32, 119, 104, 101, 114, 101, 32]⟩ (q.wh.map Ex.text)) ++ grpB q
theorem quT_bl (q : Qu) : bl (quT q) = bl (partT ⟨#[115, 101, 108, 101, 99, 116, 32]⟩ (q.it.map itemT)) ++ whrB q := by
  unfold quT whrB grpB ordB limB
  simp only [bl_append, List.append_assoc]
theorem limB_head (q : Qu) : limB q = [] ∨ ∃ r, limB q = 32 :: 108 :: r := by
  unfold limB limT
  split
  · exact .inr ⟨_, by rw [bl_append]; rfl⟩
  · exact .inl rfl
theorem ordB_head (q : Qu) : ordB q = [] ∨ (∃ r, ordB q = 32 :: 108 :: r) ∨ ∃ r, ordB q = 32 :: 111 :: 114 :: 100 :: r := by
  unfold ordB
  rw [part_bl]
  split
  · rcases limB_head q with h | h
    · exact .inl h
    · exact .inr (.inl h)
  · exact .inr (.inr ⟨_, rfl⟩)
theorem grpB_head (q : Qu) : grpB q = [] ∨ (∃ r, grpB q = 32 :: 108 :: r) ∨ (∃ r, grpB q = 32 :: 111 :: 114 :: 100 :: r) ∨ ∃ r, grpB q = 32 :: 103 :: r := by
  unfold grpB
  rw [part_bl]
  split
  · rcases ordB_head q with h | h | h
    · exact .inl h
    · exact .inr (.inl h)
    · exact .inr (.inr (.inl h))
  · exact .inr (.inr (.inr ⟨_, rfl⟩))
theorem whrB_head (q : Qu) : whrB q = [] ∨ (∃ r, whrB q = 32 :: 108 :: r) ∨ (∃ r, whrB q = 32 :: 111 :: 114 :: 100 :: r) ∨ (∃ r, whrB q = 32 :: 103 :: r) ∨ ∃ r, whrB q = 32 :: 119 :: r := by
  unfold whrB
  rw [part_bl]
  split
  · rcases grpB_head q with h | h | h | h
    · exact .inl h
    · exact .inr (.inl h)
    · exact .inr (.inr (.inl h))
    · exact .inr (.inr (.inr (.inl h)))
  · exact .inr (.inr (.inr (.inr ⟨_, rfl⟩)))
theorem fol_nil : Fol [] := ⟨.inl rfl, rfl⟩
theorem fol_l (r : List UInt8) : Fol (32 :: 108 :: r) := ⟨Sep.sp _, rfl⟩
theorem fol_o (r : List UInt8) : Fol (32 :: 111 :: 114 :: 100 :: r) := ⟨Sep.sp _, rfl⟩
theorem fol_g (r : List UInt8) : Fol (32 :: 103 :: r) := ⟨Sep.sp _, rfl⟩
theorem fol_w (r : List UInt8) : Fol (32 :: 119 :: r) := ⟨Sep.sp _, rfl⟩
def End (s : List UInt8) : Prop := Fol s ∧ (∀ r, s ≠ 44 :: r) ∧ ∀ r, s ≠ 32 :: 100 :: r
theorem end_nil : End [] := ⟨fol_nil, by simp, by simp⟩
theorem ord_end (q : Qu) : End (ordB q) := by
  rcases ordB_head q with h | ⟨r, h⟩ | ⟨r, h⟩ <;> rw [h]
  · exact end_nil
  · exact ⟨fol_l r, by simp, by simp⟩
  · exact ⟨fol_o r, by simp, by simp⟩
theorem grp_end (q : Qu) : End (grpB q) := by
  rcases grpB_head q with h | ⟨r, h⟩ | ⟨r, h⟩ | ⟨r, h⟩ <;> rw [h]
  · exact end_nil
  · exact ⟨fol_l r, by simp, by simp⟩
  · exact ⟨fol_o r, by simp, by simp⟩
  · exact ⟨fol_g r, by simp, by simp⟩
theorem whr_end (q : Qu) : End (whrB q) := by
  rcases whrB_head q with h | ⟨r, h⟩ | ⟨r, h⟩ | ⟨r, h⟩ | ⟨r, h⟩ <;> rw [h]
  · exact end_nil
  · exact ⟨fol_l r, by simp, by simp⟩
  · exact ⟨fol_o r, by simp, by simp⟩
  · exact ⟨fol_g r, by simp, by simp⟩
  · exact ⟨fol_w r, by simp, by simp⟩
theorem lim_end (q : Qu) : End (limB q) := by
  rcases limB_head q with h | ⟨r, h⟩ <;> rw [h]
  · exact end_nil
  · exact ⟨fol_l r, by simp, by simp⟩
def XP (x : Ex) : Prop := rightX x = true ∧ x.fit
theorem exs_split {l l' : List Ex} {s t : List UInt8} (hl : ∀ x ∈ l, XP x) (hl' : ∀ x ∈ l', XP x) (h0 : l ≠ []) (h0' : l' ≠ []) (hs : End s) (ht : End t) (h : bl (commas (l.map Ex.text)) ++ s = bl (commas (l'.map Ex.text)) ++ t) : l = l' ∧ s = t :=
  list_split (F := Fol) (P := XP) Fol.comma (fun x y s t hx hy hs ht h => text_inj hx.1 hx.2 hy.1 hy.2 hs.1 hs.2 ht.1 ht.2 h) l l' s t hl hl' h0 h0' hs.1 ht.1 hs.2.1 ht.2.1 h
structure QuP (q : Qu) : Prop where
  s : smallQ q = true
  it : ∀ i ∈ q.it, i.2.2.fit
  wh : ∀ x ∈ q.wh, x.fit
  gr : ∀ x ∈ q.gr, x.fit
  lim : i64 q.lim
theorem quT_inj {q p : Qu} (hq : QuP q) (hp : QuP p) (h : quT q = quT p) : q = p := by
  obtain ⟨⟨q1, q2, q3, q4, q5, q6, q7⟩, qi, qw, qg, qk⟩ := smallQ_iff.1 hq.s
  obtain ⟨⟨p1, p2, p3, p4, p5, p6, p7⟩, pi, pw, pg, pk⟩ := smallQ_iff.1 hp.s
  have h := congrArg bl h
  rw [quT_bl, quT_bl, part_bl, part_bl, if_neg (by rw [List.length_map]; omega), if_neg (by rw [List.length_map]; omega)] at h
  have h := List.append_cancel_left h
  have ne : ∀ {α : Type} {l : List α}, 1 ≤ l.length → l ≠ [] := fun h e => by rw [e] at h; simp at h
  obtain ⟨eit, h⟩ := list_split (F := Sep) (P := ItP) (fun r => (Fol.comma r).1) (fun x y s t hx hy hs ht h => item_split hx hy hs ht h) q.it p.it _ _ (fun i hi => ⟨qi i hi, hq.it i hi⟩) (fun i hi => ⟨pi i hi, hp.it i hi⟩) (ne q1) (ne p1) (whr_end q).1.1 (whr_end p).1.1 (whr_end q).2.1 (whr_end p).2.1 h
  have xq : ∀ {l : List Ex}, (∀ x ∈ l, rightX x = true) → (∀ x ∈ l, x.fit) → ∀ x ∈ l, XP x := fun h1 h2 x hx => ⟨h1 x hx, h2 x hx⟩
  -- where
  have step : ∀ {l l' : List Ex} {head : ByteArray} {s t : List UInt8}, (∀ x ∈ l, XP x) → (∀ x ∈ l', XP x) → End s → End t → (∀ u, bl head ++ u ≠ s) → (∀ u, bl head ++ u ≠ t) → bl (partT head (l.map Ex.text)) ++ s = bl (partT head (l'.map Ex.text)) ++ t → l = l' ∧ s = t := by
    intro l l' head s t hl hl' hs ht ns nt h
    rw [part_bl, part_bl, List.length_map, List.length_map] at h
    by_cases z : l.length = 0
    · rw [if_pos z] at h
      by_cases z' : l'.length = 0
      · rw [if_pos z'] at h
        exact ⟨by rw [List.eq_nil_of_length_eq_zero z, List.eq_nil_of_length_eq_zero z'], h⟩
      · rw [if_neg z'] at h
        exact absurd h.symm (ns _)
    · rw [if_neg z] at h
      by_cases z' : l'.length = 0
      · rw [if_pos z'] at h
        exact absurd h (nt _)
      · rw [if_neg z'] at h
        exact exs_split hl hl' (ne (by omega)) (ne (by omega)) hs ht (List.append_cancel_left h)
  have nw : ∀ (p : Qu) u, bl (⟨#[32, 119, 104, 101, 114, 101, 32]⟩ : ByteArray) ++ u ≠ grpB p := fun p u => by
    rcases grpB_head p with h | ⟨r, h⟩ | ⟨r, h⟩ | ⟨r, h⟩ <;> rw [h] <;> simp [bl]
  have ng : ∀ (p : Qu) u, bl (⟨#[32, 103, 114, 111, 117, 112, 32, 98, 121, 32]⟩ : ByteArray) ++ u ≠ ordB p := fun p u => by
    rcases ordB_head p with h | ⟨r, h⟩ | ⟨r, h⟩ <;> rw [h] <;> simp [bl]
  have no : ∀ (p : Qu) u, bl (⟨#[32, 111, 114, 100, 101, 114, 32, 98, 121, 32]⟩ : ByteArray) ++ u ≠ limB p := fun p u => by
    rcases limB_head p with h | ⟨r, h⟩ <;> rw [h] <;> simp [bl]
  obtain ⟨ewh, h⟩ := step (xq qw hq.wh) (xq pw hp.wh) (grp_end q) (grp_end p) (nw q) (nw p) h
  obtain ⟨egr, h⟩ := step (xq qg hq.gr) (xq pg hp.gr) (ord_end q) (ord_end p) (ng q) (ng p) h
  have eod : q.od = p.od ∧ limB q = limB p := by
    unfold ordB at h
    rw [← eit] at h pk
    rw [part_bl, part_bl, List.length_map, List.length_map] at h
    by_cases z : q.od.length = 0
    · rw [if_pos z] at h
      by_cases z' : p.od.length = 0
      · rw [if_pos z'] at h
        exact ⟨by rw [List.eq_nil_of_length_eq_zero z, List.eq_nil_of_length_eq_zero z'], h⟩
      · rw [if_neg z'] at h
        exact absurd h.symm (no q _)
    · rw [if_neg z] at h
      by_cases z' : p.od.length = 0
      · rw [if_pos z'] at h
        exact absurd h (no p _)
      · rw [if_neg z'] at h
        have okn : ∀ i ∈ q.it, okName i.1 = true := fun i hi => by
          have := qi i hi
          simp only [rightI, Bool.and_eq_true] at this
          exact this.1.1
        exact list_split (F := fun s => Sep s ∧ ∀ r, s ≠ 32 :: 100 :: r) (P := fun k => rightK q.it k.1 = true) (fun r => ⟨(Fol.comma r).1, by simp⟩) (fun x y s t hx hy hs ht h => key_split okn hx hy hs ht h) q.od p.od _ _ qk pk (ne (by omega)) (ne (by omega)) ⟨(lim_end q).1.1, (lim_end q).2.2⟩ ⟨(lim_end p).1.1, (lim_end p).2.2⟩ (lim_end q).2.1 (lim_end p).2.1 (List.append_cancel_left h)
  have elim : q.lim = p.lim := by
    have h := eod.2
    unfold limB limT at h
    split at h
    · split at h
      · rw [bl_append, bl_append, bl_sof, bl_sof] at h
        exact vitoa_inj hq.lim hp.lim (List.append_cancel_left h)
      · rw [bl_append] at h
        simp [bl] at h
    · split at h
      · rw [bl_append] at h
        simp [bl] at h
      · omega
  obtain ⟨a, b, c, d, e⟩ := q
  obtain ⟨a', b', c', d', e'⟩ := p
  simp only at eit ewh egr eod elim
  rw [eit, ewh, egr, eod.1, elim]
end Go.Proofs.YtbpdfpfgijhokaaGreatDoor
namespace Go.Proofs.YtbpdfpfgijhokaaGreatDoor
set_option maxRecDepth 100000
open Go.Dn Go.Proofs
open Go.RowKit (Below)
set_option linter.unusedVariables false
section
variable {w0 w : World} {H : List It}
theorem stI (S : ST w0 w H) (n : Nat) {b : Nat} {i : Itm} {a : Option Addr} {cap : Nat} (hn : H[n]? = some (itI b i a cap)) {Q : ByteArray → Int → Int → ByteArray → Int → Int → ByteArray → Option Addr → Nat → Nat → Prop} (hq : Q i.1 i.2.1 i.2.2.op i.2.2.nm i.2.2.v.1 i.2.2.v.2.1 i.2.2.v.2.2 a i.2.2.ks.length cap) :
    ∃ t0 : ByteArray, w.cell? ⟨b, 0, none⟩ = some (.string t0) ∧ ∃ t1 : Int, w.cell? ⟨b, 1, none⟩ = some (.int .i64 t1) ∧ ∃ t2 : Int, w.cell? ⟨b, 2, none⟩ = some (.int .i64 t2) ∧ ∃ t3 : ByteArray, w.cell? ⟨b, 3, none⟩ = some (.string t3) ∧ ∃ t4 : Int, w.cell? ⟨b, 4, none⟩ = some (.int .i64 t4) ∧ ∃ t5 : Int, w.cell? ⟨b, 5, none⟩ = some (.int .i64 t5) ∧ ∃ t6 : ByteArray, w.cell? ⟨b, 6, none⟩ = some (.string t6) ∧
      ∃ (t7 : Option Addr) (l c : Nat), w.cell? ⟨b, 7, none⟩ = some (.slice t7 l c) ∧ Q t0 t1 t2 t3 t4 t5 t6 t7 l c :=
  ⟨_, S.cell n hn rfl, _, S.cell n hn rfl, _, S.cell n hn rfl, _, S.cell n hn rfl, _, S.cell n hn rfl, _, S.cell n hn rfl, _, S.cell n hn rfl, _, _, _, S.cell n hn rfl, hq⟩
theorem stItm (S : ST w0 w H) (n : Nat) {b : Nat} {x0 x1 x2 x3 x4 x5 x6 x7 : Value} {t1 t2 t4 t5 : Int} {t0 t3 t6 : ByteArray} {a7 : Option Addr} {l7 c7 : Nat} {t : TypeId} (hn : H[n]? = some (It.cells b #[x0, x1, x2, x3, x4, x5, x6, x7] t)) {Q : ByteArray → Int → Int → ByteArray → Int → Int → ByteArray → Option Addr → Nat → Nat → World → Prop}
    (hk : ∀ w', ST w0 w' (H.set n (It.cells b #[.string t0, .int .i64 t1, .int .i64 t2, .string t3, .int .i64 t4, .int .i64 t5, .string t6, .slice a7 l7 c7] t)) → Q t0 t1 t2 t3 t4 t5 t6 a7 l7 c7 w') :
    STO ⟨b, 0, none⟩ (.string t0) (fun w => STO ⟨b, 1, none⟩ (.int .i64 t1) (fun w => STO ⟨b, 2, none⟩ (.int .i64 t2) (fun w => STO ⟨b, 3, none⟩ (.string t3) (fun w => STO ⟨b, 4, none⟩ (.int .i64 t4) (fun w => STO ⟨b, 5, none⟩ (.int .i64 t5) (fun w => STO ⟨b, 6, none⟩ (.string t6) (fun w => STO ⟨b, 7, none⟩ (.slice a7 l7 c7) (fun w =>
      ∃ r0 : ByteArray, w.cell? ⟨b, 0, none⟩ = some (.string r0) ∧ ∃ r1 : Int, w.cell? ⟨b, 1, none⟩ = some (.int .i64 r1) ∧ ∃ r2 : Int, w.cell? ⟨b, 2, none⟩ = some (.int .i64 r2) ∧ ∃ r3 : ByteArray, w.cell? ⟨b, 3, none⟩ = some (.string r3) ∧ ∃ r4 : Int, w.cell? ⟨b, 4, none⟩ = some (.int .i64 r4) ∧ ∃ r5 : Int, w.cell? ⟨b, 5, none⟩ = some (.int .i64 r5) ∧ ∃ r6 : ByteArray, w.cell? ⟨b, 6, none⟩ = some (.string r6) ∧
      ∃ (r7 : Option Addr) (l c : Nat), w.cell? ⟨b, 7, none⟩ = some (.slice r7 l c) ∧ Q r0 r1 r2 r3 r4 r5 r6 r7 l c w) w) w) w) w) w) w) w) w := by
  have hlt := (List.getElem?_eq_some_iff.1 hn).1
  have g : ∀ {x : It}, (H.set n x)[n]? = some x := List.getElem?_set_self hlt
  exact S.sto8 n hn fun w' S' => ⟨_, S'.cell n g rfl, _, S'.cell n g rfl, _, S'.cell n g rfl, _, S'.cell n g rfl, _, S'.cell n g rfl, _, S'.cell n g rfl, _, S'.cell n g rfl, _, _, _, S'.cell n g rfl, hk w' S'⟩
theorem stIx6 (S : ST w0 w H) (n : Nat) {b : Nat} {x0 x1 x2 x3 x4 x5 x6 x7 v2 v3 v4 v5 v6 v7 : Value} {t : TypeId} (hn : H[n]? = some (It.cells b #[x0, x1, x2, x3, x4, x5, x6, x7] t)) {k : World → Prop}
    (hk : ∀ w', ST w0 w' (H.set n (It.cells b #[x0, x1, v2, v3, v4, v5, v6, v7] t)) → k w') :
    STO ⟨b, 2, none⟩ v2 (fun w => STO ⟨b, 3, none⟩ v3 (fun w => STO ⟨b, 4, none⟩ v4 (fun w => STO ⟨b, 5, none⟩ v5 (fun w => STO ⟨b, 6, none⟩ v6 (fun w => STO ⟨b, 7, none⟩ v7 k w) w) w) w) w) w := by
  have hlt := (List.getElem?_eq_some_iff.1 hn).1
  have g : ∀ {x : It}, (H.set n x)[n]? = some x := List.getElem?_set_self hlt
  refine S.sto n hn (cs' := #[x0, x1, v2, x3, x4, x5, x6, x7]) (by simp) rfl fun w1 S1 => S1.sto n g (cs' := #[x0, x1, v2, v3, x4, x5, x6, x7]) (by simp) rfl fun w2 S2 => ?_
  rw [List.set_set] at S2
  refine S2.sto n g (cs' := #[x0, x1, v2, v3, v4, x5, x6, x7]) (by simp) rfl fun w3 S3 => ?_
  rw [List.set_set] at S3
  refine S3.sto n g (cs' := #[x0, x1, v2, v3, v4, v5, x6, x7]) (by simp) rfl fun w4 S4 => ?_
  rw [List.set_set] at S4
  refine S4.sto n g (cs' := #[x0, x1, v2, v3, v4, v5, v6, x7]) (by simp) rfl fun w5 S5 => ?_
  rw [List.set_set] at S5
  refine S5.sto n g (cs' := #[x0, x1, v2, v3, v4, v5, v6, v7]) (by simp) rfl fun w6 S6 => ?_
  rw [List.set_set] at S6
  exact hk w6 S6
end
def asW : ByteArray := ⟨#[97, 115]⟩
section
variable {w0 w : World} {H : List It} {b : Nat} {a : Option Addr} {c i : Nat} {T : List Tk}
end
section
variable {w : World} {q : Qu} {ai aw ag ao : Option Addr} {ci cw cg co : Nat}
end
structure Pl where
  cs : List Col
  q : Qu
  out : List Col
  g : Bool
section
variable {cs : List Col} {q : Qu} (h1 : rightCols cs = true) (h2 : rightQ q = true)
include h1 h2
end
section
variable {w : World} {q : Qu} {ai aw ag ao : Option Addr} {ci cw cg co : Nat}
end
section
variable {w : World} {p : Pl} {a0 ai aw ag ao a6 b0 bi bw bg bo b6 : Option Addr} {c0 ci cw cg co c6 d0 di dw dg d_o d6 : Nat}
end
section
variable {w : World} {p : Pl} {a0 ai aw ag ao a6 : Option Addr} {c0 ci cw cg co c6 : Nat}
end
end Go.Proofs.YtbpdfpfgijhokaaGreatDoor
namespace Go.Proofs.YtbpdfpfgijhokaaGreatDoor
set_option maxRecDepth 100000
open Go.Dn Go.Proofs
open Go.RowKit (Below)
open Go.Sort (putRow putCells Holds)
set_option linter.unusedVariables false
section
variable {w0 w : World} {H : List It} {a : Option Addr} {c : Nat}
end
end Go.Proofs.YtbpdfpfgijhokaaGreatDoor
namespace Go.Proofs.YtbpdfpfgijhokaaGreatDoor
set_option maxRecDepth 100000
open Go.Dn Go.Proofs
open Go.RowKit (Below)
set_option linter.unusedVariables false
/-! ### plain -/
abbrev Prt := Int × Bool × Ex
def itPrts (i : Nat) : List Itm → List Prt
  | [] => []
  | x :: l => ((i : Int), false, x.2.2) :: itPrts (i + 1) l
def prts (q : Qu) : List Prt := q.wh.map (fun x => (-1, true, x)) ++ q.gr.map (fun x => (-1, false, x)) ++ itPrts 0 q.it
def stepP (cs : List Col) (q : Qu) (p : Prt) : Except Int (List Col) :=
  if p.1 < 0 then
    match typeE cs p.2.2 with
    | .error e => .error e
    | .ok k => if p.2.1 = true ∧ k ≠ 2 ∧ k ≠ 0 then .error 121 else .ok []
  else match q.it[p.1.toNat]? with
    | none => .ok []
    | some x => match itemP cs q p.1.toNat x with
      | .error e => .error e
      | .ok c => .ok [c]
def runP (cs : List Col) (q : Qu) : List Prt → Except Int (List Col)
  | [] => .ok []
  | p :: l => match stepP cs q p with
    | .error e => .error e
    | .ok c => match runP cs q l with
      | .error e => .error e
      | .ok r => .ok (c ++ r)
theorem run_where {cs : List Col} {q : Qu} : ∀ (l : List Ex) (m : List Prt), runP cs q (l.map (fun x => ((-1, true, x) : Prt)) ++ m) = match whereP cs l with | some e => .error e | none => runP cs q m
  | [], m => rfl
  | x :: l, m => by
    simp only [List.map_cons, List.cons_append, runP, stepP, whereP, run_where l m]
    rw [if_pos (by decide)]
    cases hT : typeE cs x with
    | error e => rfl
    | ok k =>
      simp only [true_and]
      by_cases hk : k ≠ 2 ∧ k ≠ 0
      · rw [if_pos hk, if_pos hk]
      · rw [if_neg hk, if_neg hk]
        cases whereP cs l with
        | some e => rfl
        | none => simp only [List.nil_append] <;> (cases runP cs q m <;> rfl)
theorem run_group {cs : List Col} {q : Qu} : ∀ (l : List Ex) (m : List Prt), runP cs q (l.map (fun x => ((-1, false, x) : Prt)) ++ m) = match groupP cs l with | some e => .error e | none => runP cs q m
  | [], m => rfl
  | x :: l, m => by
    simp only [List.map_cons, List.cons_append, runP, stepP, groupP, run_group l m]
    rw [if_pos (by decide)]
    cases hT : typeE cs x with
    | error e => rfl
    | ok k =>
      simp only [Bool.false_eq_true, false_and, if_false]
      cases groupP cs l with
      | some e => rfl
      | none => simp only [List.nil_append] <;> (cases runP cs q m <;> rfl)
theorem run_items {cs : List Col} {q : Qu} : ∀ (l : List Itm) (i : Nat), (∀ j (h : j < l.length), q.it[i + j]? = some l[j]) → runP cs q (itPrts i l) = itemsP cs q i l
  | [], i, _ => rfl
  | x :: l, i, h => by
    simp only [itPrts, runP, stepP, itemsP]
    rw [if_neg (by omega), Int.toNat_natCast]
    have h0 := h 0 (by simp)
    simp only [Nat.add_zero, List.getElem_cons_zero] at h0
    rw [h0, run_items l (i + 1) fun j hj => by
      have := h (j + 1) (by simpa using hj)
      simp only [List.getElem_cons_succ] at this
      rwa [show i + 1 + j = i + (j + 1) by omega]]
    simp only
    cases itemP cs q i x with
    | error e => rfl
    | ok c => simp only <;> (cases itemsP cs q (i + 1) l <;> rfl)
theorem run_make {cs : List Col} {q : Qu} (h1 : rightCols cs = true) (h2 : rightQ q = true) : runP cs q (prts q) = makeP cs q := by
  unfold prts makeP
  rw [if_neg (by rw [h1]; decide), if_neg (by rw [h2]; decide), List.append_assoc, run_where, run_group, run_items q.it 0 fun j h => by rw [Nat.zero_add]; exact List.getElem?_eq_getElem h]
  cases whereP cs q.wh with
  | some e => rfl
  | none => cases groupP cs q.gr <;> rfl
/-! ### the walk over them -/
section
variable {w0 : World} {q : Qu} {ai aw ag ao : Option Addr} {ci cw cg co : Nat}
end
/-! ### an item, an expression -/
section
variable {w w0 : World} {q : Qu} {ai aw ag ao : Option Addr} {ci cw cg co : Nat} {H : List It} {cs : List Col} {a0 a6 : Option Addr} {c0 c6 b : Nat} {out : List Col} {g : Bool}
end
end Go.Proofs.YtbpdfpfgijhokaaGreatDoor
namespace Go.Proofs.YtbpdfpfgijhokaaGreatDoor
set_option maxRecDepth 100000
open Go.Dn Go.Proofs
open Go.RowKit (Below)
set_option linter.unusedVariables false
section
variable {w w0 : World} {q : Qu} {ai aw ag ao : Option Addr} {ci cw cg co : Nat} {H : List It} {cs : List Col} {a0 a6 : Option Addr} {c0 c6 b : Nat} {out : List Col}
end
section
variable {w w0 : World} {H : List It}
end
section
variable {w : World} {q : Qu} {ai aw ag ao : Option Addr} {ci cw cg co : Nat}
end
section
variable {w : World} {p : Pl} {a0 ai aw ag ao a6 : Option Addr} {c0 ci cw cg co c6 : Nat}
end
def i1 : Itm := (⟨#[107]⟩, 0, colX ⟨#[98]⟩)
def i2 : Itm := (⟨#[115]⟩, 3, colX ⟨#[97]⟩)
def zIt : Value := .agg #[.string ⟨#[]⟩, .int .i64 0, .int .i64 0, .string ⟨#[]⟩, .int .i64 0, .int .i64 0, .string ⟨#[]⟩, .slice none 0 0]
theorem tItems : slT Tryz.prog ty.L_api_Item = some (ty.api_Item, 8, 104, zIt) := by kernel_rfl
theorem it_one (i : Itm) (a : Option Addr) (cap : Nat) : ∀ u ∈ itHead i a cap, u.oneCell' = true := by
  intro u hu
  simp only [itHead, exHead, List.mem_cons, List.not_mem_nil, or_false] at hu
  rcases hu with rfl | rfl | rfl | rfl | rfl | rfl | rfl | rfl <;> rfl
theorem ex_one (x : Ex) (a : Option Addr) (cap : Nat) : ∀ u ∈ exHead x a cap, u.oneCell' = true := by
  intro u hu
  simp only [exHead, List.mem_cons, List.not_mem_nil, or_false] at hu
  rcases hu with rfl | rfl | rfl | rfl | rfl | rfl <;> rfl
abbrev zqb (b : Nat) : It := It.cells b #[.slice none 0 0, .slice none 0 0, .slice none 0 0, .slice none 0 0, .int .i64 0] ty.api_Query
abbrev itemsI (a : Option Addr) (n c : Nat) (rs : List Value) : It := It.row ty.api_Item 8 a n c rs
section
variable {w0 w : World} {H : List It} {b : Nat} {a : Option Addr} {c : Nat}
end
theorem colX_c (w : World) {s : ByteArray} (h : s.size ≤ maxLen) : XC w (colX s) (exHead (colX s) none 0) :=
  ExC.close (rs := []) (Rd.nil _ _) (by simp) (Nat.le_refl _) (by decide) (fun _ => rfl) ⟨⟨by show -9223372036854775808 ≤ (1 : Int); decide, by show (1 : Int) ≤ 9223372036854775807; decide⟩, h, ⟨by show -9223372036854775808 ≤ (0 : Int); decide, by show (0 : Int) ≤ 9223372036854775807; decide⟩, ⟨by show -9223372036854775808 ≤ (0 : Int); decide, by show (0 : Int) ≤ 9223372036854775807; decide⟩, by show (0 : Nat) ≤ maxLen; omega⟩ ExL.nil
section
variable {w : World}
/-! ### a query that sums gathers -/
end
end Go.Proofs.YtbpdfpfgijhokaaGreatDoor
