/-
  Texts of this claim, laid one behind the other by a program of mine (install.py): P.ReadX, P.Pw1, P.Pw2, P.Pw3, P.Pw4.
-/
import Derived.Test.YtbpdfpfgijhokaaGreatDoorRead
import Derived.Test.YtbpdfpfgijhokaaGreatDoorM6
namespace Go.Proofs.YtbpdfpfgijhokaaGreatDoor
open Go.Dn Go.Proofs
set_option maxRecDepth 100000
set_option linter.unusedVariables false
namespace X
def query_parser_query (p_1 : Option Addr) (k : Value → World → Prop) (kp : List PanicEntry → World → Prop) (w0 : World) : Prop :=
  NEWB #[.pointer p_1] 143 (fun b_2 w1 => NEWB #[.slice none 0 0, .slice none 0 0, .slice none 0 0, .slice none 0 0, .int .i64 0] 27 (fun b_3 w2 => NEWB #[.slice none 0 0, .slice none 0 0, .slice none 0 0, .slice none 0 0, .int .i64 0] 27 (fun b_4 w3 => STO ⟨b_4, 0, none⟩ (.slice none 0 0) (fun w4 => STO ⟨b_4, 1, none⟩ (.slice none 0 0) (fun w5 => STO ⟨b_4, 2, none⟩ (.slice none 0 0) (fun w6 => STO ⟨b_4, 3, none⟩ (.slice none 0 0) (fun w7 => STO ⟨b_4, 4, none⟩ (.int .i64 (-1)) (fun w8 => ∃ t6_5 : Option Addr, w8.cell? ⟨b_2, 0, none⟩ = some (.pointer t6_5) ∧ NEWB #[.string ⟨#[115, 101, 108, 101, 99, 116]⟩] 9 (fun b_6 w9 => Calls Tryz.prog f.query_parser_need #[.pointer t6_5, .slice (some ⟨b_6, 0, none⟩) 1 1] w9 (fun e_7 w10 => (e_7 = .returned (.tuple #[]) ∧ ∃ t9_9 : Option Addr, w10.cell? ⟨b_2, 0, none⟩ = some (.pointer t9_9) ∧ Calls Tryz.prog f.query_parser_list #[.pointer t9_9, .func (.func 157) #[] #[.pointer (some ⟨b_4, 0, none⟩), .pointer (some ⟨b_2, 0, none⟩)]] w10 (fun e_10 w11 => (e_10 = .returned (.tuple #[]) ∧ ∃ Y_26 : List Value → World → Prop, (∃ t12_12 : Option Addr, w11.cell? ⟨b_2, 0, none⟩ = some (.pointer t12_12) ∧ Calls Tryz.prog f.query_parser_take #[.pointer t12_12, .string ⟨#[119, 104, 101, 114, 101]⟩] w11 (fun e_14 w12 => (∃ t13_13 : Bool, e_14 = .returned (.bool t13_13) ∧ IFB t13_13 (∃ t14_15 : Option Addr, w12.cell? ⟨b_2, 0, none⟩ = some (.pointer t14_15) ∧ Calls Tryz.prog f.query_parser_expr #[.pointer t14_15, .int .i64 1] w12 (fun e_22 w13 => (∃ t150_16 : Int, ∃ t151_17 : ByteArray, ∃ t152_18 : Int, ∃ t153_19 : Int, ∃ t154_20 : ByteArray, ∃ (t155_21 : Option Addr) (t155_21l t155_21c : Nat), e_22 = .returned (.agg #[.int .i64 t150_16, .string t151_17, .int .i64 t152_18, .int .i64 t153_19, .string t154_20, .slice t155_21 t155_21l t155_21c]) ∧ NEWB #[.int .i64 t150_16, .string t151_17, .int .i64 t152_18, .int .i64 t153_19, .string t154_20, .slice t155_21 t155_21l t155_21c] 47 (fun b_23 w14 => STO ⟨b_4, 1, none⟩ (.slice (some ⟨b_23, 0, none⟩) 1 1) (fun w15 => Y_26 [] w15) w14) w13) ∨ ∃ c_24, e_22 = .panicked c_24 ∧ kp c_24 w13)) (Y_26 [] w12)) ∨ ∃ c_25, e_14 = .panicked c_25 ∧ kp c_25 w12)) ∧ ∀ w16 : World, Y_26 [] w16 → ∃ Y_38 : List Value → World → Prop, (∃ t18_27 : Option Addr, w16.cell? ⟨b_2, 0, none⟩ = some (.pointer t18_27) ∧ Calls Tryz.prog f.query_parser_take #[.pointer t18_27, .string ⟨#[103, 114, 111, 117, 112]⟩] w16 (fun e_29 w17 => (∃ t19_28 : Bool, e_29 = .returned (.bool t19_28) ∧ IFB t19_28 (∃ t20_30 : Option Addr, w17.cell? ⟨b_2, 0, none⟩ = some (.pointer t20_30) ∧ NEWB #[.string ⟨#[98, 121]⟩] 9 (fun b_31 w18 => Calls Tryz.prog f.query_parser_need #[.pointer t20_30, .slice (some ⟨b_31, 0, none⟩) 1 1] w18 (fun e_32 w19 => (e_32 = .returned (.tuple #[]) ∧ ∃ t23_33 : Option Addr, w19.cell? ⟨b_2, 0, none⟩ = some (.pointer t23_33) ∧ Calls Tryz.prog f.query_parser_list #[.pointer t23_33, .func (.func 161) #[] #[.pointer (some ⟨b_4, 0, none⟩), .pointer (some ⟨b_2, 0, none⟩)]] w19 (fun e_34 w20 => (e_34 = .returned (.tuple #[]) ∧ Y_38 [] w20) ∨ ∃ c_35, e_34 = .panicked c_35 ∧ kp c_35 w20)) ∨ ∃ c_36, e_32 = .panicked c_36 ∧ kp c_36 w19)) w17) (Y_38 [] w17)) ∨ ∃ c_37, e_29 = .panicked c_37 ∧ kp c_37 w17)) ∧ ∀ w21 : World, Y_38 [] w21 → ∃ Y_50 : List Value → World → Prop, (∃ t26_39 : Option Addr, w21.cell? ⟨b_2, 0, none⟩ = some (.pointer t26_39) ∧ Calls Tryz.prog f.query_parser_take #[.pointer t26_39, .string ⟨#[111, 114, 100, 101, 114]⟩] w21 (fun e_41 w22 => (∃ t27_40 : Bool, e_41 = .returned (.bool t27_40) ∧ IFB t27_40 (∃ t28_42 : Option Addr, w22.cell? ⟨b_2, 0, none⟩ = some (.pointer t28_42) ∧ NEWB #[.string ⟨#[98, 121]⟩] 9 (fun b_43 w23 => Calls Tryz.prog f.query_parser_need #[.pointer t28_42, .slice (some ⟨b_43, 0, none⟩) 1 1] w23 (fun e_44 w24 => (e_44 = .returned (.tuple #[]) ∧ ∃ t31_45 : Option Addr, w24.cell? ⟨b_2, 0, none⟩ = some (.pointer t31_45) ∧ Calls Tryz.prog f.query_parser_list #[.pointer t31_45, .func (.func 162) #[] #[.pointer (some ⟨b_4, 0, none⟩), .pointer (some ⟨b_2, 0, none⟩)]] w24 (fun e_46 w25 => (e_46 = .returned (.tuple #[]) ∧ Y_50 [] w25) ∨ ∃ c_47, e_46 = .panicked c_47 ∧ kp c_47 w25)) ∨ ∃ c_48, e_44 = .panicked c_48 ∧ kp c_48 w24)) w22) (Y_50 [] w22)) ∨ ∃ c_49, e_41 = .panicked c_49 ∧ kp c_49 w22)) ∧ ∀ w26 : World, Y_50 [] w26 → ∃ Y_59 : List Value → World → Prop, (∃ t34_51 : Option Addr, w26.cell? ⟨b_2, 0, none⟩ = some (.pointer t34_51) ∧ Calls Tryz.prog f.query_parser_take #[.pointer t34_51, .string ⟨#[108, 105, 109, 105, 116]⟩] w26 (fun e_53 w27 => (∃ t35_52 : Bool, e_53 = .returned (.bool t35_52) ∧ IFB t35_52 (∃ t36_54 : Option Addr, w27.cell? ⟨b_2, 0, none⟩ = some (.pointer t36_54) ∧ Calls Tryz.prog f.query_parser_limit #[.pointer t36_54] w27 (fun e_56 w28 => (∃ t37_55 : Int, e_56 = .returned (.int .i64 t37_55) ∧ STO ⟨b_4, 4, none⟩ (.int .i64 t37_55) (fun w29 => Y_59 [] w29) w28) ∨ ∃ c_57, e_56 = .panicked c_57 ∧ kp c_57 w28)) (Y_59 [] w27)) ∨ ∃ c_58, e_53 = .panicked c_58 ∧ kp c_58 w27)) ∧ ∀ w30 : World, Y_59 [] w30 → ∃ t39_60 : Option Addr, w30.cell? ⟨b_2, 0, none⟩ = some (.pointer t39_60) ∧ Calls Tryz.prog f.query_parser_next #[.pointer t39_60] w30 (fun e_64 w31 => (∃ t400_61 : Int, ∃ t401_62 : Int, ∃ t402_63 : ByteArray, e_64 = .returned (.agg #[.int .i64 t400_61, .int .i64 t401_62, .string t402_63]) ∧ NEWB #[.int .i64 0, .int .i64 0, .string ⟨#[]⟩] 103 (fun b_65 w32 => STO ⟨b_65, 0, none⟩ (.int .i64 t400_61) (fun w33 => STO ⟨b_65, 1, none⟩ (.int .i64 t401_62) (fun w34 => STO ⟨b_65, 2, none⟩ (.string t402_63) (fun w35 => ∃ t42_67 : Int, w35.cell? ⟨b_65, 1, none⟩ = some (.int .i64 t42_67) ∧ IFB (t42_67 != 0) (∃ t45_68 : Int, w35.cell? ⟨b_65, 0, none⟩ = some (.int .i64 t45_68) ∧ kp [{ v := .iface 142 (.agg #[.int .i64 t45_68]), recovered := false }] w35) (∃ (t480_69 : Option Addr) (t480_69l t480_69c : Nat), w35.cell? ⟨b_4, 0, none⟩ = some (.slice t480_69 t480_69l t480_69c) ∧ ∃ (t481_70 : Option Addr) (t481_70l t481_70c : Nat), w35.cell? ⟨b_4, 1, none⟩ = some (.slice t481_70 t481_70l t481_70c) ∧ ∃ (t482_71 : Option Addr) (t482_71l t482_71c : Nat), w35.cell? ⟨b_4, 2, none⟩ = some (.slice t482_71 t482_71l t482_71c) ∧ ∃ (t483_72 : Option Addr) (t483_72l t483_72c : Nat), w35.cell? ⟨b_4, 3, none⟩ = some (.slice t483_72 t483_72l t483_72c) ∧ ∃ t484_73 : Int, w35.cell? ⟨b_4, 4, none⟩ = some (.int .i64 t484_73) ∧ STO ⟨b_3, 0, none⟩ (.slice t480_69 t480_69l t480_69c) (fun w36 => STO ⟨b_3, 1, none⟩ (.slice t481_70 t481_70l t481_70c) (fun w37 => STO ⟨b_3, 2, none⟩ (.slice t482_71 t482_71l t482_71c) (fun w38 => STO ⟨b_3, 3, none⟩ (.slice t483_72 t483_72l t483_72c) (fun w39 => STO ⟨b_3, 4, none⟩ (.int .i64 t484_73) (fun w40 => ∃ (res00_74 : Option Addr) (res00_74l res00_74c : Nat), w40.cell? ⟨b_3, 0, none⟩ = some (.slice res00_74 res00_74l res00_74c) ∧ ∃ (res01_75 : Option Addr) (res01_75l res01_75c : Nat), w40.cell? ⟨b_3, 1, none⟩ = some (.slice res01_75 res01_75l res01_75c) ∧ ∃ (res02_76 : Option Addr) (res02_76l res02_76c : Nat), w40.cell? ⟨b_3, 2, none⟩ = some (.slice res02_76 res02_76l res02_76c) ∧ ∃ (res03_77 : Option Addr) (res03_77l res03_77c : Nat), w40.cell? ⟨b_3, 3, none⟩ = some (.slice res03_77 res03_77l res03_77c) ∧ ∃ res04_78 : Int, w40.cell? ⟨b_3, 4, none⟩ = some (.int .i64 res04_78) ∧ k (.agg #[.slice res00_74 res00_74l res00_74c, .slice res01_75 res01_75l res01_75c, .slice res02_76 res02_76l res02_76c, .slice res03_77 res03_77l res03_77c, .int .i64 res04_78]) w40) w39) w38) w37) w36) w35)) w34) w33) w32) w31) ∨ ∃ c_66, e_64 = .panicked c_66 ∧ kp c_66 w31)) ∨ ∃ c_11, e_10 = .panicked c_11 ∧ kp c_11 w11)) ∨ ∃ c_8, e_7 = .panicked c_8 ∧ kp c_8 w10)) w8) w7) w6) w5) w4) w3) w2) w1) w0
theorem query_parser_query_calls (p_1 : Option Addr) (k : Value → World → Prop) (kp : List PanicEntry → World → Prop) (w0 : World) (h : query_parser_query p_1 k kp w0) : Calls Tryz.prog f.query_parser_query #[.pointer p_1] w0 (fun e w => (∃ v, e = .returned v ∧ k v w) ∨ ∃ ch, e = .panicked ch ∧ kp ch w) :=
  dFunP_calls mixed (L := []) (C := [(6, ⟨[], [1, 2, 3]⟩), (9, ⟨[], [1, 2, 3]⟩), (12, ⟨[], [1, 2, 3]⟩), (14, ⟨[], [1, 2, 3]⟩), (1000000, ⟨[], []⟩)]) (Eq.mpr (by kernel_rfl) h)
def query_parser_need (p_1 : Option Addr) (l_2 : Option Addr) (l_2l l_2c : Nat) (k : Value → World → Prop) (kp : List PanicEntry → World → Prop) (w0 : World) : Prop :=
  ∃ (I_3 : List Value → World → Prop) (M_3 : List Value → World → Nat), I_3 [.int .i64 0] w0 ∧ ∀ (t8_4 : Int), ∀ w1 : World, I_3 [.int .i64 t8_4] w1 → IFB (decide (t8_4 < (l_2l : Int))) (((0 : Int) ≤ t8_4 ∧ t8_4 < (l_2l : Int)) ∧ PTR l_2 (fun a_5 => ∃ t11_6 : ByteArray, w1.cell? (a_5.add (((t8_4).toNat) * 1)) = some (.string t11_6) ∧ Calls Tryz.prog f.query_parser_take #[.pointer p_1, .string t11_6] w1 (fun e_8 w2 => (∃ t14_7 : Bool, e_8 = .returned (.bool t14_7) ∧ IFB (!t14_7) (Calls Tryz.prog f.query_parser_next #[.pointer p_1] w2 (fun e_12 w3 => (∃ t170_9 : Int, ∃ t171_10 : Int, ∃ t172_11 : ByteArray, e_12 = .returned (.agg #[.int .i64 t170_9, .int .i64 t171_10, .string t172_11]) ∧ kp [{ v := .iface 142 (.agg #[.int .i64 t170_9]), recovered := false }] w3) ∨ ∃ c_13, e_12 = .panicked c_13 ∧ kp c_13 w3)) (I_3 [.int .i64 (IntKind.i64.wrap (t8_4 + 1))] w2 ∧ M_3 [.int .i64 (IntKind.i64.wrap (t8_4 + 1))] w2 < M_3 [.int .i64 t8_4] w1)) ∨ ∃ c_14, e_8 = .panicked c_14 ∧ kp c_14 w2))) (k (.tuple #[]) w1)
theorem query_parser_need_calls (p_1 : Option Addr) (l_2 : Option Addr) (l_2l l_2c : Nat) (k : Value → World → Prop) (kp : List PanicEntry → World → Prop) (w0 : World) (h : query_parser_need p_1 l_2 l_2l l_2c k kp w0) : Calls Tryz.prog f.query_parser_need #[.pointer p_1, .slice l_2 l_2l l_2c] w0 (fun e w => (∃ v, e = .returned v ∧ k v w) ∨ ∃ ch, e = .panicked ch ∧ kp ch w) :=
  dFunP_calls mixed (L := [(1, ⟨[(8, .int .i64 0)], [0, 6, 7]⟩)]) (C := [(1000000, ⟨[], []⟩)]) (Eq.mpr (by kernel_rfl) h)
def query_parser_list (p_1 : Option Addr) (read_2 : FuncId) (read_2f read_2c : Array Value) (k : Value → World → Prop) (kp : List PanicEntry → World → Prop) (w0 : World) : Prop :=
  bif enters Tryz.prog read_2 then Calls Tryz.prog read_2 ⟨read_2f.toList ++ [] ++ read_2c.toList⟩ w0 (fun e_3 w1 => (e_3 = .returned (.tuple #[]) ∧ ∃ (I_4 : List Value → World → Prop) (M_4 : List Value → World → Nat), I_4 [] w1 ∧ ∀ w2 : World, I_4 [] w2 → Calls Tryz.prog f.query_parser_take #[.pointer p_1, .string ⟨#[44]⟩] w2 (fun e_6 w3 => (∃ t7_5 : Bool, e_6 = .returned (.bool t7_5) ∧ IFB t7_5 (bif enters Tryz.prog read_2 then Calls Tryz.prog read_2 ⟨read_2f.toList ++ [] ++ read_2c.toList⟩ w3 (fun e_7 w4 => (e_7 = .returned (.tuple #[]) ∧ I_4 [] w4 ∧ M_4 [] w4 < M_4 [] w2) ∨ ∃ c_8, e_7 = .panicked c_8 ∧ kp c_8 w4) else False) (k (.tuple #[]) w3)) ∨ ∃ c_9, e_6 = .panicked c_9 ∧ kp c_9 w3)) ∨ ∃ c_10, e_3 = .panicked c_10 ∧ kp c_10 w1) else False
theorem query_parser_list_calls (p_1 : Option Addr) (read_2 : FuncId) (read_2f read_2c : Array Value) (k : Value → World → Prop) (kp : List PanicEntry → World → Prop) (w0 : World) (h : query_parser_list p_1 read_2 read_2f read_2c k kp w0) : Calls Tryz.prog f.query_parser_list #[.pointer p_1, .func (.func read_2) read_2f read_2c] w0 (fun e w => (∃ v, e = .returned v ∧ k v w) ∨ ∃ ch, e = .panicked ch ∧ kp ch w) :=
  dFunP_calls mixed (L := [(1, ⟨[], [0, 1]⟩)]) (C := [(1000000, ⟨[], []⟩)]) (Eq.mpr (by kernel_rfl) h)
def query_parser_query_c1 (cap0_1 : Nat) (cap1_2 : Nat) (k : Value → World → Prop) (kp : List PanicEntry → World → Prop) (w0 : World) : Prop :=
  DRAW (fun w1 => ∃ (t3_3 : Option Addr) (t3_3l t3_3c : Nat), w1.cell? ⟨cap0_1, 0, none⟩ = some (.slice t3_3 t3_3l t3_3c) ∧ ∃ t4_4 : Option Addr, w1.cell? ⟨cap1_2, 0, none⟩ = some (.pointer t4_4) ∧ Calls Tryz.prog f.query_parser_item #[.pointer t4_4] w1 (fun e_13 w2 => (∃ t50_5 : ByteArray, ∃ t51_6 : Int, ∃ t52_7 : Int, ∃ t53_8 : ByteArray, ∃ t54_9 : Int, ∃ t55_10 : Int, ∃ t56_11 : ByteArray, ∃ (t57_12 : Option Addr) (t57_12l t57_12c : Nat), e_13 = .returned (.agg #[.string t50_5, .int .i64 t51_6, .int .i64 t52_7, .string t53_8, .int .i64 t54_9, .int .i64 t55_10, .string t56_11, .slice t57_12 t57_12l t57_12c]) ∧ w2.cell? ⟨cap0_1, 0, none⟩ = some (.slice t3_3 t3_3l t3_3c) ∧ NEWB #[.string t50_5, .int .i64 t51_6, .int .i64 t52_7, .string t53_8, .int .i64 t54_9, .int .i64 t55_10, .string t56_11, .slice t57_12 t57_12l t57_12c] 49 (fun b_14 w3 => w3.cell? ⟨cap0_1, 0, none⟩ = some (.slice t3_3 t3_3l t3_3c) ∧ OPR Tryz.prog (Builtin.append_ #[23, 23] 23 #[.slice t3_3 t3_3l t3_3c, .slice (some ⟨b_14, 0, none⟩) 1 1]) (fun r_16 w4 => ∃ (t7_15 : Option Addr) (t7_15l t7_15c : Nat), r_16 = .slice t7_15 t7_15l t7_15c ∧ STO ⟨cap0_1, 0, none⟩ (.slice t7_15 t7_15l t7_15c) (fun w5 => k (.tuple #[]) w5) w4) w3) w2) ∨ ∃ c_17, e_13 = .panicked c_17 ∧ kp c_17 w2)) w0
theorem query_parser_query_c1_calls (cap0_1 : Nat) (cap1_2 : Nat) (k : Value → World → Prop) (kp : List PanicEntry → World → Prop) (w0 : World) (h : query_parser_query_c1 cap0_1 cap1_2 k kp w0) : Calls Tryz.prog f.query_parser_query_c1 #[.pointer (some ⟨cap0_1, 0, none⟩), .pointer (some ⟨cap1_2, 0, none⟩)] w0 (fun e w => (∃ v, e = .returned v ∧ k v w) ∨ ∃ ch, e = .panicked ch ∧ kp ch w) :=
  dFunP_calls mixed (L := []) (C := [(1000000, ⟨[], []⟩)]) (Eq.mpr (by kernel_rfl) h)
def query_parser_item (p_1 : Option Addr) (k : Value → World → Prop) (kp : List PanicEntry → World → Prop) (w0 : World) : Prop :=
  NEWB #[.string ⟨#[]⟩, .int .i64 0, .int .i64 0, .string ⟨#[]⟩, .int .i64 0, .int .i64 0, .string ⟨#[]⟩, .slice none 0 0] 49 (fun b_2 w1 => NEWB #[.string ⟨#[]⟩, .int .i64 0, .int .i64 0, .string ⟨#[]⟩, .int .i64 0, .int .i64 0, .string ⟨#[]⟩, .slice none 0 0] 49 (fun b_3 w2 => STO ⟨b_3, 0, none⟩ (.string ⟨#[]⟩) (fun w3 => STO ⟨b_3, 1, none⟩ (.int .i64 0) (fun w4 => STO ⟨b_3, 2, none⟩ (.int .i64 0) (fun w5 => STO ⟨b_3, 3, none⟩ (.string ⟨#[]⟩) (fun w6 => STO ⟨b_3, 4, none⟩ (.int .i64 0) (fun w7 => STO ⟨b_3, 5, none⟩ (.int .i64 0) (fun w8 => STO ⟨b_3, 6, none⟩ (.string ⟨#[]⟩) (fun w9 => STO ⟨b_3, 7, none⟩ (.slice none 0 0) (fun w10 => ∃ Y_15 : List Value → World → Prop, (Calls Tryz.prog f.query_parser_next #[.pointer p_1] w10 (fun e_7 w11 => (∃ t80_4 : Int, ∃ t81_5 : Int, ∃ t82_6 : ByteArray, e_7 = .returned (.agg #[.int .i64 t80_4, .int .i64 t81_5, .string t82_6]) ∧ NEWB #[.int .i64 0, .int .i64 0, .string ⟨#[]⟩] 103 (fun b_8 w12 => STO ⟨b_8, 0, none⟩ (.int .i64 t80_4) (fun w13 => STO ⟨b_8, 1, none⟩ (.int .i64 t81_5) (fun w14 => STO ⟨b_8, 2, none⟩ (.string t82_6) (fun w15 => ∃ t10_9 : Int, w15.cell? ⟨b_8, 1, none⟩ = some (.int .i64 t10_9) ∧ IFB (t10_9 == 1) (∃ t13_10 : ByteArray, w15.cell? ⟨b_8, 2, none⟩ = some (.string t13_10) ∧ Calls Tryz.prog f.query_gathering #[.string t13_10] w15 (fun e_12 w16 => (∃ t14_11 : Int, e_12 = .returned (.int .i64 t14_11) ∧ Y_15 [.int .i64 t14_11] w16) ∨ ∃ c_13, e_12 = .panicked c_13 ∧ kp c_13 w16)) (Y_15 [.int .i64 0] w15)) w14) w13) w12) w11) ∨ ∃ c_14, e_7 = .panicked c_14 ∧ kp c_14 w11)) ∧ ∀ (agg_16 : Int), ∀ w17 : World, Y_15 [.int .i64 agg_16] w17 → ∃ Y_61 : List Value → World → Prop, (IFB (agg_16 == 0) (Calls Tryz.prog f.query_parser_expr #[.pointer p_1, .int .i64 1] w17 (fun e_23 w18 => (∃ t390_17 : Int, ∃ t391_18 : ByteArray, ∃ t392_19 : Int, ∃ t393_20 : Int, ∃ t394_21 : ByteArray, ∃ (t395_22 : Option Addr) (t395_22l t395_22c : Nat), e_23 = .returned (.agg #[.int .i64 t390_17, .string t391_18, .int .i64 t392_19, .int .i64 t393_20, .string t394_21, .slice t395_22 t395_22l t395_22c]) ∧ STO ⟨b_3, 2, none⟩ (.int .i64 t390_17) (fun w19 => STO ⟨b_3, 3, none⟩ (.string t391_18) (fun w20 => STO ⟨b_3, 4, none⟩ (.int .i64 t392_19) (fun w21 => STO ⟨b_3, 5, none⟩ (.int .i64 t393_20) (fun w22 => STO ⟨b_3, 6, none⟩ (.string t394_21) (fun w23 => STO ⟨b_3, 7, none⟩ (.slice t395_22 t395_22l t395_22c) (fun w24 => Y_61 [] w24) w23) w22) w21) w20) w19) w18) ∨ ∃ c_24, e_23 = .panicked c_24 ∧ kp c_24 w18)) (Calls Tryz.prog f.query_parser_skip #[.pointer p_1] w17 (fun e_28 w25 => (∃ t160_25 : Int, ∃ t161_26 : Int, ∃ t162_27 : ByteArray, e_28 = .returned (.agg #[.int .i64 t160_25, .int .i64 t161_26, .string t162_27]) ∧ NEWB #[.string ⟨#[40]⟩] 9 (fun b_30 w26 => Calls Tryz.prog f.query_parser_need #[.pointer p_1, .slice (some ⟨b_30, 0, none⟩) 1 1] w26 (fun e_31 w27 => (e_31 = .returned (.tuple #[]) ∧ STO ⟨b_3, 1, none⟩ (.int .i64 agg_16) (fun w28 => IFB (agg_16 == 2) (Calls Tryz.prog f.query_parser_take #[.pointer p_1, .string ⟨#[42]⟩] w28 (fun e_34 w29 => (∃ t26_33 : Bool, e_34 = .returned (.bool t26_33) ∧ IFB t26_33 (STO ⟨b_3, 1, none⟩ (.int .i64 1) (fun w30 => NEWB #[.string ⟨#[41]⟩] 9 (fun b_35 w31 => Calls Tryz.prog f.query_parser_need #[.pointer p_1, .slice (some ⟨b_35, 0, none⟩) 1 1] w31 (fun e_36 w32 => (e_36 = .returned (.tuple #[]) ∧ Y_61 [] w32) ∨ ∃ c_37, e_36 = .panicked c_37 ∧ kp c_37 w32)) w30) w29) (Calls Tryz.prog f.query_parser_expr #[.pointer p_1, .int .i64 1] w29 (fun e_44 w33 => (∃ t300_38 : Int, ∃ t301_39 : ByteArray, ∃ t302_40 : Int, ∃ t303_41 : Int, ∃ t304_42 : ByteArray, ∃ (t305_43 : Option Addr) (t305_43l t305_43c : Nat), e_44 = .returned (.agg #[.int .i64 t300_38, .string t301_39, .int .i64 t302_40, .int .i64 t303_41, .string t304_42, .slice t305_43 t305_43l t305_43c]) ∧ STO ⟨b_3, 2, none⟩ (.int .i64 t300_38) (fun w34 => STO ⟨b_3, 3, none⟩ (.string t301_39) (fun w35 => STO ⟨b_3, 4, none⟩ (.int .i64 t302_40) (fun w36 => STO ⟨b_3, 5, none⟩ (.int .i64 t303_41) (fun w37 => STO ⟨b_3, 6, none⟩ (.string t304_42) (fun w38 => STO ⟨b_3, 7, none⟩ (.slice t305_43 t305_43l t305_43c) (fun w39 => NEWB #[.string ⟨#[41]⟩] 9 (fun b_45 w40 => Calls Tryz.prog f.query_parser_need #[.pointer p_1, .slice (some ⟨b_45, 0, none⟩) 1 1] w40 (fun e_46 w41 => (e_46 = .returned (.tuple #[]) ∧ Y_61 [] w41) ∨ ∃ c_47, e_46 = .panicked c_47 ∧ kp c_47 w41)) w39) w38) w37) w36) w35) w34) w33) ∨ ∃ c_48, e_44 = .panicked c_48 ∧ kp c_48 w33))) ∨ ∃ c_49, e_34 = .panicked c_49 ∧ kp c_49 w29)) (Calls Tryz.prog f.query_parser_expr #[.pointer p_1, .int .i64 1] w28 (fun e_56 w42 => (∃ t300_50 : Int, ∃ t301_51 : ByteArray, ∃ t302_52 : Int, ∃ t303_53 : Int, ∃ t304_54 : ByteArray, ∃ (t305_55 : Option Addr) (t305_55l t305_55c : Nat), e_56 = .returned (.agg #[.int .i64 t300_50, .string t301_51, .int .i64 t302_52, .int .i64 t303_53, .string t304_54, .slice t305_55 t305_55l t305_55c]) ∧ STO ⟨b_3, 2, none⟩ (.int .i64 t300_50) (fun w43 => STO ⟨b_3, 3, none⟩ (.string t301_51) (fun w44 => STO ⟨b_3, 4, none⟩ (.int .i64 t302_52) (fun w45 => STO ⟨b_3, 5, none⟩ (.int .i64 t303_53) (fun w46 => STO ⟨b_3, 6, none⟩ (.string t304_54) (fun w47 => STO ⟨b_3, 7, none⟩ (.slice t305_55 t305_55l t305_55c) (fun w48 => NEWB #[.string ⟨#[41]⟩] 9 (fun b_57 w49 => Calls Tryz.prog f.query_parser_need #[.pointer p_1, .slice (some ⟨b_57, 0, none⟩) 1 1] w49 (fun e_58 w50 => (e_58 = .returned (.tuple #[]) ∧ Y_61 [] w50) ∨ ∃ c_59, e_58 = .panicked c_59 ∧ kp c_59 w50)) w48) w47) w46) w45) w44) w43) w42) ∨ ∃ c_60, e_56 = .panicked c_60 ∧ kp c_60 w42))) w27) ∨ ∃ c_32, e_31 = .panicked c_32 ∧ kp c_32 w27)) w25) ∨ ∃ c_29, e_28 = .panicked c_29 ∧ kp c_29 w25))) ∧ ∀ w51 : World, Y_61 [] w51 → NEWB #[.string ⟨#[97, 115]⟩] 9 (fun b_62 w52 => Calls Tryz.prog f.query_parser_need #[.pointer p_1, .slice (some ⟨b_62, 0, none⟩) 1 1] w52 (fun e_63 w53 => (e_63 = .returned (.tuple #[]) ∧ Calls Tryz.prog f.query_parser_name #[.pointer p_1] w53 (fun e_65 w54 => (∃ t45_64 : ByteArray, e_65 = .returned (.string t45_64) ∧ STO ⟨b_3, 0, none⟩ (.string t45_64) (fun w55 => ∃ t470_66 : ByteArray, w55.cell? ⟨b_3, 0, none⟩ = some (.string t470_66) ∧ ∃ t471_67 : Int, w55.cell? ⟨b_3, 1, none⟩ = some (.int .i64 t471_67) ∧ ∃ t472_68 : Int, w55.cell? ⟨b_3, 2, none⟩ = some (.int .i64 t472_68) ∧ ∃ t473_69 : ByteArray, w55.cell? ⟨b_3, 3, none⟩ = some (.string t473_69) ∧ ∃ t474_70 : Int, w55.cell? ⟨b_3, 4, none⟩ = some (.int .i64 t474_70) ∧ ∃ t475_71 : Int, w55.cell? ⟨b_3, 5, none⟩ = some (.int .i64 t475_71) ∧ ∃ t476_72 : ByteArray, w55.cell? ⟨b_3, 6, none⟩ = some (.string t476_72) ∧ ∃ (t477_73 : Option Addr) (t477_73l t477_73c : Nat), w55.cell? ⟨b_3, 7, none⟩ = some (.slice t477_73 t477_73l t477_73c) ∧ STO ⟨b_2, 0, none⟩ (.string t470_66) (fun w56 => STO ⟨b_2, 1, none⟩ (.int .i64 t471_67) (fun w57 => STO ⟨b_2, 2, none⟩ (.int .i64 t472_68) (fun w58 => STO ⟨b_2, 3, none⟩ (.string t473_69) (fun w59 => STO ⟨b_2, 4, none⟩ (.int .i64 t474_70) (fun w60 => STO ⟨b_2, 5, none⟩ (.int .i64 t475_71) (fun w61 => STO ⟨b_2, 6, none⟩ (.string t476_72) (fun w62 => STO ⟨b_2, 7, none⟩ (.slice t477_73 t477_73l t477_73c) (fun w63 => ∃ res00_74 : ByteArray, w63.cell? ⟨b_2, 0, none⟩ = some (.string res00_74) ∧ ∃ res01_75 : Int, w63.cell? ⟨b_2, 1, none⟩ = some (.int .i64 res01_75) ∧ ∃ res02_76 : Int, w63.cell? ⟨b_2, 2, none⟩ = some (.int .i64 res02_76) ∧ ∃ res03_77 : ByteArray, w63.cell? ⟨b_2, 3, none⟩ = some (.string res03_77) ∧ ∃ res04_78 : Int, w63.cell? ⟨b_2, 4, none⟩ = some (.int .i64 res04_78) ∧ ∃ res05_79 : Int, w63.cell? ⟨b_2, 5, none⟩ = some (.int .i64 res05_79) ∧ ∃ res06_80 : ByteArray, w63.cell? ⟨b_2, 6, none⟩ = some (.string res06_80) ∧ ∃ (res07_81 : Option Addr) (res07_81l res07_81c : Nat), w63.cell? ⟨b_2, 7, none⟩ = some (.slice res07_81 res07_81l res07_81c) ∧ k (.agg #[.string res00_74, .int .i64 res01_75, .int .i64 res02_76, .string res03_77, .int .i64 res04_78, .int .i64 res05_79, .string res06_80, .slice res07_81 res07_81l res07_81c]) w63) w62) w61) w60) w59) w58) w57) w56) w55) w54) ∨ ∃ c_82, e_65 = .panicked c_82 ∧ kp c_82 w54)) ∨ ∃ c_83, e_63 = .panicked c_83 ∧ kp c_83 w53)) w51) w9) w8) w7) w6) w5) w4) w3) w2) w1) w0
theorem query_parser_item_calls (p_1 : Option Addr) (k : Value → World → Prop) (kp : List PanicEntry → World → Prop) (w0 : World) (h : query_parser_item p_1 k kp w0) : Calls Tryz.prog f.query_parser_item #[.pointer p_1] w0 (fun e w => (∃ v, e = .returned v ∧ k v w) ∨ ∃ ch, e = .panicked ch ∧ kp ch w) :=
  dFunP_calls mixed (L := []) (C := [(13, ⟨[(4, .int .i64 0)], [0, 2, 3]⟩), (15, ⟨[], [0, 2, 3]⟩), (1000000, ⟨[], []⟩)]) (Eq.mpr (by kernel_rfl) h)
def query_parser_expr (p_1 : Option Addr) (level_2 : Int) (k : Value → World → Prop) (kp : List PanicEntry → World → Prop) (w0 : World) : Prop :=
  NEWB #[.int .i64 0, .string ⟨#[]⟩, .int .i64 0, .int .i64 0, .string ⟨#[]⟩, .slice none 0 0] 47 (fun b_3 w1 => Calls Tryz.prog f.query_parser_front #[.pointer p_1, .int .i64 level_2] w1 (fun e_11 w2 => (∃ t1200_4 : Int, ∃ t1201_5 : ByteArray, ∃ t1202_6 : Int, ∃ t1203_7 : Int, ∃ t1204_8 : ByteArray, ∃ (t1205_9 : Option Addr) (t1205_9l t1205_9c : Nat), ∃ t121_10 : Int, e_11 = .returned (.tuple #[.agg #[.int .i64 t1200_4, .string t1201_5, .int .i64 t1202_6, .int .i64 t1203_7, .string t1204_8, .slice t1205_9 t1205_9l t1205_9c], .int .i64 t121_10]) ∧ NEWB #[.int .i64 0, .string ⟨#[]⟩, .int .i64 0, .int .i64 0, .string ⟨#[]⟩, .slice none 0 0] 47 (fun b_12 w3 => STO ⟨b_12, 0, none⟩ (.int .i64 t1200_4) (fun w4 => STO ⟨b_12, 1, none⟩ (.string t1201_5) (fun w5 => STO ⟨b_12, 2, none⟩ (.int .i64 t1202_6) (fun w6 => STO ⟨b_12, 3, none⟩ (.int .i64 t1203_7) (fun w7 => STO ⟨b_12, 4, none⟩ (.string t1204_8) (fun w8 => STO ⟨b_12, 5, none⟩ (.slice t1205_9 t1205_9l t1205_9c) (fun w9 => ∃ (I_13 : List Value → World → Prop) (M_13 : List Value → World → Nat), I_13 [.int .i64 t121_10] w9 ∧ ∀ (own_14 : Int), ∀ w10 : World, I_13 [.int .i64 own_14] w10 → Calls Tryz.prog f.query_parser_is #[.pointer p_1, .string ⟨#[105, 115]⟩] w10 (fun e_16 w11 => (∃ t16_15 : Bool, e_16 = .returned (.bool t16_15) ∧ IFB t16_15 (IFB (decide (level_2 > 4)) (∃ t660_18 : Int, w11.cell? ⟨b_12, 0, none⟩ = some (.int .i64 t660_18) ∧ ∃ t661_19 : ByteArray, w11.cell? ⟨b_12, 1, none⟩ = some (.string t661_19) ∧ ∃ t662_20 : Int, w11.cell? ⟨b_12, 2, none⟩ = some (.int .i64 t662_20) ∧ ∃ t663_21 : Int, w11.cell? ⟨b_12, 3, none⟩ = some (.int .i64 t663_21) ∧ ∃ t664_22 : ByteArray, w11.cell? ⟨b_12, 4, none⟩ = some (.string t664_22) ∧ ∃ (t665_23 : Option Addr) (t665_23l t665_23c : Nat), w11.cell? ⟨b_12, 5, none⟩ = some (.slice t665_23 t665_23l t665_23c) ∧ STO ⟨b_3, 0, none⟩ (.int .i64 t660_18) (fun w12 => STO ⟨b_3, 1, none⟩ (.string t661_19) (fun w13 => STO ⟨b_3, 2, none⟩ (.int .i64 t662_20) (fun w14 => STO ⟨b_3, 3, none⟩ (.int .i64 t663_21) (fun w15 => STO ⟨b_3, 4, none⟩ (.string t664_22) (fun w16 => STO ⟨b_3, 5, none⟩ (.slice t665_23 t665_23l t665_23c) (fun w17 => ∃ res00_24 : Int, w17.cell? ⟨b_3, 0, none⟩ = some (.int .i64 res00_24) ∧ ∃ res01_25 : ByteArray, w17.cell? ⟨b_3, 1, none⟩ = some (.string res01_25) ∧ ∃ res02_26 : Int, w17.cell? ⟨b_3, 2, none⟩ = some (.int .i64 res02_26) ∧ ∃ res03_27 : Int, w17.cell? ⟨b_3, 3, none⟩ = some (.int .i64 res03_27) ∧ ∃ res04_28 : ByteArray, w17.cell? ⟨b_3, 4, none⟩ = some (.string res04_28) ∧ ∃ (res05_29 : Option Addr) (res05_29l res05_29c : Nat), w17.cell? ⟨b_3, 5, none⟩ = some (.slice res05_29 res05_29l res05_29c) ∧ k (.agg #[.int .i64 res00_24, .string res01_25, .int .i64 res02_26, .int .i64 res03_27, .string res04_28, .slice res05_29 res05_29l res05_29c]) w17) w16) w15) w14) w13) w12) w11) (IFB (decide (own_14 < 5)) (∃ t660_30 : Int, w11.cell? ⟨b_12, 0, none⟩ = some (.int .i64 t660_30) ∧ ∃ t661_31 : ByteArray, w11.cell? ⟨b_12, 1, none⟩ = some (.string t661_31) ∧ ∃ t662_32 : Int, w11.cell? ⟨b_12, 2, none⟩ = some (.int .i64 t662_32) ∧ ∃ t663_33 : Int, w11.cell? ⟨b_12, 3, none⟩ = some (.int .i64 t663_33) ∧ ∃ t664_34 : ByteArray, w11.cell? ⟨b_12, 4, none⟩ = some (.string t664_34) ∧ ∃ (t665_35 : Option Addr) (t665_35l t665_35c : Nat), w11.cell? ⟨b_12, 5, none⟩ = some (.slice t665_35 t665_35l t665_35c) ∧ STO ⟨b_3, 0, none⟩ (.int .i64 t660_30) (fun w18 => STO ⟨b_3, 1, none⟩ (.string t661_31) (fun w19 => STO ⟨b_3, 2, none⟩ (.int .i64 t662_32) (fun w20 => STO ⟨b_3, 3, none⟩ (.int .i64 t663_33) (fun w21 => STO ⟨b_3, 4, none⟩ (.string t664_34) (fun w22 => STO ⟨b_3, 5, none⟩ (.slice t665_35 t665_35l t665_35c) (fun w23 => ∃ res00_36 : Int, w23.cell? ⟨b_3, 0, none⟩ = some (.int .i64 res00_36) ∧ ∃ res01_37 : ByteArray, w23.cell? ⟨b_3, 1, none⟩ = some (.string res01_37) ∧ ∃ res02_38 : Int, w23.cell? ⟨b_3, 2, none⟩ = some (.int .i64 res02_38) ∧ ∃ res03_39 : Int, w23.cell? ⟨b_3, 3, none⟩ = some (.int .i64 res03_39) ∧ ∃ res04_40 : ByteArray, w23.cell? ⟨b_3, 4, none⟩ = some (.string res04_40) ∧ ∃ (res05_41 : Option Addr) (res05_41l res05_41c : Nat), w23.cell? ⟨b_3, 5, none⟩ = some (.slice res05_41 res05_41l res05_41c) ∧ k (.agg #[.int .i64 res00_36, .string res01_37, .int .i64 res02_38, .int .i64 res03_39, .string res04_40, .slice res05_41 res05_41l res05_41c]) w23) w22) w21) w20) w19) w18) w11) (NEWB #[.string ⟨#[105, 115]⟩, .string ⟨#[110, 117, 108, 108]⟩] 9 (fun b_42 w24 => Calls Tryz.prog f.query_parser_need #[.pointer p_1, .slice (some ⟨b_42, 0, none⟩) 2 2] w24 (fun e_43 w25 => (e_43 = .returned (.tuple #[]) ∧ ∃ t260_44 : Int, w25.cell? ⟨b_12, 0, none⟩ = some (.int .i64 t260_44) ∧ ∃ t261_45 : ByteArray, w25.cell? ⟨b_12, 1, none⟩ = some (.string t261_45) ∧ ∃ t262_46 : Int, w25.cell? ⟨b_12, 2, none⟩ = some (.int .i64 t262_46) ∧ ∃ t263_47 : Int, w25.cell? ⟨b_12, 3, none⟩ = some (.int .i64 t263_47) ∧ ∃ t264_48 : ByteArray, w25.cell? ⟨b_12, 4, none⟩ = some (.string t264_48) ∧ ∃ (t265_49 : Option Addr) (t265_49l t265_49c : Nat), w25.cell? ⟨b_12, 5, none⟩ = some (.slice t265_49 t265_49l t265_49c) ∧ NEWB #[.int .i64 t260_44, .string t261_45, .int .i64 t262_46, .int .i64 t263_47, .string t264_48, .slice t265_49 t265_49l t265_49c] 47 (fun b_50 w26 => STO ⟨b_12, 0, none⟩ (.int .i64 15) (fun w27 => STO ⟨b_12, 1, none⟩ (.string ⟨#[]⟩) (fun w28 => STO ⟨b_12, 2, none⟩ (.int .i64 0) (fun w29 => STO ⟨b_12, 3, none⟩ (.int .i64 0) (fun w30 => STO ⟨b_12, 4, none⟩ (.string ⟨#[]⟩) (fun w31 => STO ⟨b_12, 5, none⟩ (.slice (some ⟨b_50, 0, none⟩) 1 1) (fun w32 => I_13 [.int .i64 4] w32 ∧ M_13 [.int .i64 4] w32 < M_13 [.int .i64 own_14] w10) w31) w30) w29) w28) w27) w26) w25) ∨ ∃ c_51, e_43 = .panicked c_51 ∧ kp c_51 w25)) w11))) (Calls Tryz.prog f.query_parser_next #[.pointer p_1] w11 (fun e_55 w33 => (∃ t310_52 : Int, ∃ t311_53 : Int, ∃ t312_54 : ByteArray, e_55 = .returned (.agg #[.int .i64 t310_52, .int .i64 t311_53, .string t312_54]) ∧ Calls Tryz.prog f.query_power #[.agg #[.int .i64 t310_52, .int .i64 t311_53, .string t312_54]] w33 (fun e_58 w34 => (∃ t320_56 : Int, ∃ t321_57 : Int, e_58 = .returned (.tuple #[.int .i64 t320_56, .int .i64 t321_57]) ∧ ∃ Y_109 : List Value → World → Prop, (IFB (decide (t320_56 < level_2)) (∃ t660_61 : Int, w34.cell? ⟨b_12, 0, none⟩ = some (.int .i64 t660_61) ∧ ∃ t661_62 : ByteArray, w34.cell? ⟨b_12, 1, none⟩ = some (.string t661_62) ∧ ∃ t662_63 : Int, w34.cell? ⟨b_12, 2, none⟩ = some (.int .i64 t662_63) ∧ ∃ t663_64 : Int, w34.cell? ⟨b_12, 3, none⟩ = some (.int .i64 t663_64) ∧ ∃ t664_65 : ByteArray, w34.cell? ⟨b_12, 4, none⟩ = some (.string t664_65) ∧ ∃ (t665_66 : Option Addr) (t665_66l t665_66c : Nat), w34.cell? ⟨b_12, 5, none⟩ = some (.slice t665_66 t665_66l t665_66c) ∧ STO ⟨b_3, 0, none⟩ (.int .i64 t660_61) (fun w35 => STO ⟨b_3, 1, none⟩ (.string t661_62) (fun w36 => STO ⟨b_3, 2, none⟩ (.int .i64 t662_63) (fun w37 => STO ⟨b_3, 3, none⟩ (.int .i64 t663_64) (fun w38 => STO ⟨b_3, 4, none⟩ (.string t664_65) (fun w39 => STO ⟨b_3, 5, none⟩ (.slice t665_66 t665_66l t665_66c) (fun w40 => ∃ res00_67 : Int, w40.cell? ⟨b_3, 0, none⟩ = some (.int .i64 res00_67) ∧ ∃ res01_68 : ByteArray, w40.cell? ⟨b_3, 1, none⟩ = some (.string res01_68) ∧ ∃ res02_69 : Int, w40.cell? ⟨b_3, 2, none⟩ = some (.int .i64 res02_69) ∧ ∃ res03_70 : Int, w40.cell? ⟨b_3, 3, none⟩ = some (.int .i64 res03_70) ∧ ∃ res04_71 : ByteArray, w40.cell? ⟨b_3, 4, none⟩ = some (.string res04_71) ∧ ∃ (res05_72 : Option Addr) (res05_72l res05_72c : Nat), w40.cell? ⟨b_3, 5, none⟩ = some (.slice res05_72 res05_72l res05_72c) ∧ k (.agg #[.int .i64 res00_67, .string res01_68, .int .i64 res02_69, .int .i64 res03_70, .string res04_71, .slice res05_72 res05_72l res05_72c]) w40) w39) w38) w37) w36) w35) w34) (IFB (t320_56 == 0) (∃ t660_73 : Int, w34.cell? ⟨b_12, 0, none⟩ = some (.int .i64 t660_73) ∧ ∃ t661_74 : ByteArray, w34.cell? ⟨b_12, 1, none⟩ = some (.string t661_74) ∧ ∃ t662_75 : Int, w34.cell? ⟨b_12, 2, none⟩ = some (.int .i64 t662_75) ∧ ∃ t663_76 : Int, w34.cell? ⟨b_12, 3, none⟩ = some (.int .i64 t663_76) ∧ ∃ t664_77 : ByteArray, w34.cell? ⟨b_12, 4, none⟩ = some (.string t664_77) ∧ ∃ (t665_78 : Option Addr) (t665_78l t665_78c : Nat), w34.cell? ⟨b_12, 5, none⟩ = some (.slice t665_78 t665_78l t665_78c) ∧ STO ⟨b_3, 0, none⟩ (.int .i64 t660_73) (fun w41 => STO ⟨b_3, 1, none⟩ (.string t661_74) (fun w42 => STO ⟨b_3, 2, none⟩ (.int .i64 t662_75) (fun w43 => STO ⟨b_3, 3, none⟩ (.int .i64 t663_76) (fun w44 => STO ⟨b_3, 4, none⟩ (.string t664_77) (fun w45 => STO ⟨b_3, 5, none⟩ (.slice t665_78 t665_78l t665_78c) (fun w46 => ∃ res00_79 : Int, w46.cell? ⟨b_3, 0, none⟩ = some (.int .i64 res00_79) ∧ ∃ res01_80 : ByteArray, w46.cell? ⟨b_3, 1, none⟩ = some (.string res01_80) ∧ ∃ res02_81 : Int, w46.cell? ⟨b_3, 2, none⟩ = some (.int .i64 res02_81) ∧ ∃ res03_82 : Int, w46.cell? ⟨b_3, 3, none⟩ = some (.int .i64 res03_82) ∧ ∃ res04_83 : ByteArray, w46.cell? ⟨b_3, 4, none⟩ = some (.string res04_83) ∧ ∃ (res05_84 : Option Addr) (res05_84l res05_84c : Nat), w46.cell? ⟨b_3, 5, none⟩ = some (.slice res05_84 res05_84l res05_84c) ∧ k (.agg #[.int .i64 res00_79, .string res01_80, .int .i64 res02_81, .int .i64 res03_82, .string res04_83, .slice res05_84 res05_84l res05_84c]) w46) w45) w44) w43) w42) w41) w34) (IFB (decide (own_14 < t320_56)) (∃ t660_85 : Int, w34.cell? ⟨b_12, 0, none⟩ = some (.int .i64 t660_85) ∧ ∃ t661_86 : ByteArray, w34.cell? ⟨b_12, 1, none⟩ = some (.string t661_86) ∧ ∃ t662_87 : Int, w34.cell? ⟨b_12, 2, none⟩ = some (.int .i64 t662_87) ∧ ∃ t663_88 : Int, w34.cell? ⟨b_12, 3, none⟩ = some (.int .i64 t663_88) ∧ ∃ t664_89 : ByteArray, w34.cell? ⟨b_12, 4, none⟩ = some (.string t664_89) ∧ ∃ (t665_90 : Option Addr) (t665_90l t665_90c : Nat), w34.cell? ⟨b_12, 5, none⟩ = some (.slice t665_90 t665_90l t665_90c) ∧ STO ⟨b_3, 0, none⟩ (.int .i64 t660_85) (fun w47 => STO ⟨b_3, 1, none⟩ (.string t661_86) (fun w48 => STO ⟨b_3, 2, none⟩ (.int .i64 t662_87) (fun w49 => STO ⟨b_3, 3, none⟩ (.int .i64 t663_88) (fun w50 => STO ⟨b_3, 4, none⟩ (.string t664_89) (fun w51 => STO ⟨b_3, 5, none⟩ (.slice t665_90 t665_90l t665_90c) (fun w52 => ∃ res00_91 : Int, w52.cell? ⟨b_3, 0, none⟩ = some (.int .i64 res00_91) ∧ ∃ res01_92 : ByteArray, w52.cell? ⟨b_3, 1, none⟩ = some (.string res01_92) ∧ ∃ res02_93 : Int, w52.cell? ⟨b_3, 2, none⟩ = some (.int .i64 res02_93) ∧ ∃ res03_94 : Int, w52.cell? ⟨b_3, 3, none⟩ = some (.int .i64 res03_94) ∧ ∃ res04_95 : ByteArray, w52.cell? ⟨b_3, 4, none⟩ = some (.string res04_95) ∧ ∃ (res05_96 : Option Addr) (res05_96l res05_96c : Nat), w52.cell? ⟨b_3, 5, none⟩ = some (.slice res05_96 res05_96l res05_96c) ∧ k (.agg #[.int .i64 res00_91, .string res01_92, .int .i64 res02_93, .int .i64 res03_94, .string res04_95, .slice res05_96 res05_96l res05_96c]) w52) w51) w50) w49) w48) w47) w34) (IFB (t320_56 == 5) (IFB (own_14 == 5) (∃ t660_97 : Int, w34.cell? ⟨b_12, 0, none⟩ = some (.int .i64 t660_97) ∧ ∃ t661_98 : ByteArray, w34.cell? ⟨b_12, 1, none⟩ = some (.string t661_98) ∧ ∃ t662_99 : Int, w34.cell? ⟨b_12, 2, none⟩ = some (.int .i64 t662_99) ∧ ∃ t663_100 : Int, w34.cell? ⟨b_12, 3, none⟩ = some (.int .i64 t663_100) ∧ ∃ t664_101 : ByteArray, w34.cell? ⟨b_12, 4, none⟩ = some (.string t664_101) ∧ ∃ (t665_102 : Option Addr) (t665_102l t665_102c : Nat), w34.cell? ⟨b_12, 5, none⟩ = some (.slice t665_102 t665_102l t665_102c) ∧ STO ⟨b_3, 0, none⟩ (.int .i64 t660_97) (fun w53 => STO ⟨b_3, 1, none⟩ (.string t661_98) (fun w54 => STO ⟨b_3, 2, none⟩ (.int .i64 t662_99) (fun w55 => STO ⟨b_3, 3, none⟩ (.int .i64 t663_100) (fun w56 => STO ⟨b_3, 4, none⟩ (.string t664_101) (fun w57 => STO ⟨b_3, 5, none⟩ (.slice t665_102 t665_102l t665_102c) (fun w58 => ∃ res00_103 : Int, w58.cell? ⟨b_3, 0, none⟩ = some (.int .i64 res00_103) ∧ ∃ res01_104 : ByteArray, w58.cell? ⟨b_3, 1, none⟩ = some (.string res01_104) ∧ ∃ res02_105 : Int, w58.cell? ⟨b_3, 2, none⟩ = some (.int .i64 res02_105) ∧ ∃ res03_106 : Int, w58.cell? ⟨b_3, 3, none⟩ = some (.int .i64 res03_106) ∧ ∃ res04_107 : ByteArray, w58.cell? ⟨b_3, 4, none⟩ = some (.string res04_107) ∧ ∃ (res05_108 : Option Addr) (res05_108l res05_108c : Nat), w58.cell? ⟨b_3, 5, none⟩ = some (.slice res05_108 res05_108l res05_108c) ∧ k (.agg #[.int .i64 res00_103, .string res01_104, .int .i64 res02_105, .int .i64 res03_106, .string res04_107, .slice res05_108 res05_108l res05_108c]) w58) w57) w56) w55) w54) w53) w34) (Y_109 [] w34)) (Y_109 [] w34))))) ∧ ∀ w59 : World, Y_109 [] w59 → Calls Tryz.prog f.query_parser_skip #[.pointer p_1] w59 (fun e_113 w60 => (∃ t560_110 : Int, ∃ t561_111 : Int, ∃ t562_112 : ByteArray, e_113 = .returned (.agg #[.int .i64 t560_110, .int .i64 t561_111, .string t562_112]) ∧ DRAW (fun w61 => ∃ t580_115 : Int, w61.cell? ⟨b_12, 0, none⟩ = some (.int .i64 t580_115) ∧ ∃ t581_116 : ByteArray, w61.cell? ⟨b_12, 1, none⟩ = some (.string t581_116) ∧ ∃ t582_117 : Int, w61.cell? ⟨b_12, 2, none⟩ = some (.int .i64 t582_117) ∧ ∃ t583_118 : Int, w61.cell? ⟨b_12, 3, none⟩ = some (.int .i64 t583_118) ∧ ∃ t584_119 : ByteArray, w61.cell? ⟨b_12, 4, none⟩ = some (.string t584_119) ∧ ∃ (t585_120 : Option Addr) (t585_120l t585_120c : Nat), w61.cell? ⟨b_12, 5, none⟩ = some (.slice t585_120 t585_120l t585_120c) ∧ Calls Tryz.prog f.query_parser_expr #[.pointer p_1, .int .i64 (IntKind.i64.wrap (t320_56 + 1))] w61 (fun e_127 w62 => (∃ t620_121 : Int, ∃ t621_122 : ByteArray, ∃ t622_123 : Int, ∃ t623_124 : Int, ∃ t624_125 : ByteArray, ∃ (t625_126 : Option Addr) (t625_126l t625_126c : Nat), e_127 = .returned (.agg #[.int .i64 t620_121, .string t621_122, .int .i64 t622_123, .int .i64 t623_124, .string t624_125, .slice t625_126 t625_126l t625_126c]) ∧ (w62.cell? ⟨b_12, 0, none⟩ = some (.int .i64 t580_115) ∧ w62.cell? ⟨b_12, 1, none⟩ = some (.string t581_116) ∧ w62.cell? ⟨b_12, 2, none⟩ = some (.int .i64 t582_117) ∧ w62.cell? ⟨b_12, 3, none⟩ = some (.int .i64 t583_118) ∧ w62.cell? ⟨b_12, 4, none⟩ = some (.string t584_119) ∧ w62.cell? ⟨b_12, 5, none⟩ = some (.slice t585_120 t585_120l t585_120c)) ∧ NEWB #[.int .i64 t580_115, .string t581_116, .int .i64 t582_117, .int .i64 t583_118, .string t584_119, .slice t585_120 t585_120l t585_120c, .int .i64 t620_121, .string t621_122, .int .i64 t622_123, .int .i64 t623_124, .string t624_125, .slice t625_126 t625_126l t625_126c] 47 (fun b_128 w63 => STO ⟨b_12, 0, none⟩ (.int .i64 t321_57) (fun w64 => STO ⟨b_12, 1, none⟩ (.string ⟨#[]⟩) (fun w65 => STO ⟨b_12, 2, none⟩ (.int .i64 0) (fun w66 => STO ⟨b_12, 3, none⟩ (.int .i64 0) (fun w67 => STO ⟨b_12, 4, none⟩ (.string ⟨#[]⟩) (fun w68 => STO ⟨b_12, 5, none⟩ (.slice (some ⟨b_128, 0, none⟩) 2 2) (fun w69 => I_13 [.int .i64 t320_56] w69 ∧ M_13 [.int .i64 t320_56] w69 < M_13 [.int .i64 own_14] w10) w68) w67) w66) w65) w64) w63) w62) ∨ ∃ c_129, e_127 = .panicked c_129 ∧ kp c_129 w62)) w60) ∨ ∃ c_114, e_113 = .panicked c_114 ∧ kp c_114 w60)) ∨ ∃ c_59, e_58 = .panicked c_59 ∧ kp c_59 w34)) ∨ ∃ c_60, e_55 = .panicked c_60 ∧ kp c_60 w33))) ∨ ∃ c_17, e_16 = .panicked c_17 ∧ kp c_17 w11)) w8) w7) w6) w5) w4) w3) w2) ∨ ∃ c_130, e_11 = .panicked c_130 ∧ kp c_130 w2)) w0
theorem query_parser_expr_calls (p_1 : Option Addr) (level_2 : Int) (k : Value → World → Prop) (kp : List PanicEntry → World → Prop) (w0 : World) (h : query_parser_expr p_1 level_2 k kp w0) : Calls Tryz.prog f.query_parser_expr #[.pointer p_1, .int .i64 level_2] w0 (fun e w => (∃ v, e = .returned v ∧ k v w) ∨ ∃ ch, e = .panicked ch ∧ kp ch w) :=
  dFunP_calls mixed (L := [(2, ⟨[(6, .int .i64 0)], [0, 1, 4, 5]⟩)]) (C := [(8, ⟨[], [0, 1, 4, 5, 7, 8]⟩), (1000000, ⟨[], []⟩)]) (Eq.mpr (by kernel_rfl) h)
def query_parser_query_c2 (cap0_1 : Nat) (cap1_2 : Nat) (k : Value → World → Prop) (kp : List PanicEntry → World → Prop) (w0 : World) : Prop :=
  DRAW (fun w1 => ∃ (t3_3 : Option Addr) (t3_3l t3_3c : Nat), w1.cell? ⟨cap0_1, 2, none⟩ = some (.slice t3_3 t3_3l t3_3c) ∧ ∃ t4_4 : Option Addr, w1.cell? ⟨cap1_2, 0, none⟩ = some (.pointer t4_4) ∧ (Calls Tryz.prog f.query_parser_expr #[.pointer t4_4, .int .i64 1] w1 (fun e_11 w2 => (∃ t50_5 : Int, ∃ t51_6 : ByteArray, ∃ t52_7 : Int, ∃ t53_8 : Int, ∃ t54_9 : ByteArray, ∃ (t55_10 : Option Addr) (t55_10l t55_10c : Nat), e_11 = .returned (.agg #[.int .i64 t50_5, .string t51_6, .int .i64 t52_7, .int .i64 t53_8, .string t54_9, .slice t55_10 t55_10l t55_10c]) ∧ w2.cell? ⟨cap0_1, 2, none⟩ = some (.slice t3_3 t3_3l t3_3c) ∧ NEWB #[.int .i64 0, .string ⟨#[]⟩, .int .i64 0, .int .i64 0, .string ⟨#[]⟩, .slice none 0 0] 47 (fun b_12 w3 => w3.cell? ⟨cap0_1, 2, none⟩ = some (.slice t3_3 t3_3l t3_3c) ∧ OPR Tryz.prog (Builtin.append_ #[24, 24] 24 #[.slice t3_3 t3_3l t3_3c, .slice (some ⟨b_12, 0, none⟩) 1 1]) (fun r_14 w4 => ∃ (t8_13 : Option Addr) (t8_13l t8_13c : Nat), r_14 = .slice t8_13 t8_13l t8_13c ∧ ((0 : Int) ≤ (t3_3l : Int) ∧ (t3_3l : Int) < (t8_13l : Int)) ∧ PTR t8_13 (fun a_15 => (STO (a_15.add (t3_3l * 6)) (.int .i64 t50_5) (fun w5 => STO ((a_15.add (t3_3l * 6)).add 1) (.string t51_6) (fun w6 => STO ((a_15.add (t3_3l * 6)).add 2) (.int .i64 t52_7) (fun w7 => STO ((a_15.add (t3_3l * 6)).add 3) (.int .i64 t53_8) (fun w8 => STO ((a_15.add (t3_3l * 6)).add 4) (.string t54_9) (fun w9 => STO ((a_15.add (t3_3l * 6)).add 5) (.slice t55_10 t55_10l t55_10c) (fun w10 => STO ⟨cap0_1, 2, none⟩ (.slice t8_13 t8_13l t8_13c) (fun w11 => k (.tuple #[]) w11) w10) w9) w8) w7) w6) w5) w4) ∧ (STO ⟨cap0_1, 2, none⟩ (.slice t8_13 t8_13l t8_13c) (fun w12 => STO (a_15.add (t3_3l * 6)) (.int .i64 t50_5) (fun w13 => STO ((a_15.add (t3_3l * 6)).add 1) (.string t51_6) (fun w14 => STO ((a_15.add (t3_3l * 6)).add 2) (.int .i64 t52_7) (fun w15 => STO ((a_15.add (t3_3l * 6)).add 3) (.int .i64 t53_8) (fun w16 => STO ((a_15.add (t3_3l * 6)).add 4) (.string t54_9) (fun w17 => STO ((a_15.add (t3_3l * 6)).add 5) (.slice t55_10 t55_10l t55_10c) (fun w18 => k (.tuple #[]) w18) w17) w16) w15) w14) w13) w12) w4))) w3) w2) ∨ ∃ c_16, e_11 = .panicked c_16 ∧ kp c_16 w2)) ∧ (NEWB #[.int .i64 0, .string ⟨#[]⟩, .int .i64 0, .int .i64 0, .string ⟨#[]⟩, .slice none 0 0] 47 (fun b_17 w19 => w19.cell? ⟨cap1_2, 0, none⟩ = some (.pointer t4_4) ∧ w19.cell? ⟨cap0_1, 2, none⟩ = some (.slice t3_3 t3_3l t3_3c) ∧ Calls Tryz.prog f.query_parser_expr #[.pointer t4_4, .int .i64 1] w19 (fun e_24 w20 => (∃ t50_18 : Int, ∃ t51_19 : ByteArray, ∃ t52_20 : Int, ∃ t53_21 : Int, ∃ t54_22 : ByteArray, ∃ (t55_23 : Option Addr) (t55_23l t55_23c : Nat), e_24 = .returned (.agg #[.int .i64 t50_18, .string t51_19, .int .i64 t52_20, .int .i64 t53_21, .string t54_22, .slice t55_23 t55_23l t55_23c]) ∧ w20.cell? ⟨cap0_1, 2, none⟩ = some (.slice t3_3 t3_3l t3_3c) ∧ OPR Tryz.prog (Builtin.append_ #[24, 24] 24 #[.slice t3_3 t3_3l t3_3c, .slice (some ⟨b_17, 0, none⟩) 1 1]) (fun r_26 w21 => ∃ (t8_25 : Option Addr) (t8_25l t8_25c : Nat), r_26 = .slice t8_25 t8_25l t8_25c ∧ ((0 : Int) ≤ (t3_3l : Int) ∧ (t3_3l : Int) < (t8_25l : Int)) ∧ PTR t8_25 (fun a_27 => (STO (a_27.add (t3_3l * 6)) (.int .i64 t50_18) (fun w22 => STO ((a_27.add (t3_3l * 6)).add 1) (.string t51_19) (fun w23 => STO ((a_27.add (t3_3l * 6)).add 2) (.int .i64 t52_20) (fun w24 => STO ((a_27.add (t3_3l * 6)).add 3) (.int .i64 t53_21) (fun w25 => STO ((a_27.add (t3_3l * 6)).add 4) (.string t54_22) (fun w26 => STO ((a_27.add (t3_3l * 6)).add 5) (.slice t55_23 t55_23l t55_23c) (fun w27 => STO ⟨cap0_1, 2, none⟩ (.slice t8_25 t8_25l t8_25c) (fun w28 => k (.tuple #[]) w28) w27) w26) w25) w24) w23) w22) w21) ∧ (STO ⟨cap0_1, 2, none⟩ (.slice t8_25 t8_25l t8_25c) (fun w29 => STO (a_27.add (t3_3l * 6)) (.int .i64 t50_18) (fun w30 => STO ((a_27.add (t3_3l * 6)).add 1) (.string t51_19) (fun w31 => STO ((a_27.add (t3_3l * 6)).add 2) (.int .i64 t52_20) (fun w32 => STO ((a_27.add (t3_3l * 6)).add 3) (.int .i64 t53_21) (fun w33 => STO ((a_27.add (t3_3l * 6)).add 4) (.string t54_22) (fun w34 => STO ((a_27.add (t3_3l * 6)).add 5) (.slice t55_23 t55_23l t55_23c) (fun w35 => k (.tuple #[]) w35) w34) w33) w32) w31) w30) w29) w21))) w20) ∨ ∃ c_28, e_24 = .panicked c_28 ∧ kp c_28 w20)) w1)) w0
theorem query_parser_query_c2_calls (cap0_1 : Nat) (cap1_2 : Nat) (k : Value → World → Prop) (kp : List PanicEntry → World → Prop) (w0 : World) (h : query_parser_query_c2 cap0_1 cap1_2 k kp w0) : Calls Tryz.prog f.query_parser_query_c2 #[.pointer (some ⟨cap0_1, 0, none⟩), .pointer (some ⟨cap1_2, 0, none⟩)] w0 (fun e w => (∃ v, e = .returned v ∧ k v w) ∨ ∃ ch, e = .panicked ch ∧ kp ch w) :=
  dFunP_calls mixed (L := []) (C := [(1000000, ⟨[], []⟩)]) (Eq.mpr (by kernel_rfl) h)
def query_parser_query_c3 (cap0_1 : Nat) (cap1_2 : Nat) (k : Value → World → Prop) (kp : List PanicEntry → World → Prop) (w0 : World) : Prop :=
  ∃ Y_23 : List Value → World → Prop, (DRAW (fun w1 => ∃ (t4_3 : Option Addr) (t4_3l t4_3c : Nat), w1.cell? ⟨cap0_1, 0, none⟩ = some (.slice t4_3 t4_3l t4_3c) ∧ ∃ t5_4 : Option Addr, w1.cell? ⟨cap1_2, 0, none⟩ = some (.pointer t5_4) ∧ (Calls Tryz.prog f.query_parser_name #[.pointer t5_4] w1 (fun e_6 w2 => (∃ t6_5 : ByteArray, e_6 = .returned (.string t6_5) ∧ w2.cell? ⟨cap0_1, 0, none⟩ = some (.slice t4_3 t4_3l t4_3c) ∧ (Calls Tryz.prog f.query_place #[.slice t4_3 t4_3l t4_3c, .string t6_5] w2 (fun e_8 w3 => (∃ t7_7 : Int, e_8 = .returned (.int .i64 t7_7) ∧ NEWB #[.int .i64 0, .bool false] 90 (fun b_9 w4 => STO ⟨b_9, 0, none⟩ (.int .i64 t7_7) (fun w5 => STO ⟨b_9, 1, none⟩ (.bool false) (fun w6 => Y_23 [.pointer (some ⟨b_9, 0, none⟩)] w6) w5) w4) w3) ∨ ∃ c_10, e_8 = .panicked c_10 ∧ kp c_10 w3)) ∧ (NEWB #[.int .i64 0, .bool false] 90 (fun b_11 w7 => w7.cell? ⟨cap0_1, 0, none⟩ = some (.slice t4_3 t4_3l t4_3c) ∧ Calls Tryz.prog f.query_place #[.slice t4_3 t4_3l t4_3c, .string t6_5] w7 (fun e_13 w8 => (∃ t7_12 : Int, e_13 = .returned (.int .i64 t7_12) ∧ STO ⟨b_11, 0, none⟩ (.int .i64 t7_12) (fun w9 => STO ⟨b_11, 1, none⟩ (.bool false) (fun w10 => Y_23 [.pointer (some ⟨b_11, 0, none⟩)] w10) w9) w8) ∨ ∃ c_14, e_13 = .panicked c_14 ∧ kp c_14 w8)) w2)) ∨ ∃ c_15, e_6 = .panicked c_15 ∧ kp c_15 w2)) ∧ (NEWB #[.int .i64 0, .bool false] 90 (fun b_16 w11 => w11.cell? ⟨cap1_2, 0, none⟩ = some (.pointer t5_4) ∧ w11.cell? ⟨cap0_1, 0, none⟩ = some (.slice t4_3 t4_3l t4_3c) ∧ Calls Tryz.prog f.query_parser_name #[.pointer t5_4] w11 (fun e_18 w12 => (∃ t6_17 : ByteArray, e_18 = .returned (.string t6_17) ∧ w12.cell? ⟨cap0_1, 0, none⟩ = some (.slice t4_3 t4_3l t4_3c) ∧ Calls Tryz.prog f.query_place #[.slice t4_3 t4_3l t4_3c, .string t6_17] w12 (fun e_20 w13 => (∃ t7_19 : Int, e_20 = .returned (.int .i64 t7_19) ∧ STO ⟨b_16, 0, none⟩ (.int .i64 t7_19) (fun w14 => STO ⟨b_16, 1, none⟩ (.bool false) (fun w15 => Y_23 [.pointer (some ⟨b_16, 0, none⟩)] w15) w14) w13) ∨ ∃ c_21, e_20 = .panicked c_21 ∧ kp c_21 w13)) ∨ ∃ c_22, e_18 = .panicked c_22 ∧ kp c_22 w12)) w1)) w0) ∧ ∀ (k_24 : Option Addr), ∀ w16 : World, Y_23 [.pointer k_24] w16 → ∃ t9_25 : Option Addr, w16.cell? ⟨cap1_2, 0, none⟩ = some (.pointer t9_25) ∧ Calls Tryz.prog f.query_parser_take #[.pointer t9_25, .string ⟨#[100, 101, 115, 99]⟩] w16 (fun e_27 w17 => (∃ t10_26 : Bool, e_27 = .returned (.bool t10_26) ∧ PTR k_24 (fun a_28 => STO (a_28.add 1) (.bool t10_26) (fun w18 => ∃ (t13_29 : Option Addr) (t13_29l t13_29c : Nat), w18.cell? ⟨cap0_1, 3, none⟩ = some (.slice t13_29 t13_29l t13_29c) ∧ PTR k_24 (fun a_30 => ∃ t140_31 : Int, w18.cell? a_30 = some (.int .i64 t140_31) ∧ ∃ t141_32 : Bool, w18.cell? (a_30.add 1) = some (.bool t141_32) ∧ NEWB #[.int .i64 t140_31, .bool t141_32] 90 (fun b_33 w19 => OPR Tryz.prog (Builtin.append_ #[25, 25] 25 #[.slice t13_29 t13_29l t13_29c, .slice (some ⟨b_33, 0, none⟩) 1 1]) (fun r_35 w20 => ∃ (t16_34 : Option Addr) (t16_34l t16_34c : Nat), r_35 = .slice t16_34 t16_34l t16_34c ∧ STO ⟨cap0_1, 3, none⟩ (.slice t16_34 t16_34l t16_34c) (fun w21 => k (.tuple #[]) w21) w20) w19) w18)) w17)) ∨ ∃ c_36, e_27 = .panicked c_36 ∧ kp c_36 w17)
theorem query_parser_query_c3_calls (cap0_1 : Nat) (cap1_2 : Nat) (k : Value → World → Prop) (kp : List PanicEntry → World → Prop) (w0 : World) (h : query_parser_query_c3 cap0_1 cap1_2 k kp w0) : Calls Tryz.prog f.query_parser_query_c3 #[.pointer (some ⟨cap0_1, 0, none⟩), .pointer (some ⟨cap1_2, 0, none⟩)] w0 (fun e w => (∃ v, e = .returned v ∧ k v w) ∨ ∃ ch, e = .panicked ch ∧ kp ch w) :=
  dFunP_calls mixed (L := []) (C := [(1, ⟨[(2, .pointer none)], [0, 1]⟩), (1000000, ⟨[], []⟩)]) (Eq.mpr (by kernel_rfl) h)
def query_parser_name (p_1 : Option Addr) (k : Value → World → Prop) (kp : List PanicEntry → World → Prop) (w0 : World) : Prop :=
  Calls Tryz.prog f.query_parser_next #[.pointer p_1] w0 (fun e_5 w1 => (∃ t50_2 : Int, ∃ t51_3 : Int, ∃ t52_4 : ByteArray, e_5 = .returned (.agg #[.int .i64 t50_2, .int .i64 t51_3, .string t52_4]) ∧ NEWB #[.int .i64 0, .int .i64 0, .string ⟨#[]⟩] 103 (fun b_6 w2 => STO ⟨b_6, 0, none⟩ (.int .i64 t50_2) (fun w3 => STO ⟨b_6, 1, none⟩ (.int .i64 t51_3) (fun w4 => STO ⟨b_6, 2, none⟩ (.string t52_4) (fun w5 => ∃ t7_8 : Int, w5.cell? ⟨b_6, 1, none⟩ = some (.int .i64 t7_8) ∧ IFB (t7_8 != 1) (∃ t15_9 : Int, w5.cell? ⟨b_6, 0, none⟩ = some (.int .i64 t15_9) ∧ kp [{ v := .iface 142 (.agg #[.int .i64 t15_9]), recovered := false }] w5) (∃ t11_10 : ByteArray, w5.cell? ⟨b_6, 2, none⟩ = some (.string t11_10) ∧ Calls Tryz.prog f.query_isKey #[.string t11_10] w5 (fun e_12 w6 => (∃ t12_11 : Bool, e_12 = .returned (.bool t12_11) ∧ IFB t12_11 (∃ t15_13 : Int, w6.cell? ⟨b_6, 0, none⟩ = some (.int .i64 t15_13) ∧ kp [{ v := .iface 142 (.agg #[.int .i64 t15_13]), recovered := false }] w6) (Calls Tryz.prog f.query_parser_skip #[.pointer p_1] w6 (fun e_17 w7 => (∃ t190_14 : Int, ∃ t191_15 : Int, ∃ t192_16 : ByteArray, e_17 = .returned (.agg #[.int .i64 t190_14, .int .i64 t191_15, .string t192_16]) ∧ k (.string t192_16) w7) ∨ ∃ c_18, e_17 = .panicked c_18 ∧ kp c_18 w7))) ∨ ∃ c_19, e_12 = .panicked c_19 ∧ kp c_19 w6))) w4) w3) w2) w1) ∨ ∃ c_7, e_5 = .panicked c_7 ∧ kp c_7 w1)
theorem query_parser_name_calls (p_1 : Option Addr) (k : Value → World → Prop) (kp : List PanicEntry → World → Prop) (w0 : World) (h : query_parser_name p_1 k kp w0) : Calls Tryz.prog f.query_parser_name #[.pointer p_1] w0 (fun e w => (∃ v, e = .returned v ∧ k v w) ∨ ∃ ch, e = .panicked ch ∧ kp ch w) :=
  dFunP_calls mixed (L := []) (C := [(1000000, ⟨[], []⟩)]) (Eq.mpr (by kernel_rfl) h)
def query_parser_limit (p_1 : Option Addr) (k : Value → World → Prop) (kp : List PanicEntry → World → Prop) (w0 : World) : Prop :=
  Calls Tryz.prog f.query_parser_next #[.pointer p_1] w0 (fun e_5 w1 => (∃ t70_2 : Int, ∃ t71_3 : Int, ∃ t72_4 : ByteArray, e_5 = .returned (.agg #[.int .i64 t70_2, .int .i64 t71_3, .string t72_4]) ∧ NEWB #[.int .i64 0, .int .i64 0, .string ⟨#[]⟩] 103 (fun b_6 w2 => STO ⟨b_6, 0, none⟩ (.int .i64 t70_2) (fun w3 => STO ⟨b_6, 1, none⟩ (.int .i64 t71_3) (fun w4 => STO ⟨b_6, 2, none⟩ (.string t72_4) (fun w5 => ∃ t9_8 : Int, w5.cell? ⟨b_6, 1, none⟩ = some (.int .i64 t9_8) ∧ IFB (t9_8 != 2) (∃ t12_9 : Int, w5.cell? ⟨b_6, 0, none⟩ = some (.int .i64 t12_9) ∧ kp [{ v := .iface 142 (.agg #[.int .i64 t12_9]), recovered := false }] w5) (Calls Tryz.prog f.query_parser_skip #[.pointer p_1] w5 (fun e_13 w6 => (∃ t170_10 : Int, ∃ t171_11 : Int, ∃ t172_12 : ByteArray, e_13 = .returned (.agg #[.int .i64 t170_10, .int .i64 t171_11, .string t172_12]) ∧ Calls Tryz.prog f.query_plain #[.string t172_12] w6 (fun e_15 w7 => (∃ t19_14 : ByteArray, e_15 = .returned (.string t19_14) ∧ Calls Tryz.prog f.strconv_Atoi #[.string t19_14] w7 (fun e_18 w8 => (∃ t200_16 : Int, ∃ t201_17 : Value, e_18 = .returned (.tuple #[.int .i64 t200_16, t201_17]) ∧ IFACEV t201_17 (fun nil_19 => IFB (!nil_19) (k (.int .i64 (-2)) w8) (k (.int .i64 t200_16) w8))) ∨ ∃ c_20, e_18 = .panicked c_20 ∧ kp c_20 w8)) ∨ ∃ c_21, e_15 = .panicked c_21 ∧ kp c_21 w7)) ∨ ∃ c_22, e_13 = .panicked c_22 ∧ kp c_22 w6))) w4) w3) w2) w1) ∨ ∃ c_7, e_5 = .panicked c_7 ∧ kp c_7 w1)
theorem query_parser_limit_calls (p_1 : Option Addr) (k : Value → World → Prop) (kp : List PanicEntry → World → Prop) (w0 : World) (h : query_parser_limit p_1 k kp w0) : Calls Tryz.prog f.query_parser_limit #[.pointer p_1] w0 (fun e w => (∃ v, e = .returned v ∧ k v w) ∨ ∃ ch, e = .panicked ch ∧ kp ch w) :=
  dFunP_calls mixed (L := []) (C := [(1000000, ⟨[], []⟩)]) (Eq.mpr (by kernel_rfl) h)
def query_parser_front (p_1 : Option Addr) (level_2 : Int) (k : Value → World → Prop) (kp : List PanicEntry → World → Prop) (w0 : World) : Prop :=
  NEWB #[.int .i64 0, .string ⟨#[]⟩, .int .i64 0, .int .i64 0, .string ⟨#[]⟩, .slice none 0 0] 47 (fun b_3 w1 => IFB (decide (level_2 ≤ 3)) (Calls Tryz.prog f.query_parser_take #[.pointer p_1, .string ⟨#[110, 111, 116]⟩] w1 (fun e_5 w2 => (∃ t10_4 : Bool, e_5 = .returned (.bool t10_4) ∧ IFB t10_4 (Calls Tryz.prog f.query_parser_expr #[.pointer p_1, .int .i64 3] w2 (fun e_12 w3 => (∃ t130_6 : Int, ∃ t131_7 : ByteArray, ∃ t132_8 : Int, ∃ t133_9 : Int, ∃ t134_10 : ByteArray, ∃ (t135_11 : Option Addr) (t135_11l t135_11c : Nat), e_12 = .returned (.agg #[.int .i64 t130_6, .string t131_7, .int .i64 t132_8, .int .i64 t133_9, .string t134_10, .slice t135_11 t135_11l t135_11c]) ∧ NEWB #[.int .i64 t130_6, .string t131_7, .int .i64 t132_8, .int .i64 t133_9, .string t134_10, .slice t135_11 t135_11l t135_11c] 47 (fun b_13 w4 => STO ⟨b_3, 0, none⟩ (.int .i64 14) (fun w5 => STO ⟨b_3, 1, none⟩ (.string ⟨#[]⟩) (fun w6 => STO ⟨b_3, 2, none⟩ (.int .i64 0) (fun w7 => STO ⟨b_3, 3, none⟩ (.int .i64 0) (fun w8 => STO ⟨b_3, 4, none⟩ (.string ⟨#[]⟩) (fun w9 => STO ⟨b_3, 5, none⟩ (.slice (some ⟨b_13, 0, none⟩) 1 1) (fun w10 => ∃ res00_14 : Int, w10.cell? ⟨b_3, 0, none⟩ = some (.int .i64 res00_14) ∧ ∃ res01_15 : ByteArray, w10.cell? ⟨b_3, 1, none⟩ = some (.string res01_15) ∧ ∃ res02_16 : Int, w10.cell? ⟨b_3, 2, none⟩ = some (.int .i64 res02_16) ∧ ∃ res03_17 : Int, w10.cell? ⟨b_3, 3, none⟩ = some (.int .i64 res03_17) ∧ ∃ res04_18 : ByteArray, w10.cell? ⟨b_3, 4, none⟩ = some (.string res04_18) ∧ ∃ (res05_19 : Option Addr) (res05_19l res05_19c : Nat), w10.cell? ⟨b_3, 5, none⟩ = some (.slice res05_19 res05_19l res05_19c) ∧ k (.tuple #[.agg #[.int .i64 res00_14, .string res01_15, .int .i64 res02_16, .int .i64 res03_17, .string res04_18, .slice res05_19 res05_19l res05_19c], .int .i64 3]) w10) w9) w8) w7) w6) w5) w4) w3) ∨ ∃ c_20, e_12 = .panicked c_20 ∧ kp c_20 w3)) (Calls Tryz.prog f.query_parser_minus #[.pointer p_1] w2 (fun e_27 w11 => (∃ t170_21 : Int, ∃ t171_22 : ByteArray, ∃ t172_23 : Int, ∃ t173_24 : Int, ∃ t174_25 : ByteArray, ∃ (t175_26 : Option Addr) (t175_26l t175_26c : Nat), e_27 = .returned (.agg #[.int .i64 t170_21, .string t171_22, .int .i64 t172_23, .int .i64 t173_24, .string t174_25, .slice t175_26 t175_26l t175_26c]) ∧ STO ⟨b_3, 0, none⟩ (.int .i64 t170_21) (fun w12 => STO ⟨b_3, 1, none⟩ (.string t171_22) (fun w13 => STO ⟨b_3, 2, none⟩ (.int .i64 t172_23) (fun w14 => STO ⟨b_3, 3, none⟩ (.int .i64 t173_24) (fun w15 => STO ⟨b_3, 4, none⟩ (.string t174_25) (fun w16 => STO ⟨b_3, 5, none⟩ (.slice t175_26 t175_26l t175_26c) (fun w17 => ∃ res00_28 : Int, w17.cell? ⟨b_3, 0, none⟩ = some (.int .i64 res00_28) ∧ ∃ res01_29 : ByteArray, w17.cell? ⟨b_3, 1, none⟩ = some (.string res01_29) ∧ ∃ res02_30 : Int, w17.cell? ⟨b_3, 2, none⟩ = some (.int .i64 res02_30) ∧ ∃ res03_31 : Int, w17.cell? ⟨b_3, 3, none⟩ = some (.int .i64 res03_31) ∧ ∃ res04_32 : ByteArray, w17.cell? ⟨b_3, 4, none⟩ = some (.string res04_32) ∧ ∃ (res05_33 : Option Addr) (res05_33l res05_33c : Nat), w17.cell? ⟨b_3, 5, none⟩ = some (.slice res05_33 res05_33l res05_33c) ∧ k (.tuple #[.agg #[.int .i64 res00_28, .string res01_29, .int .i64 res02_30, .int .i64 res03_31, .string res04_32, .slice res05_33 res05_33l res05_33c], .int .i64 9]) w17) w16) w15) w14) w13) w12) w11) ∨ ∃ c_34, e_27 = .panicked c_34 ∧ kp c_34 w11))) ∨ ∃ c_35, e_5 = .panicked c_35 ∧ kp c_35 w2)) (Calls Tryz.prog f.query_parser_minus #[.pointer p_1] w1 (fun e_42 w18 => (∃ t170_36 : Int, ∃ t171_37 : ByteArray, ∃ t172_38 : Int, ∃ t173_39 : Int, ∃ t174_40 : ByteArray, ∃ (t175_41 : Option Addr) (t175_41l t175_41c : Nat), e_42 = .returned (.agg #[.int .i64 t170_36, .string t171_37, .int .i64 t172_38, .int .i64 t173_39, .string t174_40, .slice t175_41 t175_41l t175_41c]) ∧ STO ⟨b_3, 0, none⟩ (.int .i64 t170_36) (fun w19 => STO ⟨b_3, 1, none⟩ (.string t171_37) (fun w20 => STO ⟨b_3, 2, none⟩ (.int .i64 t172_38) (fun w21 => STO ⟨b_3, 3, none⟩ (.int .i64 t173_39) (fun w22 => STO ⟨b_3, 4, none⟩ (.string t174_40) (fun w23 => STO ⟨b_3, 5, none⟩ (.slice t175_41 t175_41l t175_41c) (fun w24 => ∃ res00_43 : Int, w24.cell? ⟨b_3, 0, none⟩ = some (.int .i64 res00_43) ∧ ∃ res01_44 : ByteArray, w24.cell? ⟨b_3, 1, none⟩ = some (.string res01_44) ∧ ∃ res02_45 : Int, w24.cell? ⟨b_3, 2, none⟩ = some (.int .i64 res02_45) ∧ ∃ res03_46 : Int, w24.cell? ⟨b_3, 3, none⟩ = some (.int .i64 res03_46) ∧ ∃ res04_47 : ByteArray, w24.cell? ⟨b_3, 4, none⟩ = some (.string res04_47) ∧ ∃ (res05_48 : Option Addr) (res05_48l res05_48c : Nat), w24.cell? ⟨b_3, 5, none⟩ = some (.slice res05_48 res05_48l res05_48c) ∧ k (.tuple #[.agg #[.int .i64 res00_43, .string res01_44, .int .i64 res02_45, .int .i64 res03_46, .string res04_47, .slice res05_48 res05_48l res05_48c], .int .i64 9]) w24) w23) w22) w21) w20) w19) w18) ∨ ∃ c_49, e_42 = .panicked c_49 ∧ kp c_49 w18))) w0
theorem query_parser_front_calls (p_1 : Option Addr) (level_2 : Int) (k : Value → World → Prop) (kp : List PanicEntry → World → Prop) (w0 : World) (h : query_parser_front p_1 level_2 k kp w0) : Calls Tryz.prog f.query_parser_front #[.pointer p_1, .int .i64 level_2] w0 (fun e w => (∃ v, e = .returned v ∧ k v w) ∨ ∃ ch, e = .panicked ch ∧ kp ch w) :=
  dFunP_calls mixed (L := []) (C := [(1000000, ⟨[], []⟩)]) (Eq.mpr (by kernel_rfl) h)
def query_parser_minus (p_1 : Option Addr) (k : Value → World → Prop) (kp : List PanicEntry → World → Prop) (w0 : World) : Prop :=
  NEWB #[.int .i64 0, .string ⟨#[]⟩, .int .i64 0, .int .i64 0, .string ⟨#[]⟩, .slice none 0 0] 47 (fun b_2 w1 => Calls Tryz.prog f.query_parser_take #[.pointer p_1, .string ⟨#[45]⟩] w1 (fun e_4 w2 => (∃ t6_3 : Bool, e_4 = .returned (.bool t6_3) ∧ IFB (!t6_3) (Calls Tryz.prog f.query_parser_atom #[.pointer p_1] w2 (fun e_12 w3 => (∃ t90_6 : Int, ∃ t91_7 : ByteArray, ∃ t92_8 : Int, ∃ t93_9 : Int, ∃ t94_10 : ByteArray, ∃ (t95_11 : Option Addr) (t95_11l t95_11c : Nat), e_12 = .returned (.agg #[.int .i64 t90_6, .string t91_7, .int .i64 t92_8, .int .i64 t93_9, .string t94_10, .slice t95_11 t95_11l t95_11c]) ∧ STO ⟨b_2, 0, none⟩ (.int .i64 t90_6) (fun w4 => STO ⟨b_2, 1, none⟩ (.string t91_7) (fun w5 => STO ⟨b_2, 2, none⟩ (.int .i64 t92_8) (fun w6 => STO ⟨b_2, 3, none⟩ (.int .i64 t93_9) (fun w7 => STO ⟨b_2, 4, none⟩ (.string t94_10) (fun w8 => STO ⟨b_2, 5, none⟩ (.slice t95_11 t95_11l t95_11c) (fun w9 => ∃ res00_13 : Int, w9.cell? ⟨b_2, 0, none⟩ = some (.int .i64 res00_13) ∧ ∃ res01_14 : ByteArray, w9.cell? ⟨b_2, 1, none⟩ = some (.string res01_14) ∧ ∃ res02_15 : Int, w9.cell? ⟨b_2, 2, none⟩ = some (.int .i64 res02_15) ∧ ∃ res03_16 : Int, w9.cell? ⟨b_2, 3, none⟩ = some (.int .i64 res03_16) ∧ ∃ res04_17 : ByteArray, w9.cell? ⟨b_2, 4, none⟩ = some (.string res04_17) ∧ ∃ (res05_18 : Option Addr) (res05_18l res05_18c : Nat), w9.cell? ⟨b_2, 5, none⟩ = some (.slice res05_18 res05_18l res05_18c) ∧ k (.agg #[.int .i64 res00_13, .string res01_14, .int .i64 res02_15, .int .i64 res03_16, .string res04_17, .slice res05_18 res05_18l res05_18c]) w9) w8) w7) w6) w5) w4) w3) ∨ ∃ c_19, e_12 = .panicked c_19 ∧ kp c_19 w3)) (Calls Tryz.prog f.query_parser_next #[.pointer p_1] w2 (fun e_23 w10 => (∃ t120_20 : Int, ∃ t121_21 : Int, ∃ t122_22 : ByteArray, e_23 = .returned (.agg #[.int .i64 t120_20, .int .i64 t121_21, .string t122_22]) ∧ IFB (t121_21 == 2) (Calls Tryz.prog f.query_parser_skip #[.pointer p_1] w10 (fun e_28 w11 => (∃ t160_25 : Int, ∃ t161_26 : Int, ∃ t162_27 : ByteArray, e_28 = .returned (.agg #[.int .i64 t160_25, .int .i64 t161_26, .string t162_27]) ∧ Calls Tryz.prog f.query_plain #[.string t162_27] w11 (fun e_30 w12 => (∃ t18_29 : ByteArray, e_30 = .returned (.string t18_29) ∧ IFB (!bytesEq t18_29 ⟨#[48]⟩) ((ByteArray.size ⟨#[45]⟩) + t18_29.size ≤ 9223372036854775807 ∧ Calls Tryz.prog f.query_constant #[.string (⟨#[45]⟩ ++ t18_29)] w12 (fun e_37 w13 => (∃ t230_31 : Int, ∃ t231_32 : ByteArray, ∃ t232_33 : Int, ∃ t233_34 : Int, ∃ t234_35 : ByteArray, ∃ (t235_36 : Option Addr) (t235_36l t235_36c : Nat), e_37 = .returned (.agg #[.int .i64 t230_31, .string t231_32, .int .i64 t232_33, .int .i64 t233_34, .string t234_35, .slice t235_36 t235_36l t235_36c]) ∧ STO ⟨b_2, 0, none⟩ (.int .i64 t230_31) (fun w14 => STO ⟨b_2, 1, none⟩ (.string t231_32) (fun w15 => STO ⟨b_2, 2, none⟩ (.int .i64 t232_33) (fun w16 => STO ⟨b_2, 3, none⟩ (.int .i64 t233_34) (fun w17 => STO ⟨b_2, 4, none⟩ (.string t234_35) (fun w18 => STO ⟨b_2, 5, none⟩ (.slice t235_36 t235_36l t235_36c) (fun w19 => ∃ res00_38 : Int, w19.cell? ⟨b_2, 0, none⟩ = some (.int .i64 res00_38) ∧ ∃ res01_39 : ByteArray, w19.cell? ⟨b_2, 1, none⟩ = some (.string res01_39) ∧ ∃ res02_40 : Int, w19.cell? ⟨b_2, 2, none⟩ = some (.int .i64 res02_40) ∧ ∃ res03_41 : Int, w19.cell? ⟨b_2, 3, none⟩ = some (.int .i64 res03_41) ∧ ∃ res04_42 : ByteArray, w19.cell? ⟨b_2, 4, none⟩ = some (.string res04_42) ∧ ∃ (res05_43 : Option Addr) (res05_43l res05_43c : Nat), w19.cell? ⟨b_2, 5, none⟩ = some (.slice res05_43 res05_43l res05_43c) ∧ k (.agg #[.int .i64 res00_38, .string res01_39, .int .i64 res02_40, .int .i64 res03_41, .string res04_42, .slice res05_43 res05_43l res05_43c]) w19) w18) w17) w16) w15) w14) w13) ∨ ∃ c_44, e_37 = .panicked c_44 ∧ kp c_44 w13)) (Calls Tryz.prog f.query_constant #[.string ⟨#[48]⟩] w12 (fun e_51 w20 => (∃ t240_45 : Int, ∃ t241_46 : ByteArray, ∃ t242_47 : Int, ∃ t243_48 : Int, ∃ t244_49 : ByteArray, ∃ (t245_50 : Option Addr) (t245_50l t245_50c : Nat), e_51 = .returned (.agg #[.int .i64 t240_45, .string t241_46, .int .i64 t242_47, .int .i64 t243_48, .string t244_49, .slice t245_50 t245_50l t245_50c]) ∧ STO ⟨b_2, 0, none⟩ (.int .i64 t240_45) (fun w21 => STO ⟨b_2, 1, none⟩ (.string t241_46) (fun w22 => STO ⟨b_2, 2, none⟩ (.int .i64 t242_47) (fun w23 => STO ⟨b_2, 3, none⟩ (.int .i64 t243_48) (fun w24 => STO ⟨b_2, 4, none⟩ (.string t244_49) (fun w25 => STO ⟨b_2, 5, none⟩ (.slice t245_50 t245_50l t245_50c) (fun w26 => ∃ res00_52 : Int, w26.cell? ⟨b_2, 0, none⟩ = some (.int .i64 res00_52) ∧ ∃ res01_53 : ByteArray, w26.cell? ⟨b_2, 1, none⟩ = some (.string res01_53) ∧ ∃ res02_54 : Int, w26.cell? ⟨b_2, 2, none⟩ = some (.int .i64 res02_54) ∧ ∃ res03_55 : Int, w26.cell? ⟨b_2, 3, none⟩ = some (.int .i64 res03_55) ∧ ∃ res04_56 : ByteArray, w26.cell? ⟨b_2, 4, none⟩ = some (.string res04_56) ∧ ∃ (res05_57 : Option Addr) (res05_57l res05_57c : Nat), w26.cell? ⟨b_2, 5, none⟩ = some (.slice res05_57 res05_57l res05_57c) ∧ k (.agg #[.int .i64 res00_52, .string res01_53, .int .i64 res02_54, .int .i64 res03_55, .string res04_56, .slice res05_57 res05_57l res05_57c]) w26) w25) w24) w23) w22) w21) w20) ∨ ∃ c_58, e_51 = .panicked c_58 ∧ kp c_58 w20))) ∨ ∃ c_59, e_30 = .panicked c_59 ∧ kp c_59 w12)) ∨ ∃ c_60, e_28 = .panicked c_60 ∧ kp c_60 w11)) (Calls Tryz.prog f.query_parser_minus #[.pointer p_1] w10 (fun e_67 w27 => (∃ t260_61 : Int, ∃ t261_62 : ByteArray, ∃ t262_63 : Int, ∃ t263_64 : Int, ∃ t264_65 : ByteArray, ∃ (t265_66 : Option Addr) (t265_66l t265_66c : Nat), e_67 = .returned (.agg #[.int .i64 t260_61, .string t261_62, .int .i64 t262_63, .int .i64 t263_64, .string t264_65, .slice t265_66 t265_66l t265_66c]) ∧ NEWB #[.int .i64 t260_61, .string t261_62, .int .i64 t262_63, .int .i64 t263_64, .string t264_65, .slice t265_66 t265_66l t265_66c] 47 (fun b_68 w28 => STO ⟨b_2, 0, none⟩ (.int .i64 8) (fun w29 => STO ⟨b_2, 1, none⟩ (.string ⟨#[]⟩) (fun w30 => STO ⟨b_2, 2, none⟩ (.int .i64 0) (fun w31 => STO ⟨b_2, 3, none⟩ (.int .i64 0) (fun w32 => STO ⟨b_2, 4, none⟩ (.string ⟨#[]⟩) (fun w33 => STO ⟨b_2, 5, none⟩ (.slice (some ⟨b_68, 0, none⟩) 1 1) (fun w34 => ∃ res00_69 : Int, w34.cell? ⟨b_2, 0, none⟩ = some (.int .i64 res00_69) ∧ ∃ res01_70 : ByteArray, w34.cell? ⟨b_2, 1, none⟩ = some (.string res01_70) ∧ ∃ res02_71 : Int, w34.cell? ⟨b_2, 2, none⟩ = some (.int .i64 res02_71) ∧ ∃ res03_72 : Int, w34.cell? ⟨b_2, 3, none⟩ = some (.int .i64 res03_72) ∧ ∃ res04_73 : ByteArray, w34.cell? ⟨b_2, 4, none⟩ = some (.string res04_73) ∧ ∃ (res05_74 : Option Addr) (res05_74l res05_74c : Nat), w34.cell? ⟨b_2, 5, none⟩ = some (.slice res05_74 res05_74l res05_74c) ∧ k (.agg #[.int .i64 res00_69, .string res01_70, .int .i64 res02_71, .int .i64 res03_72, .string res04_73, .slice res05_74 res05_74l res05_74c]) w34) w33) w32) w31) w30) w29) w28) w27) ∨ ∃ c_75, e_67 = .panicked c_75 ∧ kp c_75 w27))) ∨ ∃ c_24, e_23 = .panicked c_24 ∧ kp c_24 w10))) ∨ ∃ c_5, e_4 = .panicked c_5 ∧ kp c_5 w2)) w0
theorem query_parser_minus_calls (p_1 : Option Addr) (k : Value → World → Prop) (kp : List PanicEntry → World → Prop) (w0 : World) (h : query_parser_minus p_1 k kp w0) : Calls Tryz.prog f.query_parser_minus #[.pointer p_1] w0 (fun e w => (∃ v, e = .returned v ∧ k v w) ∨ ∃ ch, e = .panicked ch ∧ kp ch w) :=
  dFunP_calls mixed (L := []) (C := [(1000000, ⟨[], []⟩)]) (Eq.mpr (by kernel_rfl) h)
def query_parser_atom (p_1 : Option Addr) (k : Value → World → Prop) (kp : List PanicEntry → World → Prop) (w0 : World) : Prop :=
  NEWB #[.int .i64 0, .string ⟨#[]⟩, .int .i64 0, .int .i64 0, .string ⟨#[]⟩, .slice none 0 0] 47 (fun b_2 w1 => Calls Tryz.prog f.query_parser_next #[.pointer p_1] w1 (fun e_6 w2 => (∃ t70_3 : Int, ∃ t71_4 : Int, ∃ t72_5 : ByteArray, e_6 = .returned (.agg #[.int .i64 t70_3, .int .i64 t71_4, .string t72_5]) ∧ NEWB #[.int .i64 0, .int .i64 0, .string ⟨#[]⟩] 103 (fun b_7 w3 => STO ⟨b_7, 0, none⟩ (.int .i64 t70_3) (fun w4 => STO ⟨b_7, 1, none⟩ (.int .i64 t71_4) (fun w5 => STO ⟨b_7, 2, none⟩ (.string t72_5) (fun w6 => ∃ t10_9 : Int, w6.cell? ⟨b_7, 1, none⟩ = some (.int .i64 t10_9) ∧ IFB (t10_9 == 2) (Calls Tryz.prog f.query_parser_skip #[.pointer p_1] w6 (fun e_13 w7 => (∃ t130_10 : Int, ∃ t131_11 : Int, ∃ t132_12 : ByteArray, e_13 = .returned (.agg #[.int .i64 t130_10, .int .i64 t131_11, .string t132_12]) ∧ Calls Tryz.prog f.query_plain #[.string t132_12] w7 (fun e_15 w8 => (∃ t15_14 : ByteArray, e_15 = .returned (.string t15_14) ∧ Calls Tryz.prog f.query_constant #[.string t15_14] w8 (fun e_22 w9 => (∃ t160_16 : Int, ∃ t161_17 : ByteArray, ∃ t162_18 : Int, ∃ t163_19 : Int, ∃ t164_20 : ByteArray, ∃ (t165_21 : Option Addr) (t165_21l t165_21c : Nat), e_22 = .returned (.agg #[.int .i64 t160_16, .string t161_17, .int .i64 t162_18, .int .i64 t163_19, .string t164_20, .slice t165_21 t165_21l t165_21c]) ∧ STO ⟨b_2, 0, none⟩ (.int .i64 t160_16) (fun w10 => STO ⟨b_2, 1, none⟩ (.string t161_17) (fun w11 => STO ⟨b_2, 2, none⟩ (.int .i64 t162_18) (fun w12 => STO ⟨b_2, 3, none⟩ (.int .i64 t163_19) (fun w13 => STO ⟨b_2, 4, none⟩ (.string t164_20) (fun w14 => STO ⟨b_2, 5, none⟩ (.slice t165_21 t165_21l t165_21c) (fun w15 => ∃ res00_23 : Int, w15.cell? ⟨b_2, 0, none⟩ = some (.int .i64 res00_23) ∧ ∃ res01_24 : ByteArray, w15.cell? ⟨b_2, 1, none⟩ = some (.string res01_24) ∧ ∃ res02_25 : Int, w15.cell? ⟨b_2, 2, none⟩ = some (.int .i64 res02_25) ∧ ∃ res03_26 : Int, w15.cell? ⟨b_2, 3, none⟩ = some (.int .i64 res03_26) ∧ ∃ res04_27 : ByteArray, w15.cell? ⟨b_2, 4, none⟩ = some (.string res04_27) ∧ ∃ (res05_28 : Option Addr) (res05_28l res05_28c : Nat), w15.cell? ⟨b_2, 5, none⟩ = some (.slice res05_28 res05_28l res05_28c) ∧ k (.agg #[.int .i64 res00_23, .string res01_24, .int .i64 res02_25, .int .i64 res03_26, .string res04_27, .slice res05_28 res05_28l res05_28c]) w15) w14) w13) w12) w11) w10) w9) ∨ ∃ c_29, e_22 = .panicked c_29 ∧ kp c_29 w9)) ∨ ∃ c_30, e_15 = .panicked c_30 ∧ kp c_30 w8)) ∨ ∃ c_31, e_13 = .panicked c_31 ∧ kp c_31 w7)) (∃ t19_32 : Int, w6.cell? ⟨b_7, 1, none⟩ = some (.int .i64 t19_32) ∧ IFB (t19_32 == 3) (Calls Tryz.prog f.query_parser_skip #[.pointer p_1] w6 (fun e_36 w16 => (∃ t220_33 : Int, ∃ t221_34 : Int, ∃ t222_35 : ByteArray, e_36 = .returned (.agg #[.int .i64 t220_33, .int .i64 t221_34, .string t222_35]) ∧ Calls Tryz.prog f.query_constant #[.string t222_35] w16 (fun e_43 w17 => (∃ t240_37 : Int, ∃ t241_38 : ByteArray, ∃ t242_39 : Int, ∃ t243_40 : Int, ∃ t244_41 : ByteArray, ∃ (t245_42 : Option Addr) (t245_42l t245_42c : Nat), e_43 = .returned (.agg #[.int .i64 t240_37, .string t241_38, .int .i64 t242_39, .int .i64 t243_40, .string t244_41, .slice t245_42 t245_42l t245_42c]) ∧ STO ⟨b_2, 0, none⟩ (.int .i64 t240_37) (fun w18 => STO ⟨b_2, 1, none⟩ (.string t241_38) (fun w19 => STO ⟨b_2, 2, none⟩ (.int .i64 t242_39) (fun w20 => STO ⟨b_2, 3, none⟩ (.int .i64 t243_40) (fun w21 => STO ⟨b_2, 4, none⟩ (.string t244_41) (fun w22 => STO ⟨b_2, 5, none⟩ (.slice t245_42 t245_42l t245_42c) (fun w23 => ∃ res00_44 : Int, w23.cell? ⟨b_2, 0, none⟩ = some (.int .i64 res00_44) ∧ ∃ res01_45 : ByteArray, w23.cell? ⟨b_2, 1, none⟩ = some (.string res01_45) ∧ ∃ res02_46 : Int, w23.cell? ⟨b_2, 2, none⟩ = some (.int .i64 res02_46) ∧ ∃ res03_47 : Int, w23.cell? ⟨b_2, 3, none⟩ = some (.int .i64 res03_47) ∧ ∃ res04_48 : ByteArray, w23.cell? ⟨b_2, 4, none⟩ = some (.string res04_48) ∧ ∃ (res05_49 : Option Addr) (res05_49l res05_49c : Nat), w23.cell? ⟨b_2, 5, none⟩ = some (.slice res05_49 res05_49l res05_49c) ∧ k (.agg #[.int .i64 res00_44, .string res01_45, .int .i64 res02_46, .int .i64 res03_47, .string res04_48, .slice res05_49 res05_49l res05_49c]) w23) w22) w21) w20) w19) w18) w17) ∨ ∃ c_50, e_43 = .panicked c_50 ∧ kp c_50 w17)) ∨ ∃ c_51, e_36 = .panicked c_51 ∧ kp c_51 w16)) (∃ Y_61 : List Value → World → Prop, (Calls Tryz.prog f.query_parser_is #[.pointer p_1, .string ⟨#[110, 117, 108, 108]⟩] w6 (fun e_53 w24 => (∃ t27_52 : Bool, e_53 = .returned (.bool t27_52) ∧ IFB t27_52 (Y_61 [.bool true] w24) (Calls Tryz.prog f.query_parser_is #[.pointer p_1, .string ⟨#[116, 114, 117, 101]⟩] w24 (fun e_55 w25 => (∃ t30_54 : Bool, e_55 = .returned (.bool t30_54) ∧ IFB t30_54 (Y_61 [.bool true] w25) (Calls Tryz.prog f.query_parser_is #[.pointer p_1, .string ⟨#[102, 97, 108, 115, 101]⟩] w25 (fun e_57 w26 => (∃ t34_56 : Bool, e_57 = .returned (.bool t34_56) ∧ Y_61 [.bool t34_56] w26) ∨ ∃ c_58, e_57 = .panicked c_58 ∧ kp c_58 w26))) ∨ ∃ c_59, e_55 = .panicked c_59 ∧ kp c_59 w25))) ∨ ∃ c_60, e_53 = .panicked c_60 ∧ kp c_60 w24)) ∧ ∀ (t25_62 : Bool), ∀ w27 : World, Y_61 [.bool t25_62] w27 → IFB t25_62 (Calls Tryz.prog f.query_parser_skip #[.pointer p_1] w27 (fun e_66 w28 => (∃ t370_63 : Int, ∃ t371_64 : Int, ∃ t372_65 : ByteArray, e_66 = .returned (.agg #[.int .i64 t370_63, .int .i64 t371_64, .string t372_65]) ∧ Calls Tryz.prog f.query_constant #[.string t372_65] w28 (fun e_73 w29 => (∃ t390_67 : Int, ∃ t391_68 : ByteArray, ∃ t392_69 : Int, ∃ t393_70 : Int, ∃ t394_71 : ByteArray, ∃ (t395_72 : Option Addr) (t395_72l t395_72c : Nat), e_73 = .returned (.agg #[.int .i64 t390_67, .string t391_68, .int .i64 t392_69, .int .i64 t393_70, .string t394_71, .slice t395_72 t395_72l t395_72c]) ∧ STO ⟨b_2, 0, none⟩ (.int .i64 t390_67) (fun w30 => STO ⟨b_2, 1, none⟩ (.string t391_68) (fun w31 => STO ⟨b_2, 2, none⟩ (.int .i64 t392_69) (fun w32 => STO ⟨b_2, 3, none⟩ (.int .i64 t393_70) (fun w33 => STO ⟨b_2, 4, none⟩ (.string t394_71) (fun w34 => STO ⟨b_2, 5, none⟩ (.slice t395_72 t395_72l t395_72c) (fun w35 => ∃ res00_74 : Int, w35.cell? ⟨b_2, 0, none⟩ = some (.int .i64 res00_74) ∧ ∃ res01_75 : ByteArray, w35.cell? ⟨b_2, 1, none⟩ = some (.string res01_75) ∧ ∃ res02_76 : Int, w35.cell? ⟨b_2, 2, none⟩ = some (.int .i64 res02_76) ∧ ∃ res03_77 : Int, w35.cell? ⟨b_2, 3, none⟩ = some (.int .i64 res03_77) ∧ ∃ res04_78 : ByteArray, w35.cell? ⟨b_2, 4, none⟩ = some (.string res04_78) ∧ ∃ (res05_79 : Option Addr) (res05_79l res05_79c : Nat), w35.cell? ⟨b_2, 5, none⟩ = some (.slice res05_79 res05_79l res05_79c) ∧ k (.agg #[.int .i64 res00_74, .string res01_75, .int .i64 res02_76, .int .i64 res03_77, .string res04_78, .slice res05_79 res05_79l res05_79c]) w35) w34) w33) w32) w31) w30) w29) ∨ ∃ c_80, e_73 = .panicked c_80 ∧ kp c_80 w29)) ∨ ∃ c_81, e_66 = .panicked c_81 ∧ kp c_81 w28)) (Calls Tryz.prog f.query_parser_take #[.pointer p_1, .string ⟨#[108, 101, 110]⟩] w27 (fun e_83 w36 => (∃ t42_82 : Bool, e_83 = .returned (.bool t42_82) ∧ IFB t42_82 (NEWB #[.string ⟨#[40]⟩] 9 (fun b_85 w37 => Calls Tryz.prog f.query_parser_need #[.pointer p_1, .slice (some ⟨b_85, 0, none⟩) 1 1] w37 (fun e_86 w38 => (e_86 = .returned (.tuple #[]) ∧ Calls Tryz.prog f.query_parser_expr #[.pointer p_1, .int .i64 1] w38 (fun e_94 w39 => (∃ t470_88 : Int, ∃ t471_89 : ByteArray, ∃ t472_90 : Int, ∃ t473_91 : Int, ∃ t474_92 : ByteArray, ∃ (t475_93 : Option Addr) (t475_93l t475_93c : Nat), e_94 = .returned (.agg #[.int .i64 t470_88, .string t471_89, .int .i64 t472_90, .int .i64 t473_91, .string t474_92, .slice t475_93 t475_93l t475_93c]) ∧ NEWB #[.int .i64 0, .string ⟨#[]⟩, .int .i64 0, .int .i64 0, .string ⟨#[]⟩, .slice none 0 0] 47 (fun b_95 w40 => STO ⟨b_95, 0, none⟩ (.int .i64 t470_88) (fun w41 => STO ⟨b_95, 1, none⟩ (.string t471_89) (fun w42 => STO ⟨b_95, 2, none⟩ (.int .i64 t472_90) (fun w43 => STO ⟨b_95, 3, none⟩ (.int .i64 t473_91) (fun w44 => STO ⟨b_95, 4, none⟩ (.string t474_92) (fun w45 => STO ⟨b_95, 5, none⟩ (.slice t475_93 t475_93l t475_93c) (fun w46 => NEWB #[.string ⟨#[41]⟩] 9 (fun b_96 w47 => Calls Tryz.prog f.query_parser_need #[.pointer p_1, .slice (some ⟨b_96, 0, none⟩) 1 1] w47 (fun e_97 w48 => (e_97 = .returned (.tuple #[]) ∧ ∃ t510_98 : Int, w48.cell? ⟨b_95, 0, none⟩ = some (.int .i64 t510_98) ∧ ∃ t511_99 : ByteArray, w48.cell? ⟨b_95, 1, none⟩ = some (.string t511_99) ∧ ∃ t512_100 : Int, w48.cell? ⟨b_95, 2, none⟩ = some (.int .i64 t512_100) ∧ ∃ t513_101 : Int, w48.cell? ⟨b_95, 3, none⟩ = some (.int .i64 t513_101) ∧ ∃ t514_102 : ByteArray, w48.cell? ⟨b_95, 4, none⟩ = some (.string t514_102) ∧ ∃ (t515_103 : Option Addr) (t515_103l t515_103c : Nat), w48.cell? ⟨b_95, 5, none⟩ = some (.slice t515_103 t515_103l t515_103c) ∧ NEWB #[.int .i64 t510_98, .string t511_99, .int .i64 t512_100, .int .i64 t513_101, .string t514_102, .slice t515_103 t515_103l t515_103c] 47 (fun b_104 w49 => STO ⟨b_2, 0, none⟩ (.int .i64 16) (fun w50 => STO ⟨b_2, 1, none⟩ (.string ⟨#[]⟩) (fun w51 => STO ⟨b_2, 2, none⟩ (.int .i64 0) (fun w52 => STO ⟨b_2, 3, none⟩ (.int .i64 0) (fun w53 => STO ⟨b_2, 4, none⟩ (.string ⟨#[]⟩) (fun w54 => STO ⟨b_2, 5, none⟩ (.slice (some ⟨b_104, 0, none⟩) 1 1) (fun w55 => ∃ res00_105 : Int, w55.cell? ⟨b_2, 0, none⟩ = some (.int .i64 res00_105) ∧ ∃ res01_106 : ByteArray, w55.cell? ⟨b_2, 1, none⟩ = some (.string res01_106) ∧ ∃ res02_107 : Int, w55.cell? ⟨b_2, 2, none⟩ = some (.int .i64 res02_107) ∧ ∃ res03_108 : Int, w55.cell? ⟨b_2, 3, none⟩ = some (.int .i64 res03_108) ∧ ∃ res04_109 : ByteArray, w55.cell? ⟨b_2, 4, none⟩ = some (.string res04_109) ∧ ∃ (res05_110 : Option Addr) (res05_110l res05_110c : Nat), w55.cell? ⟨b_2, 5, none⟩ = some (.slice res05_110 res05_110l res05_110c) ∧ k (.agg #[.int .i64 res00_105, .string res01_106, .int .i64 res02_107, .int .i64 res03_108, .string res04_109, .slice res05_110 res05_110l res05_110c]) w55) w54) w53) w52) w51) w50) w49) w48) ∨ ∃ c_111, e_97 = .panicked c_111 ∧ kp c_111 w48)) w46) w45) w44) w43) w42) w41) w40) w39) ∨ ∃ c_112, e_94 = .panicked c_112 ∧ kp c_112 w39)) ∨ ∃ c_87, e_86 = .panicked c_87 ∧ kp c_87 w38)) w36) (Calls Tryz.prog f.query_parser_take #[.pointer p_1, .string ⟨#[40]⟩] w36 (fun e_114 w56 => (∃ t56_113 : Bool, e_114 = .returned (.bool t56_113) ∧ IFB t56_113 (Calls Tryz.prog f.query_parser_expr #[.pointer p_1, .int .i64 1] w56 (fun e_122 w57 => (∃ t580_116 : Int, ∃ t581_117 : ByteArray, ∃ t582_118 : Int, ∃ t583_119 : Int, ∃ t584_120 : ByteArray, ∃ (t585_121 : Option Addr) (t585_121l t585_121c : Nat), e_122 = .returned (.agg #[.int .i64 t580_116, .string t581_117, .int .i64 t582_118, .int .i64 t583_119, .string t584_120, .slice t585_121 t585_121l t585_121c]) ∧ NEWB #[.int .i64 0, .string ⟨#[]⟩, .int .i64 0, .int .i64 0, .string ⟨#[]⟩, .slice none 0 0] 47 (fun b_123 w58 => STO ⟨b_123, 0, none⟩ (.int .i64 t580_116) (fun w59 => STO ⟨b_123, 1, none⟩ (.string t581_117) (fun w60 => STO ⟨b_123, 2, none⟩ (.int .i64 t582_118) (fun w61 => STO ⟨b_123, 3, none⟩ (.int .i64 t583_119) (fun w62 => STO ⟨b_123, 4, none⟩ (.string t584_120) (fun w63 => STO ⟨b_123, 5, none⟩ (.slice t585_121 t585_121l t585_121c) (fun w64 => NEWB #[.string ⟨#[41]⟩] 9 (fun b_124 w65 => Calls Tryz.prog f.query_parser_need #[.pointer p_1, .slice (some ⟨b_124, 0, none⟩) 1 1] w65 (fun e_125 w66 => (e_125 = .returned (.tuple #[]) ∧ ∃ t620_126 : Int, w66.cell? ⟨b_123, 0, none⟩ = some (.int .i64 t620_126) ∧ ∃ t621_127 : ByteArray, w66.cell? ⟨b_123, 1, none⟩ = some (.string t621_127) ∧ ∃ t622_128 : Int, w66.cell? ⟨b_123, 2, none⟩ = some (.int .i64 t622_128) ∧ ∃ t623_129 : Int, w66.cell? ⟨b_123, 3, none⟩ = some (.int .i64 t623_129) ∧ ∃ t624_130 : ByteArray, w66.cell? ⟨b_123, 4, none⟩ = some (.string t624_130) ∧ ∃ (t625_131 : Option Addr) (t625_131l t625_131c : Nat), w66.cell? ⟨b_123, 5, none⟩ = some (.slice t625_131 t625_131l t625_131c) ∧ STO ⟨b_2, 0, none⟩ (.int .i64 t620_126) (fun w67 => STO ⟨b_2, 1, none⟩ (.string t621_127) (fun w68 => STO ⟨b_2, 2, none⟩ (.int .i64 t622_128) (fun w69 => STO ⟨b_2, 3, none⟩ (.int .i64 t623_129) (fun w70 => STO ⟨b_2, 4, none⟩ (.string t624_130) (fun w71 => STO ⟨b_2, 5, none⟩ (.slice t625_131 t625_131l t625_131c) (fun w72 => ∃ res00_132 : Int, w72.cell? ⟨b_2, 0, none⟩ = some (.int .i64 res00_132) ∧ ∃ res01_133 : ByteArray, w72.cell? ⟨b_2, 1, none⟩ = some (.string res01_133) ∧ ∃ res02_134 : Int, w72.cell? ⟨b_2, 2, none⟩ = some (.int .i64 res02_134) ∧ ∃ res03_135 : Int, w72.cell? ⟨b_2, 3, none⟩ = some (.int .i64 res03_135) ∧ ∃ res04_136 : ByteArray, w72.cell? ⟨b_2, 4, none⟩ = some (.string res04_136) ∧ ∃ (res05_137 : Option Addr) (res05_137l res05_137c : Nat), w72.cell? ⟨b_2, 5, none⟩ = some (.slice res05_137 res05_137l res05_137c) ∧ k (.agg #[.int .i64 res00_132, .string res01_133, .int .i64 res02_134, .int .i64 res03_135, .string res04_136, .slice res05_137 res05_137l res05_137c]) w72) w71) w70) w69) w68) w67) w66) ∨ ∃ c_138, e_125 = .panicked c_138 ∧ kp c_138 w66)) w64) w63) w62) w61) w60) w59) w58) w57) ∨ ∃ c_139, e_122 = .panicked c_139 ∧ kp c_139 w57)) (Calls Tryz.prog f.query_parser_name #[.pointer p_1] w56 (fun e_141 w73 => (∃ t64_140 : ByteArray, e_141 = .returned (.string t64_140) ∧ STO ⟨b_2, 0, none⟩ (.int .i64 1) (fun w74 => STO ⟨b_2, 1, none⟩ (.string t64_140) (fun w75 => STO ⟨b_2, 2, none⟩ (.int .i64 0) (fun w76 => STO ⟨b_2, 3, none⟩ (.int .i64 0) (fun w77 => STO ⟨b_2, 4, none⟩ (.string ⟨#[]⟩) (fun w78 => STO ⟨b_2, 5, none⟩ (.slice none 0 0) (fun w79 => ∃ res00_142 : Int, w79.cell? ⟨b_2, 0, none⟩ = some (.int .i64 res00_142) ∧ ∃ res01_143 : ByteArray, w79.cell? ⟨b_2, 1, none⟩ = some (.string res01_143) ∧ ∃ res02_144 : Int, w79.cell? ⟨b_2, 2, none⟩ = some (.int .i64 res02_144) ∧ ∃ res03_145 : Int, w79.cell? ⟨b_2, 3, none⟩ = some (.int .i64 res03_145) ∧ ∃ res04_146 : ByteArray, w79.cell? ⟨b_2, 4, none⟩ = some (.string res04_146) ∧ ∃ (res05_147 : Option Addr) (res05_147l res05_147c : Nat), w79.cell? ⟨b_2, 5, none⟩ = some (.slice res05_147 res05_147l res05_147c) ∧ k (.agg #[.int .i64 res00_142, .string res01_143, .int .i64 res02_144, .int .i64 res03_145, .string res04_146, .slice res05_147 res05_147l res05_147c]) w79) w78) w77) w76) w75) w74) w73) ∨ ∃ c_148, e_141 = .panicked c_148 ∧ kp c_148 w73))) ∨ ∃ c_115, e_114 = .panicked c_115 ∧ kp c_115 w56))) ∨ ∃ c_84, e_83 = .panicked c_84 ∧ kp c_84 w36))))) w5) w4) w3) w2) ∨ ∃ c_8, e_6 = .panicked c_8 ∧ kp c_8 w2)) w0
theorem query_parser_atom_calls (p_1 : Option Addr) (k : Value → World → Prop) (kp : List PanicEntry → World → Prop) (w0 : World) (h : query_parser_atom p_1 k kp w0) : Calls Tryz.prog f.query_parser_atom #[.pointer p_1] w0 (fun e w => (∃ v, e = .returned v ∧ k v w) ∨ ∃ ch, e = .panicked ch ∧ kp ch w) :=
  dFunP_calls mixed (L := []) (C := [(7, ⟨[(25, .bool false)], [0, 2]⟩), (1000000, ⟨[], []⟩)]) (Eq.mpr (by kernel_rfl) h)
end X
end Go.Proofs.YtbpdfpfgijhokaaGreatDoor
namespace Go.Proofs.YtbpdfpfgijhokaaGreatDoor
set_option maxRecDepth 100000
open Go.Dn Go.Proofs
open Go.RowKit (Below)
set_option linter.unusedVariables false
def wrE (a : Int) : List PanicEntry := [{ v := .iface 142 (.agg #[.int .i64 a]), recovered := false }]
def RetP (k : Value → World → Prop) (kp : List PanicEntry → World → Prop) : Ending → World → Prop := fun e w => (∃ v, e = .returned v ∧ k v w) ∨ ∃ ch, e = .panicked ch ∧ kp ch w
def BadP {α : Type} (w0 : World) (H : List It) (R : RS α) (ch : List PanicEntry) (w' : World) : Prop := ∃ a, R = .bad a ∧ ch = wrE a ∧ ST w0 w' H
theorem _root_.Go.Dn.ST.tail {w0 w : World} {A H : List It} (S : ST w0 w (A ++ H)) : ST w0 w H := S.sub (List.sublist_append_right _ _)
theorem BadP.sub {α β : Type} {w0 : World} {A H : List It} {R : RS α} {R' : RS β} {ch : List PanicEntry} {w' : World} (h : BadP w0 (A ++ H) R ch w') (hR : ∀ a, R = .bad a → R' = .bad a) : BadP w0 H R' ch w' := by
  obtain ⟨a, h1, h2, h3⟩ := h
  exact ⟨a, hR a h1, h2, h3.tail⟩
section
variable {α : Type} {w w0 : World} {H : List It} {b b9 : Nat} {L : List Tk} {t : Tk}
theorem PS.st (S : PS w0 w b L H) : ST w0 w H := by
  obtain ⟨x, c, _, _, S⟩ := S
  exact S.drop 2
def needL : List ByteArray → List Tk → Option (RS Unit)
  | [], L => some (.ok () L)
  | _ :: _, [] => none
  | s :: ss, t :: L => if isB t s = true then needL ss L else some (.bad t.1)
theorem pneed_ok {ss : List ByteArray} {R : RS Unit} (hn : ss.length ≤ 100) (S : PS w0 w b L (It.cells b9 ⟨ss.map Value.string⟩ ty.string :: H)) (hR : needL ss L = some R) :
    Calls Tryz.prog f.query_parser_need #[.pointer (some ⟨b, 0, none⟩), .slice (some ⟨b9, 0, none⟩) ss.length ss.length] w (RetP (fun v w' => v = .tuple #[] ∧ ∃ L', R = .ok () L' ∧ PS w0 w' b L' H) (BadP w0 H R)) := by
  apply X.query_parser_need_calls
  unfold X.query_parser_need
  refine forUp ss.length (fun j w => ∃ Lj, needL (ss.drop j) Lj = some R ∧ PS w0 w b Lj (It.cells b9 ⟨ss.map Value.string⟩ ty.string :: H)) (by omega) ⟨L, hR, S⟩ fun I M j w1 hj hh next => ?_
  obtain ⟨Lj, hj1, S1⟩ := hh
  refine IFB_dec (fun hlt => ⟨⟨by omega, hlt⟩, ?_⟩) (fun hge => ?_)
  · have hjl : j < ss.length := by omega
    rw [List.drop_eq_getElem_cons hjl] at hj1
    cases Lj with
    | nil => cases hj1
    | cons t Lj =>
      rw [needL] at hj1
      refine PTR_i ⟨ss[j], ?_, (ptake_ok S1 ss[j]).mono ?_⟩
      · rw [Int.toNat_natCast, Nat.mul_one, addr_add_blk, Nat.zero_add]
        exact S1.cell 0 rfl (by simp [hjl])
      rintro _ w2 ⟨_, rfl, rfl, S2⟩
      refine .inl ⟨_, rfl, ?_⟩
      by_cases h : isB t ss[j] = true
      · rw [if_pos h] at hj1 S2
        rw [h]
        exact IFB_not (IFB_true (next _ (by omega) ⟨_, hj1, S2⟩))
      · rw [if_neg h] at hj1 S2
        have h' : isB t ss[j] = false := by simpa using h
        rw [h']
        refine IFB_not (IFB_false ((pnext_ok S2).mono ?_))
        rintro _ w3 ⟨_, rfl, rfl, S3⟩
        exact .inl ⟨_, _, _, rfl, _, (Option.some.inj hj1).symm, rfl, S3.st.drop 1⟩
  · rw [List.drop_eq_nil_of_le (by omega)] at hj1
    exact ⟨rfl, Lj, (Option.some.inj hj1).symm, S1.drop 1⟩
theorem pneed1 {s : ByteArray} {k : List Tk → Option (RS α)} {R : RS α} (h : needT s k L = some R) (S : PS w0 w b L (It.cells b9 #[.string s] ty.string :: H)) {Q : Ending → World → Prop}
    (hk : ∀ L' w', SufR 1 L (.ok () L') → k L' = some R → PS w0 w' b L' H → Q (.returned (.tuple #[])) w') (hb : ∀ ch w', BadP w0 H R ch w' → Q (.panicked ch) w') : Calls Tryz.prog f.query_parser_need #[.pointer (some ⟨b, 0, none⟩), .slice (some ⟨b9, 0, none⟩) 1 1] w Q := by
  cases L with
  | nil => cases h
  | cons t L =>
    rw [needT] at h
    by_cases ht : isB t s = true
    · rw [if_pos ht] at h
      refine (pneed_ok (ss := [s]) (by simp) S (R := .ok () L) (by rw [needL, if_pos ht]; rfl)).mono ?_
      rintro _ w' (⟨_, rfl, rfl, L', hL, S'⟩ | ⟨ch, rfl, a, ha, _⟩)
      · cases hL; exact hk _ _ (.ok [t] rfl (by simp)) h S'
      · cases ha
    · rw [if_neg ht] at h
      refine (pneed_ok (ss := [s]) (by simp) S (R := .bad t.1) (by rw [needL, if_neg ht])).mono ?_
      rintro _ w' (⟨_, rfl, rfl, L', hL, S'⟩ | ⟨ch, rfl, a, ha, hc, S'⟩)
      · cases hL
      · cases ha; exact hb _ _ ⟨_, (Option.some.inj h).symm, hc, S'⟩
theorem pneed2 {s s' : ByteArray} {k : List Tk → Option (RS α)} {R : RS α} (ht : isB t s = true) (h : needT s' k L = some R) (S : PS w0 w b (t :: L) (It.cells b9 #[.string s, .string s'] ty.string :: H)) {Q : Ending → World → Prop}
    (hk : ∀ L' w', SufR 1 L (.ok () L') → k L' = some R → PS w0 w' b L' H → Q (.returned (.tuple #[])) w') (hb : ∀ ch w', BadP w0 H R ch w' → Q (.panicked ch) w') : Calls Tryz.prog f.query_parser_need #[.pointer (some ⟨b, 0, none⟩), .slice (some ⟨b9, 0, none⟩) 2 2] w Q := by
  cases L with
  | nil => cases h
  | cons u L =>
    rw [needT] at h
    by_cases hu : isB u s' = true
    · rw [if_pos hu] at h
      refine (pneed_ok (ss := [s, s']) (by simp) S (R := .ok () L) (by rw [needL, if_pos ht, needL, if_pos hu]; rfl)).mono ?_
      rintro _ w' (⟨_, rfl, rfl, L', hL, S'⟩ | ⟨ch, rfl, a, ha, _⟩)
      · cases hL; exact hk _ _ (.ok [u] rfl (by simp)) h S'
      · cases ha
    · rw [if_neg hu] at h
      refine (pneed_ok (ss := [s, s']) (by simp) S (R := .bad u.1) (by rw [needL, if_pos ht, needL, if_neg hu])).mono ?_
      rintro _ w' (⟨_, rfl, rfl, L', hL, S'⟩ | ⟨ch, rfl, a, ha, hc, S'⟩)
      · cases hL
      · cases ha; exact hb _ _ ⟨_, (Option.some.inj h).symm, hc, S'⟩
theorem pname1 {k : ByteArray → List Tk → Option (RS α)} {R : RS α} (E : Env w0) (hs : SmT L) (h : nameT k L = some R) (S : PS w0 w b L H) {Q : Ending → World → Prop}
    (hk : ∀ s L' w', SufR 1 L (.ok s L') → s.size ≤ 4096 → k s L' = some R → PS w0 w' b L' H → Q (.returned (.string s)) w') (hb : ∀ ch w', BadP w0 H R ch w' → Q (.panicked ch) w') : Calls Tryz.prog f.query_parser_name #[.pointer (some ⟨b, 0, none⟩)] w Q := by
  cases L with
  | nil => cases h
  | cons t L =>
    rw [nameT] at h
    have hh : Calls Tryz.prog f.query_parser_name #[.pointer (some ⟨b, 0, none⟩)] w (RetP (fun v w' => v = .string t.2.2 ∧ (t.2.1 = 1 ∧ isKeyB t.2.2 = false) ∧ PS w0 w' b L H) (fun ch w' => ¬ (t.2.1 = 1 ∧ isKeyB t.2.2 = false) ∧ ch = wrE t.1 ∧ ST w0 w' H)) := by
      apply X.query_parser_name_calls
      unfold X.query_parser_name
      refine (pnext_ok S).mono ?_
      rintro _ w1 ⟨_, rfl, rfl, S1⟩
      refine .inl ⟨_, _, _, rfl, S1.lit3 fun b6 w5 S5 => ⟨_, S5.cell 0 rfl rfl, IFB_ne (fun h => ⟨_, S5.cell 0 rfl rfl, ⟨fun h' => h h'.1, rfl, S5.st.drop 1⟩⟩) (fun h1 => ⟨_, S5.cell 0 rfl rfl, call0 (query_isKey_ok _ (E.grown S5.bel)) (.inl ⟨_, rfl, IFB_of (fun h2 => ⟨_, S5.cell 0 rfl rfl, ⟨fun h' => (by rw [h2] at h'; cases h'.2), rfl, S5.st.drop 1⟩⟩) (fun h2 => (pskip_ok (S5.drop 1)).mono ?_)⟩)⟩)⟩⟩
      rintro _ w7 ⟨_, rfl, rfl, S7⟩
      exact .inl ⟨_, _, _, rfl, rfl, ⟨h1, h2⟩, S7⟩
    refine hh.mono ?_
    rintro _ w' (⟨_, rfl, rfl, hc, S'⟩ | ⟨ch, rfl, hc, e, S'⟩)
    · rw [if_pos hc] at h
      exact hk _ _ _ (.ok [t] rfl (by simp)) (hs t (by simp)) h S'
    · rw [if_neg hc] at h
      exact hb _ _ ⟨_, (Option.some.inj h).symm, e, S'⟩
end
/-! ### where an expression's operands lie -/
inductive XK : Ex → Option Addr → Nat → List It → Prop
  | leaf {op : Int} {nm : ByteArray} {v : Val} : i64 op → nm.size ≤ maxLen → i64 v.1 → i64 v.2.1 → v.2.2.size ≤ maxLen → XK (.mk op nm v []) none 0 []
  | one {op : Int} {x : Ex} {a : Option Addr} {c : Nat} {K : List It} (k : Nat) : i64 op → XK x a c K → XK (.mk op E0 V0 [x]) (some ⟨k, 0, none⟩) 1 (It.cells k ⟨exHead x a c⟩ ty.api_Expr :: K)
  | two {op : Int} {x y : Ex} {a0 a1 : Option Addr} {c0 c1 : Nat} {K0 K1 : List It} (k : Nat) : i64 op → XK x a0 c0 K0 → XK y a1 c1 K1 → XK (.mk op E0 V0 [x, y]) (some ⟨k, 0, none⟩) 2 (It.cells k ⟨exHead x a0 c0 ++ exHead y a1 c1⟩ ty.api_Expr :: (K1 ++ K0))
theorem XK.rx {w : World} {x : Ex} {a : Option Addr} {cap : Nat} {K : List It} (h : XK x a cap K) : (∀ it ∈ K, it.ok w) → XC w x (exHead x a cap) := by
  induction h with
  | leaf h1 h2 h3 h4 h5 =>
    intro _
    exact ExC.close (rs := []) (Rd.nil _ _) (by simp) (Nat.le_refl _) (by decide) (fun _ => rfl) ⟨h1, h2, h3, h4, h5⟩ ExL.nil
  | @one op x a c K k hop hx ih =>
    intro hok
    have hk : w.heap[k]? = some (.cells ⟨exHead x a c⟩ ty.api_Expr (0, 0)) := hok (It.cells k ⟨exHead x a c⟩ ty.api_Expr) (by simp)
    have g0 := ih fun it hi => hok it (by simp [hi])
    exact ExC.close (rs := exHead x a c) (Rd.of_block0 hk) (by simp) (Nat.le_refl _) (by decide) (fun h => by cases h) ⟨hop, by show E0.size ≤ maxLen; decide, ⟨by show -9223372036854775808 ≤ (0 : Int); decide, by show (0 : Int) ≤ 9223372036854775807; decide⟩, ⟨by show -9223372036854775808 ≤ (0 : Int); decide, by show (0 : Int) ≤ 9223372036854775807; decide⟩, by show E0.size ≤ maxLen; decide⟩ (rowsC_exL.1 (RowsC.one g0))
  | @two op x y a0 a1 c0 c1 K0 K1 k hop hx hy ih0 ih1 =>
    intro hok
    have hk : w.heap[k]? = some (.cells ⟨exHead x a0 c0 ++ exHead y a1 c1⟩ ty.api_Expr (0, 0)) := hok (It.cells k ⟨exHead x a0 c0 ++ exHead y a1 c1⟩ ty.api_Expr) (by simp)
    have g0 := ih0 fun it hi => hok it (by simp [hi])
    have g1 := ih1 fun it hi => hok it (by simp [hi])
    exact ExC.close (rs := exHead x a0 c0 ++ exHead y a1 c1) (Rd.of_block0 hk) (by simp) (Nat.le_refl _) (by decide) (fun h => by cases h) ⟨hop, by show E0.size ≤ maxLen; decide, ⟨by show -9223372036854775808 ≤ (0 : Int); decide, by show (0 : Int) ≤ 9223372036854775807; decide⟩, ⟨by show -9223372036854775808 ≤ (0 : Int); decide, by show (0 : Int) ≤ 9223372036854775807; decide⟩, by show E0.size ≤ maxLen; decide⟩ (rowsC_exL.1 (RowsC.append (RowsC.one g0) (RowsC.one g1)))
def XPt (f : FuncId) (more : List Value) (L : List Tk) (R : RS Ex) : Prop :=
  ∀ {w0 w : World} {H : List It} {b : Nat}, Env2 w0 → PS w0 w b L H → Calls Tryz.prog f ⟨.pointer (some ⟨b, 0, none⟩) :: more⟩ w (RetP (fun r w' => ∃ x L' a cap K, R = .ok x L' ∧ XK x a cap K ∧ r = .agg ⟨exHead x a cap⟩ ∧ PS w0 w' b L' (K ++ H)) (BadP w0 H R))
theorem XPt.go {α : Type} {f : FuncId} {more : List Value} {L : List Tk} {r : Option (RS Ex)} {k : Ex → List Tk → Option (RS α)} {R : RS α} {w0 w : World} {H : List It} {b : Nat} (hx : ∀ R', r = some R' → XPt f more L R') (h : bindR r k = some R) (E : Env2 w0) (S : PS w0 w b L H) {Q : Ending → World → Prop}
    (hk : ∀ x L' a cap K w', r = some (.ok x L') → k x L' = some R → XK x a cap K → PS w0 w' b L' (K ++ H) → Q (.returned (.agg ⟨exHead x a cap⟩)) w') (hb : ∀ ch w', BadP w0 H R ch w' → Q (.panicked ch) w') : Calls Tryz.prog f ⟨.pointer (some ⟨b, 0, none⟩) :: more⟩ w Q := by
  rcases bindR_open h with ⟨a, hr, rfl⟩ | ⟨x, L', hr, h2⟩
  · refine (hx _ hr E S).mono ?_
    rintro _ w' (⟨_, rfl, x, L', a, cap, K, hR, _⟩ | ⟨ch, rfl, a', ha, hc, S'⟩)
    · cases hR
    · cases ha; exact hb _ _ ⟨_, rfl, hc, S'⟩
  · refine (hx _ hr E S).mono ?_
    rintro _ w' (⟨_, rfl, y, M, a, cap, K, hR, hK, rfl, S'⟩ | ⟨ch, rfl, a', ha, hc, S'⟩)
    · cases hR; exact hk _ _ _ _ _ _ hr h2 hK S'
    · cases ha
theorem sof_size (l : List UInt8) : (sof l).size = l.length := by rw [← bl_length, bl_sof]
section
variable {w : World}
abbrev is48 (c : UInt8) : Bool := c.toNat == 48
theorem ptrimB_ok (s : ByteArray) : Calls Tryz.prog f.strings_trimLeftByte #[.string s, .int .u8 48] w (Ret fun r w' => r = .string (sof ((bl s).dropWhile is48)) ∧ w' = w) := by
  apply R.strings_trimLeftByte_calls
  unfold R.strings_trimLeftByte
  refine ⟨fun st w' => ∃ l : List UInt8, st = [.string (sof l)] ∧ l.dropWhile is48 = (bl s).dropWhile is48 ∧ w' = w, fun st _ => match st with | [.string t] => t.size | _ => 0, ⟨bl s, by rw [sof_bl], rfl, rfl⟩, ?_⟩
  rintro s4 w1 ⟨l, hst, hl, rfl⟩
  cases hst
  have hsz := sof_size l
  refine IFB_dec (fun h => ⟨⟨by decide, h⟩, ?_⟩) (fun h => ⟨?_, rfl⟩)
  · cases l with
    | nil => exact absurd h (by rw [hsz]; simp)
    | cons c r =>
      have hg : sget (sof (c :: r)) 0 = c := by rw [sget_eq, bl_sof]; rfl
      have hx : (sof (c :: r)).extract 1 (sof (c :: r)).size = sof r := by rw [extract_eq, bl_sof, hsz]; simp
      rw [hg, hx]
      rw [List.length_cons] at hsz
      refine IFB_eq (fun hc => ⟨⟨by decide, by omega, by omega⟩, ⟨r, rfl, ?_, rfl⟩, ?_⟩) (fun hc => ⟨?_, rfl⟩)
      · rw [← hl, List.dropWhile_cons, if_pos (by simp only [is48, beq_iff_eq]; omega)]
      · show (sof r).size < (sof (c :: r)).size
        rw [sof_size, sof_size]; simp
      · rw [← hl, List.dropWhile_cons, if_neg (by simp only [is48, beq_iff_eq]; omega)]
  · cases l with
    | nil => rw [← hl]; rfl
    | cons c r => exact absurd (by rw [hsz, List.length_cons]; omega) h
theorem ptrim_ok (s : ByteArray) : Calls Tryz.prog f.strings_TrimLeft #[.string s, .string ⟨#[48]⟩] w (Ret fun r w' => r = .string (sof ((bl s).dropWhile is48)) ∧ w' = w) := by
  apply R.strings_TrimLeft_calls
  unfold R.strings_TrimLeft
  rw [bytesEq_iff]
  refine IFB_dec (fun h => ⟨?_, rfl⟩) (fun h => ?_)
  · rw [h]; rfl
  · exact IFB_no (by rw [bytesEq_iff]; decide) ⟨fun _ _ => False, IFB_eq (fun _ => ⟨⟨by decide, by decide⟩, IFB_dec (fun _ => ⟨⟨by decide, by decide⟩, call0 (ptrimB_ok s) ⟨_, rfl, rfl, rfl⟩⟩) (fun h => absurd (by decide) h)⟩) (fun h => absurd (by decide) h), fun _ h => h.elim⟩
theorem pplain_ok (s : ByteArray) : Calls Tryz.prog f.query_plain #[.string s] w (Ret fun r w' => r = .string (plainB s) ∧ w' = w) := by
  apply R.query_plain_calls
  unfold R.query_plain
  refine call0 (ptrim_ok s) ⟨_, rfl, ?_⟩
  have e : plainB s = sof (match (bl s).dropWhile is48 with | [] => [48] | c :: r => c :: r) := rfl
  rw [e]
  cases (bl s).dropWhile is48 with
  | nil => exact IFB_not (IFB_yes (by rw [bytesEq_iff]; decide) ⟨rfl, rfl⟩)
  | cons c r =>
    refine IFB_not (IFB_no ?_ ⟨rfl, rfl⟩)
    rw [bytesEq_iff]
    apply decide_eq_false
    intro h
    have := congrArg bl h
    rw [bl_sof] at this
    cases this
theorem cstX_none {s : ByteArray} (h : ∀ v : Val, rightB v = true → ValOk v → showL v ≠ bl s) : cstX s = .mk (-1) E0 V0 [] := by
  rw [cstX]
  cases hv : valOf s with
  | none => rfl
  | some v =>
    obtain ⟨h1, h2, h3⟩ := valOf_some hv
    exact absurd h3 (h v h1 h2)
theorem cstX_xk (s : ByteArray) : XK (cstX s) none 0 [] := by
  rw [cstX]
  cases hv : valOf s with
  | none => exact .leaf (by decide) (by decide) (by decide) (by decide) (by decide)
  | some v =>
    obtain ⟨h1, h2, h3⟩ := valOf_some hv
    have hk : i64 v.1 ∧ v.2.2.size ≤ maxLen := by
      rcases show_cases h1 _ rfl with ⟨e, _⟩ | ⟨e, _⟩ | ⟨e, _⟩ | ⟨e, _⟩ | ⟨e, hz, _⟩
      · rw [e]; exact ⟨⟨by simp, by simp⟩, Nat.zero_le _⟩
      · rw [e]; exact ⟨⟨by simp, by simp⟩, Nat.zero_le _⟩
      · rw [e]; exact ⟨⟨by simp, by simp⟩, Nat.zero_le _⟩
      · rw [e]; exact ⟨⟨by simp, by simp⟩, Nat.zero_le _⟩
      · rw [e]; exact ⟨⟨by simp, by simp⟩, Nat.le_trans hz (by decide)⟩
    exact .leaf (by decide) (by decide) hk.1 ⟨h2.lo, h2.hi⟩ hk.2
theorem pconst_ok (E : Env2 w) (s : ByteArray) (hs : s.size ≤ 140737488351232) : Calls Tryz.prog f.query_constant #[.string s] w (Ret fun r w' => r = .agg ⟨exHead (cstX s) none 0⟩ ∧ Below w.heap.size w w') := by
  apply R.query_constant_calls
  unfold R.query_constant
  refine (ST.start w).newB fun b2 w1 _ _ S1 => (value_Parse_ok (E.grown S1.bel) s hs).mono ?_
  rintro _ w2 ⟨_, rfl, hP, B2⟩
  have S2 := S1.grown B2
  rcases hP with ⟨v, hr, hv, hsh, rfl⟩ | ⟨hno, rfl⟩
  · rw [cstX_of hr hv hsh]
    exact ⟨_, _, _, _, rfl, S2.lit3 fun b8 w6 _ S6 => IFB_ne (fun h => absurd rfl h) (fun _ => ⟨_, S6.cell 0 rfl rfl, _, S6.cell 0 rfl rfl, _, S6.cell 0 rfl rfl, stEx S6 1 rfl fun w19 S19 => ⟨rfl, S19.bel⟩⟩)⟩
  · rw [cstX_none hno]
    have hbad : ∀ {w : World}, Calls Tryz.prog f.query_bad #[] w (Ret fun r w' => r = .agg ⟨exHead (.mk (-1) E0 V0 []) none 0⟩ ∧ Below w.heap.size w w') := by
      intro w
      apply R.query_bad_calls
      unfold R.query_bad
      exact (ST.start w).newB fun b1 w1 _ _ S1 => stEx S1 0 rfl fun w7 S7 => ⟨rfl, S7.bel⟩
    exact ⟨_, _, _, _, rfl, S2.lit3 fun b8 w6 _ S6 => IFB_ne (fun _ => S6.call hbad fun w7 _ S7 => ⟨_, _, _, _, _, _, _, _, rfl, stEx S7 1 rfl fun w13 S13 => ⟨rfl, S13.bel⟩⟩) (fun h => absurd h (by decide))⟩
end
theorem plain_size (s : ByteArray) : (plainB s).size ≤ s.size + 1 := by
  rw [plainB, sof_size, plainL]
  have h : ((bl s).dropWhile fun c => c.toNat == 48).length ≤ (bl s).length := (List.dropWhile_sublist _).length_le
  rw [bl_length] at h
  split
  · simp
  · rename_i e
    rw [e] at h
    omega
theorem neg_size {s : ByteArray} (hp : (plainB s).size ≤ s.size + 1) (hs : s.size ≤ 4096) : ((⟨#[45]⟩ : ByteArray) ++ plainB s).size ≤ 140737488351232 := by
  rw [ByteArray.size_append]
  have e : (ByteArray.size ⟨#[45]⟩) = 1 := rfl
  omega
section
variable {m : Nat} {L : List Tk} {R : RS Ex}
theorem patom_P (h : pt (m + 1) .A L = some R) (hs : SmT L) (ihE : ∀ L R, SmT L → pt m (.E 1) L = some R → XPt f.query_parser_expr [.int .i64 1] L R) : XPt f.query_parser_atom [] L R := by
  intro w0 w H b E S
  cases L with
  | nil => simp [pt] at h
  | cons t L =>
  rw [pt] at h
  have ht := hs t (by simp)
  have hL := hs.tail
  apply X.query_parser_atom_calls
  unfold X.query_parser_atom
  refine S.newB fun b2 w1 S1 => (pnext_ok S1).mono ?_
  rintro _ w2 ⟨_, rfl, rfl, S2⟩
  refine .inl ⟨_, _, _, rfl, S2.lit3 fun b7 w6 S6 => ⟨_, S6.cell 0 rfl rfl, IFB_eq (fun h2 => ?_) (fun h2 => ⟨_, S6.cell 0 rfl rfl, IFB_eq (fun h3 => ?_) (fun h3 => ?_)⟩)⟩⟩
  · rw [if_pos h2] at h
    refine (pskip_ok S6).mono ?_
    rintro _ w7 ⟨_, rfl, rfl, S7⟩
    exact .inl ⟨_, _, _, rfl, call0 (pplain_ok _) (.inl ⟨_, rfl, S7.call (pconst_ok (E.grown S7.bel) _ (by have := plain_size t.2.2; omega)) fun w9 S9 => .inl ⟨_, _, _, _, _, _, _, _, rfl, S9.stEx 1 rfl fun w15 S15 => ⟨_, _, none, 0, [], (Option.some.inj h).symm, cstX_xk _, rfl, S15.drop 2⟩⟩⟩)⟩
  · rw [if_neg h2, if_pos h3] at h
    refine (pskip_ok S6).mono ?_
    rintro _ w7 ⟨_, rfl, rfl, S7⟩
    exact .inl ⟨_, _, _, rfl, S7.call (pconst_ok (E.grown S7.bel) _ (by omega)) fun w9 S9 => .inl ⟨_, _, _, _, _, _, _, _, rfl, S9.stEx 1 rfl fun w15 S15 => ⟨_, _, none, 0, [], (Option.some.inj h).symm, cstX_xk _, rfl, S15.drop 2⟩⟩⟩
  rw [if_neg h2, if_neg h3] at h
  refine ⟨fun st w => st = [.bool (isB t qNull || isB t qTrue || isB t qFalse)] ∧ PS w0 w b (t :: L) (tkI b7 t :: zex b2 :: H), (pis_ok S6 _).mono ?_, ?_⟩
  · rintro _ w24 ⟨_, rfl, rfl, S24⟩
    refine .inl ⟨_, rfl, IFB_of (fun e1 => ⟨by rw [e1]; rfl, S24⟩) (fun e1 => (pis_ok S24 _).mono ?_)⟩
    rintro _ w25 ⟨_, rfl, rfl, S25⟩
    refine .inl ⟨_, rfl, IFB_of (fun e2 => ⟨by rw [e1, e2]; rfl, S25⟩) (fun e2 => (pis_ok S25 _).mono ?_)⟩
    rintro _ w26 ⟨_, rfl, rfl, S26⟩
    exact .inl ⟨_, rfl, by rw [e1, e2]; rfl, S26⟩
  rintro t25 w27 ⟨hst, S27⟩
  obtain rfl : t25 = (isB t qNull || isB t qTrue || isB t qFalse) := by simpa using hst
  refine IFB_of (fun hw => ?_) (fun hw => ?_)
  · rw [if_pos (by simpa [Bool.or_eq_true, or_assoc] using hw)] at h
    refine (pskip_ok S27).mono ?_
    rintro _ w28 ⟨_, rfl, rfl, S28⟩
    exact .inl ⟨_, _, _, rfl, S28.call (pconst_ok (E.grown S28.bel) _ (by omega)) fun w9 S9 => .inl ⟨_, _, _, _, _, _, _, _, rfl, S9.stEx 1 rfl fun w15 S15 => ⟨_, _, none, 0, [], (Option.some.inj h).symm, cstX_xk _, rfl, S15.drop 2⟩⟩⟩
  rw [if_neg (by intro hw'; have : (isB t qNull || isB t qTrue || isB t qFalse) = true := by simpa [Bool.or_eq_true, or_assoc] using hw'
                 rw [hw] at this; cases this)] at h
  by_cases hl : isB t qLen = true
  · rw [if_pos hl] at h
    refine ptakeY S27 hl fun w36 S36 => .inl ⟨_, rfl, IFB_true (S36.newB fun b85 w37 S37 => pneed1 h S37 (fun L1 w38 hL1 h1 S38 => .inl ⟨rfl, XPt.go (ihE _ · (hL.suf hL1)) h1 E S38 (fun x L2 a cap K w39 hx h2 hK S39 => .inl ⟨_, _, _, _, _, _, _, _, rfl, ?_⟩) (fun ch w' hB => .inr ⟨_, rfl, hB.sub (A := [_, _]) fun _ => id⟩)⟩) (fun ch w' hB => .inr ⟨_, rfl, hB.sub (A := [_, _]) fun _ => id⟩))⟩
    have S39 := PS.front [tkI b7 t, zex b2] S39
    refine S39.lit6 fun b95 w46 S46 => S46.newB fun b96 w47 S47 => pneed1 h2 S47 (fun L3 w48 _ h3 S48 => .inl ⟨rfl, S48.stX 0 rfl (S48.newB fun b104 w49 S49 => S49.stEx 3 rfl fun w55 S55 => ⟨_, _, some ⟨b104, 0, none⟩, 1, It.cells b104 ⟨exHead x a cap⟩ ty.api_Expr :: K, (Option.some.inj h3).symm, .one b104 (by decide) hK, rfl, ?_⟩)⟩) (fun ch w' hB => .inr ⟨_, rfl, hB.sub (A := _ :: _ :: _ :: K) fun _ => id⟩)
    exact S55.sub (.cons_cons _ (.cons _ (.cons _ (.cons _ (.refl _)))))
  rw [if_neg hl] at h
  refine ptakeN S27 (by simpa using hl) fun w36 S36 => .inl ⟨_, rfl, IFB_false ?_⟩
  by_cases ho : isB t qOpen = true
  · rw [if_pos ho] at h
    refine ptakeY S36 ho fun w56 S56 => .inl ⟨_, rfl, IFB_true (XPt.go (ihE _ · hL) h E S56 (fun x L1 a cap K w57 hx h2 hK S57 => .inl ⟨_, _, _, _, _, _, _, _, rfl, ?_⟩) (fun ch w' hB => .inr ⟨_, rfl, hB.sub (A := [_, _]) fun _ => id⟩))⟩
    have S57 := PS.front [tkI b7 t, zex b2] S57
    exact S57.lit6 fun b123 w64 S64 => S64.newB fun b124 w65 S65 => pneed1 h2 S65 (fun L2 w66 _ h3 S66 => .inl ⟨rfl, S66.stX 0 rfl (S66.stEx 2 rfl fun w72 S72 => ⟨_, _, a, cap, K, (Option.some.inj h3).symm, hK, rfl, S72.drop 3⟩)⟩) (fun ch w' hB => .inr ⟨_, rfl, hB.sub (A := _ :: _ :: _ :: K) fun _ => id⟩)
  rw [if_neg ho] at h
  refine ptakeN S36 (by simpa using ho) fun w56 S56 => .inl ⟨_, rfl, IFB_false (pname1 E.env hs h S56 (fun s L' w73 hs' hz h1 S73 => .inl ⟨_, rfl, S73.stEx 1 rfl fun w79 S79 => ⟨_, _, none, 0, [], (Option.some.inj h1).symm, .leaf (by decide) (Nat.le_trans hz (by decide)) (by decide) (by decide) (by decide), rfl, S79.drop 2⟩⟩) (fun ch w' hB => .inr ⟨_, rfl, hB.sub (A := [_, _]) fun _ => id⟩))⟩
theorem pminus_P (h : pt (m + 1) .M L = some R) (hs : SmT L) (ihA : ∀ L R, SmT L → pt m .A L = some R → XPt f.query_parser_atom [] L R) (ihM : ∀ L R, SmT L → pt m .M L = some R → XPt f.query_parser_minus [] L R) : XPt f.query_parser_minus [] L R := by
  intro w0 w H b E S
  cases L with
  | nil => simp [pt] at h
  | cons t L =>
  rw [pt] at h
  have hL := hs.tail
  apply X.query_parser_minus_calls
  unfold X.query_parser_minus
  refine S.newB fun b2 w1 S1 => ?_
  by_cases hm : isB t qMinus = true
  · rw [if_pos hm] at h
    refine ptakeY S1 hm fun w2 S2 => .inl ⟨_, rfl, IFB_not (IFB_true ?_)⟩
    cases L with
    | nil => cases h
    | cons u L =>
      rw [negM] at h
      have hu := hL u (by simp)
      refine (pnext_ok S2).mono ?_
      rintro _ w10 ⟨_, rfl, rfl, S10⟩
      refine .inl ⟨_, _, _, rfl, IFB_eq (fun h2 => (pskip_ok S10).mono ?_) (fun h2 => ?_)⟩
      · rintro _ w11 ⟨_, rfl, rfl, S11⟩
        rw [if_pos h2] at h
        have hp := plain_size u.2.2
        refine .inl ⟨_, _, _, rfl, call0 (pplain_ok _) (.inl ⟨_, rfl, ?_⟩)⟩
        rw [bytesEq_iff]
        refine IFB_not (IFB_dec (fun h0 => ?_) (fun h0 => ⟨?_, ?_⟩))
        · rw [negX, if_pos h0] at h
          exact S11.call (pconst_ok (E.grown S11.bel) _ (by decide)) fun w9 S9 => .inl ⟨_, _, _, _, _, _, _, _, rfl, S9.stEx 0 rfl fun w15 S15 => ⟨_, _, none, 0, [], (Option.some.inj h).symm, cstX_xk _, rfl, S15.drop 1⟩⟩
        · have e : (ByteArray.size ⟨#[45]⟩) = 1 := rfl
          omega
        · rw [negX, if_neg h0] at h
          exact S11.call (pconst_ok (E.grown S11.bel) _ (neg_size hp hu)) fun w9 S9 => .inl ⟨_, _, _, _, _, _, _, _, rfl, S9.stEx 0 rfl fun w15 S15 => ⟨_, _, none, 0, [], (Option.some.inj h).symm, cstX_xk _, rfl, S15.drop 1⟩⟩
      · rw [if_neg h2] at h
        refine XPt.go (ihM _ · hL) h E S10 (fun x L1 a cap K w27 hx h3 hK S27 => .inl ⟨_, _, _, _, _, _, _, _, rfl, ?_⟩) (fun ch w' hB => .inr ⟨_, rfl, hB.sub (A := [_]) fun _ => id⟩)
        have S27 := PS.front [zex b2] S27
        refine S27.newB fun b68 w28 S28 => S28.stEx 1 rfl fun w34 S34 => ⟨_, _, some ⟨b68, 0, none⟩, 1, It.cells b68 ⟨exHead x a cap⟩ ty.api_Expr :: K, (Option.some.inj h3).symm, .one b68 (by decide) hK, rfl, ?_⟩
        exact S34.sub (.cons_cons _ (.cons _ (.refl _)))
  · rw [if_neg hm] at h
    refine ptakeN S1 (by simpa using hm) fun w2 S2 => .inl ⟨_, rfl, IFB_not (IFB_false ((ihA _ _ hs h E S2).mono ?_))⟩
    rintro _ w3 (⟨_, rfl, x, L', a, cap, K, hR, hK, rfl, S3⟩ | ⟨ch, rfl, hB⟩)
    · exact .inl ⟨_, _, _, _, _, _, _, _, rfl, (PS.front [zex b2] S3).stEx 0 rfl fun w9 S9 => ⟨_, _, a, cap, K, hR, hK, rfl, S9.drop 1⟩⟩
    · exact .inr ⟨_, rfl, hB.sub (A := [_]) fun _ => id⟩
def frontM (m : Nat) (lv : Int) : List Tk → Option (RS (Ex × Int))
  | [] => none
  | t :: L => if lv ≤ 3 ∧ isB t qNot = true then bindR (pt m (.E 3) L) fun k L' => some (.ok (.mk 14 E0 V0 [k], 3) L') else bindR (pt m .M (t :: L)) fun x L' => some (.ok (x, 9) L')
theorem bind_assoc {α β γ : Type} (r : Option (RS α)) (k : α → List Tk → Option (RS β)) (m : β → List Tk → Option (RS γ)) : bindR (bindR r k) m = bindR r fun x L => bindR (k x L) m := by
  match r with
  | none => rfl
  | some (.bad a) => rfl
  | some (.ok x L) => rfl
theorem pt_front (m : Nat) (lv : Int) (L : List Tk) : pt (m + 1) (.E lv) L = bindR (frontM m lv L) fun xo L' => pt m (.L lv xo.1 xo.2) L' := by
  cases L with
  | nil => simp [pt, frontM, bindR]
  | cons t L =>
    rw [pt, frontM]
    split
    · rw [bind_assoc]; rfl
    · rw [bind_assoc]; rfl
theorem front_suf {lv : Int} {R : RS (Ex × Int)} (h : frontM m lv L = some R) : SufR 1 L R := by
  cases L with
  | nil => cases h
  | cons t L =>
    rw [frontM] at h
    split at h
    · exact (suf_bind (pt_suf _ (.E 3) _) (fun x L' R h => suf_ok h) h).cons.le (by omega)
    · exact suf_bind (n := 1) (m := 0) (pt_suf _ .M _) (fun x L' R h => suf_ok h) h
def FP (lv : Int) (L : List Tk) (R : RS (Ex × Int)) : Prop :=
  ∀ {w0 w : World} {H : List It} {b : Nat}, Env2 w0 → PS w0 w b L H → Calls Tryz.prog f.query_parser_front #[.pointer (some ⟨b, 0, none⟩), .int .i64 lv] w (RetP (fun r w' => ∃ x own L' a cap K, R = .ok (x, own) L' ∧ XK x a cap K ∧ r = .tuple #[.agg ⟨exHead x a cap⟩, .int .i64 own] ∧ PS w0 w' b L' (K ++ H)) (BadP w0 H R))
theorem pfront_P {lv : Int} {R : RS (Ex × Int)} (h : frontM m lv L = some R) (hs : SmT L) (ihM : ∀ L R, SmT L → pt m .M L = some R → XPt f.query_parser_minus [] L R) (ihE : ∀ L R, SmT L → pt m (.E 3) L = some R → XPt f.query_parser_expr [.int .i64 3] L R) : FP lv L R := by
  intro w0 w H b E S
  cases L with
  | nil => cases h
  | cons t L =>
  rw [frontM] at h
  apply X.query_parser_front_calls
  unfold X.query_parser_front
  have minus : ∀ {b3 : Nat} {w1 : World}, PS w0 w1 b (t :: L) (zex b3 :: H) → bindR (pt m .M (t :: L)) (fun x L' => some (.ok (x, (9 : Int)) L')) = some R → ∀ {Q : Ending → World → Prop}, (∀ x L' a cap K w2, R = .ok (x, 9) L' → XK x a cap K → PS w0 w2 b L' (zex b3 :: (K ++ H)) → Q (.returned (.agg ⟨exHead x a cap⟩)) w2) → (∀ ch w', BadP w0 H R ch w' → Q (.panicked ch) w') →
      Calls Tryz.prog f.query_parser_minus #[.pointer (some ⟨b, 0, none⟩)] w1 Q := fun {b3 w1} S1 h {Q} hk hb =>
    XPt.go (ihM _ · hs) h E S1 (fun x L' a cap K w2 hx h2 hK S2 => hk x L' a cap K w2 (Option.some.inj h2).symm hK (PS.front [zex b3] S2)) (fun ch w' hB => hb ch w' (hB.sub (A := [_]) fun _ => id))
  refine S.newB fun b3 w1 S1 => IFB_dec (fun h3 => ?_) (fun h3 => ?_)
  · by_cases hn : isB t qNot = true
    · rw [if_pos ⟨h3, hn⟩] at h
      refine ptakeY S1 hn fun w2 S2 => .inl ⟨_, rfl, IFB_true (XPt.go (ihE _ · hs.tail) h E S2 (fun x L' a cap K w3 hx h2 hK S3 => .inl ⟨_, _, _, _, _, _, _, _, rfl, ?_⟩) (fun ch w' hB => .inr ⟨_, rfl, hB.sub (A := [_]) fun _ => id⟩))⟩
      have S3 := PS.front [zex b3] S3
      refine S3.newB fun b13 w4 S4 => S4.stEx 1 rfl fun w10 S10 => ⟨_, _, _, some ⟨b13, 0, none⟩, 1, It.cells b13 ⟨exHead x a cap⟩ ty.api_Expr :: K, (Option.some.inj h2).symm, .one b13 (by decide) hK, rfl, ?_⟩
      exact S10.sub (.cons_cons _ (.cons _ (.refl _)))
    · rw [if_neg (by intro hh; exact hn hh.2)] at h
      exact ptakeN S1 (by simpa using hn) fun w2 S2 => .inl ⟨_, rfl, IFB_false (minus S2 h (fun x L' a cap K w3 hR hK S3 => .inl ⟨_, _, _, _, _, _, _, _, rfl, S3.stEx 0 rfl fun w9 S9 => ⟨_, _, _, a, cap, K, hR, hK, rfl, S9.drop 1⟩⟩) (fun ch w' hB => .inr ⟨_, rfl, hB⟩))⟩
  · rw [if_neg (by intro hh; exact h3 hh.1)] at h
    exact minus S1 h (fun x L' a cap K w3 hR hK S3 => .inl ⟨_, _, _, _, _, _, _, _, rfl, S3.stEx 0 rfl fun w9 S9 => ⟨_, _, _, a, cap, K, hR, hK, rfl, S9.drop 1⟩⟩) (fun ch w' hB => .inr ⟨_, rfl, hB⟩)
def psLen (b : Nat) (w : World) : Nat := match w.cell? ⟨b, 0, none⟩ with
  | some (.slice _ n _) => n
  | _ => 0
theorem PS.len {w0 w : World} {b : Nat} {H : List It} (S : PS w0 w b L H) : psLen b w = L.length := by
  obtain ⟨x, c, _, _, S⟩ := S
  rw [psLen, S.cell 0 rfl (i := 0) rfl]
  rfl
theorem powF_i64 (u : Tk) : i64 (powF u).2 := by
  unfold powF
  repeat' split
  all_goals decide
theorem lt_len {p L1 L2 : List Tk} {u : Tk} (e : L1 = p ++ L2) : L2.length < (u :: L1).length := by
  rw [e, List.length_cons, List.length_append]
  omega
theorem pexpr_P {lv : Int} (h : pt (m + 1) (.E lv) L = some R) (hs : SmT L) (ihM : ∀ L R, SmT L → pt m .M L = some R → XPt f.query_parser_minus [] L R) (ihE : ∀ g, g ≤ m → ∀ lv L R, SmT L → pt g (.E lv) L = some R → XPt f.query_parser_expr [.int .i64 lv] L R) : XPt f.query_parser_expr [.int .i64 lv] L R := by
  intro w0 w H b E S
  rw [pt_front] at h
  apply X.query_parser_expr_calls
  unfold X.query_parser_expr
  refine S.newB fun b3 w1 S1 => ?_
  rcases bindR_open h with ⟨a, hf, rfl⟩ | ⟨xo, L1, hf, h⟩
  · refine (pfront_P hf hs ihM (ihE m (Nat.le_refl _) 3) E S1).mono ?_
    rintro _ w2 (⟨_, rfl, x, own, L', a, cap, K, hR, _⟩ | ⟨ch, rfl, hB⟩)
    · cases hR
    · obtain ⟨a', ha, h2, h3⟩ := hB
      cases ha
      exact .inr ⟨_, rfl, _, rfl, h2, h3.drop 1⟩
  refine (pfront_P hf hs ihM (ihE m (Nat.le_refl _) 3) E S1).mono ?_
  rintro _ w2 (⟨_, rfl, x, own, L', a, cap, K, hR, hK, rfl, S2⟩ | ⟨ch, rfl, a, ha, _⟩)
  rotate_left
  · cases ha
  have hs1 : SmT L1 := hs.suf (front_suf hf)
  cases hR
  simp only at h
  refine .inl ⟨_, _, _, _, _, _, _, _, _, rfl, (PS.front [zex b3] S2).lit6 fun b12 w9 S9 => ?_⟩
  have S9 : PS w0 w9 b L1 (exI b12 (exHead x a cap) :: zex b3 :: (K ++ H)) := S9
  refine ⟨fun st w => ∃ (own : Int) (g : Nat) (x : Ex) (L1 : List Tk) (a : Option Addr) (cap : Nat) (K : List It), st = [.int .i64 own] ∧ g ≤ m ∧ pt g (.L lv x own) L1 = some R ∧ XK x a cap K ∧ SmT L1 ∧ PS w0 w b L1 (exI b12 (exHead x a cap) :: zex b3 :: (K ++ H)), fun _ w => psLen b w, ⟨own, m, x, L1, a, cap, K, rfl, Nat.le_refl _, h, hK, hs1, S9⟩, ?_⟩
  clear h hK hs1 S9 hf S2
  rintro own w10 ⟨own', g, x, L1, a, cap, K, hst, hg, h, hK, hs1, S10⟩
  obtain rfl : own = own' := by simpa using hst
  cases g with
  | zero => simp [pt] at h
  | succ g =>
  cases L1 with
  | nil => simp [pt] at h
  | cons u L1 =>
  rw [pt] at h
  have hlen := S10.len
  have stop : ∀ {w : World}, R = .ok x (u :: L1) → PS w0 w b (u :: L1) (exI b12 (exHead x a cap) :: zex b3 :: (K ++ H)) → ∀ w', PS w0 w' b (u :: L1) (exI b12 (exHead x a cap) :: It.cells b3 ⟨exHead x a cap⟩ ty.api_Expr :: (K ++ H)) → ∃ y M a' cap' K', R = .ok y M ∧ XK y a' cap' K' ∧ Value.agg ⟨exHead x a cap⟩ = .agg ⟨exHead y a' cap'⟩ ∧ PS w0 w' b M (K' ++ H) :=
    fun hR _ w' S' => ⟨x, u :: L1, a, cap, K, hR, hK, rfl, S'.drop 2⟩
  refine (pis_ok S10 _).mono ?_
  rintro _ w11 ⟨_, rfl, rfl, S11⟩
  refine .inl ⟨_, rfl, IFB_of (fun hi => ?_) (fun hi => ?_)⟩
  · rw [if_pos hi] at h
    refine IFB_dec (fun h4 => ?_) (fun h4 => IFB_dec (fun h5 => ?_) (fun h5 => ?_))
    · rw [if_pos (.inl h4)] at h
      exact S11.stX 0 rfl (S11.stEx 1 rfl fun w40 S40 => stop (Option.some.inj h).symm S11 _ S40)
    · rw [if_pos (.inr h5)] at h
      exact S11.stX 0 rfl (S11.stEx 1 rfl fun w40 S40 => stop (Option.some.inj h).symm S11 _ S40)
    · rw [if_neg (by omega)] at h
      refine S11.newB fun b42 w24 S24 => pneed2 hi h S24 (fun L2 w25 hL2 h2 S25 => .inl ⟨rfl, S25.stX 0 rfl (S25.newB fun b50 w26 S26 => S26.sto6 1 rfl fun w32 S32 => ?_)⟩) (fun ch w' hB => .inr ⟨_, rfl, hB.sub (A := _ :: _ :: K) fun _ => id⟩)
      have hl2 := S32.len
      refine ⟨⟨4, g, .mk 15 E0 V0 [x], L2, some ⟨b50, 0, none⟩, 1, It.cells b50 ⟨exHead x a cap⟩ ty.api_Expr :: K, rfl, by omega, h2, .one b50 (by decide) hK, hs1.tail.suf hL2, (S32.perm (List.Perm.swap _ _ _)).perm (List.Perm.cons _ (List.Perm.swap _ _ _))⟩, ?_⟩
      obtain ⟨p, e, hp⟩ := hL2 () L2 rfl
      show psLen b w32 < psLen b w10
      rw [hl2, hlen]
      exact lt_len e
  · rw [if_neg (by rw [hi]; decide)] at h
    refine (pnext_ok S11).mono ?_
    rintro _ w33 ⟨_, rfl, rfl, S33⟩
    refine .inl ⟨_, _, _, rfl, S33.call (ppower_ok u) fun w34 S34 => .inl ⟨_, _, rfl, fun _ w => ¬ ((powF u).1 < lv ∨ (powF u).1 = 0 ∨ own < (powF u).1 ∨ ((powF u).1 = 5 ∧ own = 5)) ∧ PS w0 w b (u :: L1) (exI b12 (exHead x a cap) :: zex b3 :: (K ++ H)), ?_, ?_⟩⟩
    · have fin : ((powF u).1 < lv ∨ (powF u).1 = 0 ∨ own < (powF u).1 ∨ ((powF u).1 = 5 ∧ own = 5)) → R = .ok x (u :: L1) := fun hc => by
        rw [if_pos hc] at h
        exact (Option.some.inj h).symm
      refine IFB_dec (fun c1 => S34.stX 0 rfl (S34.stEx 1 rfl fun w40 S40 => stop (fin (.inl c1)) S34 _ S40)) (fun c1 => IFB_eq (fun c2 => S34.stX 0 rfl (S34.stEx 1 rfl fun w40 S40 => stop (fin (.inr (.inl c2))) S34 _ S40)) (fun c2 => IFB_dec (fun c3 => S34.stX 0 rfl (S34.stEx 1 rfl fun w40 S40 => stop (fin (.inr (.inr (.inl c3)))) S34 _ S40)) (fun c3 => IFB_eq (fun c4 => IFB_eq (fun c5 => S34.stX 0 rfl (S34.stEx 1 rfl fun w40 S40 => stop (fin (.inr (.inr (.inr ⟨c4, c5⟩)))) S34 _ S40)) (fun c5 => ⟨by omega, S34⟩)) (fun c4 => ⟨by omega, S34⟩))))
    rintro w59 ⟨hc, S59⟩
    rw [if_neg hc] at h
    have hp := powF_tab u
    have hm : IntKind.i64.wrap ((powF u).1 + 1) = (powF u).1 + 1 := wrap_i64 (by omega) (by omega)
    refine (pskip_ok S59).mono ?_
    rintro _ w60 ⟨_, rfl, rfl, S60⟩
    refine .inl ⟨_, _, _, rfl, S60.draw fun w61 S61 => S61.stX 0 rfl ?_⟩
    rw [hm]
    refine XPt.go (ihE g (by omega) _ _ · hs1.tail) h E S61 (fun y L2 a1 c1 K1 w62 hy h2 hKy S62 => .inl ⟨_, _, _, _, _, _, _, _, rfl, ?_⟩) (fun ch w' hB => .inr ⟨_, rfl, hB.sub (A := _ :: _ :: K) fun _ => id⟩)
    have S62 : PS w0 w62 b L2 (exI b12 (exHead x a cap) :: zex b3 :: (K1 ++ (K ++ H))) := PS.front [exI b12 (exHead x a cap), zex b3] S62
    refine ⟨⟨S62.cell 0 rfl rfl, S62.cell 0 rfl rfl, S62.cell 0 rfl rfl, S62.cell 0 rfl rfl, S62.cell 0 rfl rfl, S62.cell 0 rfl rfl⟩, S62.newB fun k w63 S63 => S63.sto6 1 rfl fun w69 S69 => ?_⟩
    have hl2 := S69.len
    have hop := powF_i64 u
    rw [← List.append_assoc] at S69
    refine ⟨⟨(powF u).1, g, .mk (powF u).2 E0 V0 [x, y], L2, some ⟨k, 0, none⟩, 2, It.cells k ⟨exHead x a cap ++ exHead y a1 c1⟩ ty.api_Expr :: (K1 ++ K), rfl, by omega, h2, .two k hop hK hKy, hs1.tail.suf (pt_suf _ _ _ _ hy), (S69.perm (List.Perm.swap _ _ _)).perm (List.Perm.cons _ (List.Perm.swap _ _ _))⟩, ?_⟩
    obtain ⟨p, e, hp⟩ := pt_suf _ _ _ _ hy y L2 rfl
    show psLen b w69 < psLen b w10
    rw [hl2, hlen]
    exact lt_len e
end
theorem expr_P : ∀ m : Nat, (∀ L R, SmT L → pt m .A L = some R → XPt f.query_parser_atom [] L R) ∧ (∀ L R, SmT L → pt m .M L = some R → XPt f.query_parser_minus [] L R) ∧ ∀ lv L R, SmT L → pt m (.E lv) L = some R → XPt f.query_parser_expr [.int .i64 lv] L R := by
  intro m
  induction m using Nat.strongRecOn with
  | _ m ih =>
    cases m with
    | zero => exact ⟨fun L R _ h => by simp [pt] at h, fun L R _ h => by simp [pt] at h, fun lv L R _ h => by simp [pt] at h⟩
    | succ m =>
      obtain ⟨iA, iM, iE⟩ := ih m (by omega)
      exact ⟨fun L R hs h => patom_P h hs (iE 1), fun L R hs h => pminus_P h hs iA iM, fun lv L R hs h => pexpr_P h hs iM fun g hg => (ih g (by omega)).2.2⟩
theorem pexpr_ok {m : Nat} {lv : Int} {L : List Tk} {R : RS Ex} (hs : SmT L) (h : pt m (.E lv) L = some R) : XPt f.query_parser_expr [.int .i64 lv] L R := (expr_P m).2.2 lv L R hs h
section
variable {w : World}
theorem pgath_ok (E : Env w) (s : ByteArray) : Calls Tryz.prog f.query_gathering #[.string s] w (Ret fun r w' => r = .int .i64 (gatB s) ∧ w' = w) := by
  apply R.query_gathering_calls
  unfold R.query_gathering
  have n2 : (⟨#[99, 111, 117, 110, 116]⟩ : ByteArray) ≠ ⟨#[115, 117, 109]⟩ := by decide
  refine ⟨_, gat_at E (j := 0) rfl, _, gat_at E (j := 1) rfl, _, gat_at E (j := 2) rfl, _, gat_at E (j := 3) rfl, _, gat_at E (j := 4) rfl, _, gat_at E (j := 5) rfl, forUp 6 (fun j w' => ((2 < j → s ≠ ⟨#[99, 111, 117, 110, 116]⟩) ∧ (3 < j → s ≠ ⟨#[115, 117, 109]⟩) ∧ (4 < j → s ≠ ⟨#[109, 105, 110]⟩) ∧ (5 < j → s ≠ ⟨#[109, 97, 120]⟩)) ∧ w' = w) (by omega) ⟨⟨by omega, by omega, by omega, by omega⟩, rfl⟩ fun I M j w1 hj h next => ?_⟩
  obtain ⟨⟨h2, h3, h4, h5⟩, rfl⟩ := h
  refine IFB_dec (fun hlt => ⟨⟨by omega, hlt⟩, ?_⟩) (fun hge => ⟨?_, rfl⟩)
  · have hj6 : j < 6 := by omega
    rcases (show j = 0 ∨ j = 1 ∨ j = 2 ∨ j = 3 ∨ j = 4 ∨ j = 5 by omega) with rfl | rfl | rfl | rfl | rfl | rfl
    · exact ⟨_, rfl, IFB_dec (fun h => absurd h (by decide)) (fun _ => next _ (by omega) ⟨⟨by omega, by omega, by omega, by omega⟩, rfl⟩)⟩
    · exact ⟨_, rfl, IFB_dec (fun h => absurd h (by decide)) (fun _ => next _ (by omega) ⟨⟨by omega, by omega, by omega, by omega⟩, rfl⟩)⟩
    · refine ⟨_, rfl, IFB_dec (fun _ => ?_) (fun h => absurd (by decide) h)⟩
      rw [bytesEq_iff]
      exact IFB_dec (fun h => ⟨by rw [gatB, if_pos h.symm]; rfl, rfl⟩) (fun h => next _ (by omega) ⟨⟨fun _ e => h e.symm, by omega, by omega, by omega⟩, rfl⟩)
    · have a2 := h2 (by omega)
      refine ⟨_, rfl, IFB_dec (fun _ => ?_) (fun h => absurd (by decide) h)⟩
      rw [bytesEq_iff]
      exact IFB_dec (fun h => ⟨by rw [gatB, if_neg a2, if_pos h.symm]; rfl, rfl⟩) (fun h => next _ (by omega) ⟨⟨fun _ => a2, fun _ e => h e.symm, by omega, by omega⟩, rfl⟩)
    · have a2 := h2 (by omega)
      have a3 := h3 (by omega)
      refine ⟨_, rfl, IFB_dec (fun _ => ?_) (fun h => absurd (by decide) h)⟩
      rw [bytesEq_iff]
      exact IFB_dec (fun h => ⟨by rw [gatB, if_neg a2, if_neg a3, if_pos h.symm]; rfl, rfl⟩) (fun h => next _ (by omega) ⟨⟨fun _ => a2, fun _ => a3, fun _ e => h e.symm, by omega⟩, rfl⟩)
    · have a2 := h2 (by omega)
      have a3 := h3 (by omega)
      have a4 := h4 (by omega)
      refine ⟨_, rfl, IFB_dec (fun _ => ?_) (fun h => absurd (by decide) h)⟩
      rw [bytesEq_iff]
      exact IFB_dec (fun h => ⟨by rw [gatB, if_neg a2, if_neg a3, if_neg a4, if_pos h.symm]; rfl, rfl⟩) (fun h => next _ (by omega) ⟨⟨fun _ => a2, fun _ => a3, fun _ => a4, fun _ e => h e.symm⟩, rfl⟩)
  · have e : j = 6 := by omega
    subst e
    rw [gatB, if_neg (h2 (by omega)), if_neg (h3 (by omega)), if_neg (h4 (by omega)), if_neg (h5 (by omega))]
theorem patoi_ok (E : Env2 w) (s : ByteArray) (hs : s.size ≤ 140737488351232) : Calls Tryz.prog f.strconv_Atoi #[.string s] w (fun e w' => Below w.heap.size w w' ∧
    ((∃ n, Lib.atoiAll (bl s) = .ok n ∧ e = .returned (.tuple #[.int .i64 n, .nilIface])) ∨ ((∀ n, Lib.atoiAll (bl s) ≠ .ok n) ∧ ∃ (n : Int) (t : TypeId) (p : Value), e = .returned (.tuple #[.int .i64 n, .iface t p])))) := by
  obtain ⟨h1, ⟨t, p, h2⟩, ⟨t', p', h3⟩⟩ := E
  have three : (∃ n, Lib.atoiAll s.data.toList = Lib.NumEnd.ok n) ∨ Lib.atoiAll s.data.toList = Lib.NumEnd.syntax ∨ Lib.atoiAll s.data.toList = Lib.NumEnd.range := by
    generalize Lib.atoiAll s.data.toList = q
    cases q
    · exact .inl ⟨_, rfl⟩
    · exact .inr (.inl rfl)
    · exact .inr (.inr rfl)
  rcases three with ⟨n, ho⟩ | ho | ho
  · refine (Tryz.strconv_Atoi_ok s (by omega) n ho w).mono ?_
    rintro e w' ⟨rfl, hw⟩
    refine ⟨?_, .inl ⟨n, ho, rfl⟩⟩
    rcases hw with rfl | ⟨tt, rfl⟩
    · exact .refl _ _
    · exact below_bytesWorld _ _ _
  · have no : ∀ n, Lib.atoiAll (bl s) ≠ .ok n := fun n hn => by have h : Lib.atoiAll (bl s) = _ := ho; rw [h] at hn; cases hn
    refine (Tryz.strconv_Atoi_syntax s (by omega) ho _ w h2 (.inr ⟨t, p, rfl⟩)).mono ?_
    rintro e w' ⟨N, rfl, _, _, hb⟩
    exact ⟨hb, .inr ⟨no, _, _, _, rfl⟩⟩
  · have no : ∀ n, Lib.atoiAll (bl s) ≠ .ok n := fun n hn => by have h : Lib.atoiAll (bl s) = _ := ho; rw [h] at hn; cases hn
    refine (Tryz.strconv_Atoi_range s (by omega) ho _ w h3 (.inr ⟨t', p', rfl⟩)).mono ?_
    rintro e w' ⟨N, rfl, _, _, hb⟩
    exact ⟨hb, .inr ⟨no, _, _, _, rfl⟩⟩
end
theorem atoi_range {l : List UInt8} {n : Int} (h : Lib.atoiAll l = .ok n) : i64 n := by
  unfold Lib.atoiAll at h
  split at h
  · cases h
  · simp only at h
    split at h
    · cases h
    · cases h
    · rename_i u hu
      split at h
      · cases h
      · split at h
        · cases h
        · have h := Lib.NumEnd.ok.inj h
          subst h
          unfold i64
          split <;> omega
theorem limV_range (s : ByteArray) : i64 (limV s) := by
  rw [limV]
  split
  · rename_i n h
    exact atoi_range h
  · decide
theorem plimit_P {L : List Tk} {R : RS Int} (h : limM L = some R) (hs : SmT L) {w0 w : World} {H : List It} {b : Nat} (E : Env2 w0) (S : PS w0 w b L H) :
    Calls Tryz.prog f.query_parser_limit #[.pointer (some ⟨b, 0, none⟩)] w (RetP (fun r w' => ∃ n L', R = .ok n L' ∧ i64 n ∧ r = .int .i64 n ∧ PS w0 w' b L' H) (BadP w0 H R)) := by
  cases L with
  | nil => cases h
  | cons t L =>
  rw [limM] at h
  have ht := hs t (by simp)
  have hp := plain_size t.2.2
  apply X.query_parser_limit_calls
  unfold X.query_parser_limit
  refine (pnext_ok S).mono ?_
  rintro _ w1 ⟨_, rfl, rfl, S1⟩
  refine .inl ⟨_, _, _, rfl, S1.lit3 fun b6 w5 S5 => ⟨_, S5.cell 0 rfl rfl, IFB_ne (fun h2 => ⟨_, S5.cell 0 rfl rfl, ?_⟩) (fun h2 => (pskip_ok S5).mono ?_)⟩⟩
  · rw [if_neg h2] at h
    exact ⟨_, (Option.some.inj h).symm, rfl, S5.st.drop 1⟩
  rintro _ w6 ⟨_, rfl, rfl, S6⟩
  rw [if_pos h2] at h
  refine .inl ⟨_, _, _, rfl, call0 (pplain_ok _) (.inl ⟨_, rfl, (patoi_ok (E.grown S6.bel) _ (by omega)).mono ?_⟩)⟩
  rintro _ w8 ⟨B8, ⟨n, hn, rfl⟩ | ⟨hno, n, ty, p, rfl⟩⟩
  · have e : limV t.2.2 = n := by rw [limV, hn]
    exact .inl ⟨_, _, rfl, iface_nil (IFB_not (IFB_true ⟨_, _, (Option.some.inj h).symm, limV_range _, by rw [e], (S6.grown B8).drop 1⟩))⟩
  · have e : limV t.2.2 = -2 := by
      rw [limV]
      split
      · rename_i m hm; exact absurd hm (hno m)
      · rfl
    exact .inl ⟨_, _, rfl, iface_some (IFB_not (IFB_false ⟨_, _, (Option.some.inj h).symm, limV_range _, by rw [e], (S6.grown B8).drop 1⟩))⟩
/-! ### an item -/
abbrev zI (b : Nat) : It := It.cells b #[.string E0, .int .i64 0, .int .i64 0, .string E0, .int .i64 0, .int .i64 0, .string E0, .slice none 0 0] ty.api_Item
def IP (L : List Tk) (R : RS Itm) : Prop :=
  ∀ {w0 w : World} {H : List It} {b : Nat}, Env2 w0 → PS w0 w b L H → Calls Tryz.prog f.query_parser_item #[.pointer (some ⟨b, 0, none⟩)] w (RetP (fun r w' => ∃ i L' a cap K, R = .ok i L' ∧ XK i.2.2 a cap K ∧ i.1.size ≤ maxLen ∧ i64 i.2.1 ∧ r = .agg ⟨itHead i a cap⟩ ∧ PS w0 w' b L' (K ++ H)) (BadP w0 H R))
theorem agg_i64 (t : Tk) : i64 (aggT t) := by
  unfold aggT gatB
  repeat' split
  all_goals decide
theorem pitem_P {m : Nat} {L : List Tk} {R : RS Itm} (h : itemM m L = some R) (hs : SmT L) : IP L R := by
  intro w0 w H b E S
  cases L with
  | nil => cases h
  | cons t L =>
  rw [itemM] at h
  apply X.query_parser_item_calls
  unfold X.query_parser_item
  refine S.newB fun b2 w1 S1 => S1.newB fun b3 w2 S2 => S2.sto8 0 rfl fun w10 S10 => ?_
  have S10 : PS w0 w10 b (t :: L) (zI b3 :: zI b2 :: H) := S10
  have hb2 : ∀ {α : Type} {R' : RS α} {ch : List PanicEntry} {w' : World} {A : List It}, BadP w0 (A ++ H) R' ch w' → (∀ a, R' = .bad a → R = .bad a) → BadP w0 H R ch w' := fun hB hR => hB.sub hR
  refine ⟨fun st w => st = [.int .i64 (aggT t)] ∧ PS w0 w b (t :: L) (zI b3 :: zI b2 :: H), (pnext_ok S10).mono ?_, ?_⟩
  · rintro _ w11 ⟨_, rfl, rfl, S11⟩
    refine .inl ⟨_, _, _, rfl, S11.lit3 fun b8 w15 S15 => ⟨_, S15.cell 0 rfl rfl, IFB_eq (fun h1 => ⟨_, S15.cell 0 rfl rfl, call0 (pgath_ok (E.env.grown S15.bel) _) (.inl ⟨_, rfl, by rw [aggT, if_pos h1], S15.drop 1⟩)⟩) (fun h1 => ⟨by rw [aggT, if_neg h1], S15.drop 1⟩)⟩⟩
  rintro agg w17 ⟨hst, S17⟩
  obtain rfl : agg = aggT t := by simpa using hst
  refine ⟨fun _ w => ∃ a' x' L' a cap K, tailT a' x' L' = some R ∧ SmT L' ∧ i64 a' ∧ XK x' a cap K ∧ PS w0 w b L' (itI b3 (E0, a', x') a cap :: zI b2 :: (K ++ H)), IFB_eq (fun h0 => ?_) (fun h0 => ?_), ?_⟩
  · rw [if_pos h0] at h
    exact XPt.go (fun _ => pexpr_ok hs) h E S17 (fun x L' a cap K w18 hx h2 hK S18 => .inl ⟨_, _, _, _, _, _, _, _, rfl, (PS.front [zI b3, zI b2] S18).stIx6 0 rfl fun w24 S24 => ⟨0, x, L', a, cap, K, h2, hs.suf (pt_suf _ _ _ _ hx), by decide, hK, S24⟩⟩) (fun ch w' hB => .inr ⟨_, rfl, hB.sub (A := [_, _]) fun _ => id⟩)
  · rw [if_neg h0] at h
    refine (pskip_ok S17).mono ?_
    rintro _ w25 ⟨_, rfl, rfl, S25⟩
    refine .inl ⟨_, _, _, rfl, S25.newB fun b30 w26 S26 => pneed1 h S26 (fun L1 w27 hL1 h1 S27 => .inl ⟨rfl, S27.sto 0 rfl (i := 1) (cs' := #[.string E0, .int .i64 (aggT t), .int .i64 0, .string E0, .int .i64 0, .int .i64 0, .string E0, .slice none 0 0]) (by show 1 < 8; omega) rfl fun w28 S28 => ?_⟩) (fun ch w' hB => .inr ⟨_, rfl, hB.sub (A := [_, _]) fun _ => id⟩)⟩
    have hs1 : SmT L1 := hs.tail.suf hL1
    have S28 : PS w0 w28 b L1 (itI b3 (E0, aggT t, zeroX) none 0 :: zI b2 :: H) := S28
    have expr : ∀ {w : World} {Q : Ending → World → Prop} (hh : bindR (bindR (pt m (.E 1) L1) fun x L' => some (.ok (aggT t, x) L')) (fun ax L2 => needT qClose (fun L3 => tailT ax.1 ax.2 L3) L2) = some R) (S : PS w0 w b L1 (itI b3 (E0, aggT t, zeroX) none 0 :: zI b2 :: H))
        (hk : ∀ x L' a cap K w', SmT L' → needT qClose (fun L3 => tailT (aggT t) x L3) L' = some R → XK x a cap K → PS w0 w' b L' (itI b3 (E0, aggT t, zeroX) none 0 :: zI b2 :: (K ++ H)) → Q (.returned (.agg ⟨exHead x a cap⟩)) w') (hb : ∀ ch w', BadP w0 H R ch w' → Q (.panicked ch) w'),
        Calls Tryz.prog f.query_parser_expr #[.pointer (some ⟨b, 0, none⟩), .int .i64 1] w Q := fun {w Q} hh S hk hb => by
      rw [bind_assoc] at hh
      exact XPt.go (fun _ => pexpr_ok hs1) hh E S (fun x L' a cap K w' hx h2 hK S' => hk x L' a cap K w' (hs1.suf (pt_suf _ _ _ _ hx)) h2 hK (PS.front [itI b3 (E0, aggT t, zeroX) none 0, zI b2] S')) (fun ch w' hB => hb ch w' (hB.sub (A := [_, _]) fun _ => id))
    have close : ∀ {x : Ex} {L' : List Tk} {a : Option Addr} {cap : Nat} {K : List It} {w : World} {b' : Nat} {Q : Ending → World → Prop} (hs' : SmT L') (h2 : needT qClose (fun L3 => tailT (aggT t) x L3) L' = some R) (hK : XK x a cap K) (S : PS w0 w b L' (It.cells b' #[.string ⟨#[41]⟩] ty.string :: itI b3 (E0, aggT t, x) a cap :: zI b2 :: (K ++ H)))
        (hk : ∀ w', (∃ a' x' L' a cap K, tailT a' x' L' = some R ∧ SmT L' ∧ i64 a' ∧ XK x' a cap K ∧ PS w0 w' b L' (itI b3 (E0, a', x') a cap :: zI b2 :: (K ++ H))) → Q (.returned (.tuple #[])) w') (hb : ∀ ch w', BadP w0 H R ch w' → Q (.panicked ch) w'),
        Calls Tryz.prog f.query_parser_need #[.pointer (some ⟨b, 0, none⟩), .slice (some ⟨b', 0, none⟩) 1 1] w Q := fun {x L' a cap K w b' Q} hs' h2 hK S hk hb =>
      pneed1 h2 S (fun L3 w3 hL3 h3 S3 => hk w3 ⟨aggT t, x, L3, a, cap, K, h3, hs'.suf hL3, agg_i64 t, hK, S3⟩) (fun ch w' hB => hb ch w' (hB.sub (A := _ :: _ :: K) fun _ => id))
    refine IFB_eq (fun h2 => ?_) (fun h2 => ?_)
    · cases L1 with
      | nil => cases h1
      | cons u L1 =>
        rw [starT] at h1
        by_cases hst : isB u qStar = true
        · rw [if_pos ⟨h2, hst⟩] at h1
          have hs2 := hs1.tail
          refine ptakeY S28 hst fun w29 S29 => .inl ⟨_, rfl, IFB_true (S29.sto 0 rfl (i := 1) (cs' := #[.string E0, .int .i64 1, .int .i64 0, .string E0, .int .i64 0, .int .i64 0, .string E0, .slice none 0 0]) (by show 1 < 8; omega) rfl fun w30 S30 => S30.newB fun b35 w31 S31 => pneed1 (k := fun L3 => tailT 1 zeroX L3) h1 S31 (fun L3 w32 hL3 h3 S32 => .inl ⟨rfl, 1, zeroX, L3, none, 0, [], h3, hs2.suf hL3, by decide, .leaf (by decide) (by decide) (by decide) (by decide) (by decide), S32⟩) (fun ch w' hB => .inr ⟨_, rfl, hB.sub (A := [_, _]) fun _ => id⟩))⟩
        · rw [if_neg (by intro hh; exact hst hh.2)] at h1
          exact ptakeN S28 (by simpa using hst) fun w29 S29 => .inl ⟨_, rfl, IFB_false (expr h1 S29 (fun x L' a cap K w33 hs' h3 hK S33 => .inl ⟨_, _, _, _, _, _, _, _, rfl, S33.stIx6 0 rfl fun w39 S39 => S39.newB fun b45 w40 S40 => close hs' h3 hK S40 (fun w41 hy => .inl ⟨rfl, hy⟩) (fun ch w' hB => .inr ⟨_, rfl, hB⟩)⟩) (fun ch w' hB => .inr ⟨_, rfl, hB⟩))⟩
    · cases L1 with
      | nil => cases h1
      | cons u L1 =>
        rw [starT, if_neg (by intro hh; exact h2 hh.1)] at h1
        exact expr h1 S28 (fun x L' a cap K w33 hs' h3 hK S33 => .inl ⟨_, _, _, _, _, _, _, _, rfl, S33.stIx6 0 rfl fun w39 S39 => S39.newB fun b45 w40 S40 => close hs' h3 hK S40 (fun w41 hy => .inl ⟨rfl, hy⟩) (fun ch w' hB => .inr ⟨_, rfl, hB⟩)⟩) (fun ch w' hB => .inr ⟨_, rfl, hB⟩)
  rintro w51 ⟨a', x', L', a, cap, K, h3, hs', ha', hK, S51⟩
  refine S51.newB fun b62 w52 S52 => pneed1 h3 S52 (fun L2 w53 hL2 h4 S53 => .inl ⟨rfl, pname1 E.env (hs'.suf hL2) h4 S53 (fun s L3 w54 _ hz h5 S54 => .inl ⟨_, rfl, S54.sto 0 rfl (cs' := ⟨itHead (s, a', x') a cap⟩) (by show 0 < 8; omega) rfl fun w55 S55 => ?_⟩) (fun ch w' hB => .inr ⟨_, rfl, hB.sub (A := _ :: _ :: K) fun _ => id⟩)⟩) (fun ch w' hB => .inr ⟨_, rfl, hB.sub (A := _ :: _ :: K) fun _ => id⟩)
  have S55 : PS w0 w55 b L3 (itI b3 (s, a', x') a cap :: zI b2 :: (K ++ H)) := S55
  exact S55.stI 0 rfl (S55.stItm 1 rfl fun w63 S63 => ⟨_, _, a, cap, K, (Option.some.inj h5).symm, hK, Nat.le_trans hz (by decide), ha', rfl, S63.drop 2⟩)
end Go.Proofs.YtbpdfpfgijhokaaGreatDoor
