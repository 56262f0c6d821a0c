/-
  What the listed variables hold; an argument that is a value.
-/
import Derived.Test.YtpaajmaecjjfjaaDoorShow
import Derived.Test.YtpaajmaecjjfjaaDoorDnFin2
import Derived.Test.YtpaajmaecjjfjaaDoorRows
namespace Go.Proofs.YtpaajmaecjjfjaaDoor
open Go.Dn Go.Proofs
open Go.RowKit (Below)
set_option linter.unusedVariables false
set_option maxRecDepth 20000

theorem pow_of {W : World} {l : List (String × DataW Unit)} (hf : (l.filter fun x => x.1 == "internal/strconv.uint64pow10") = [("internal/strconv.uint64pow10", Rows.laid_internal_strconv_uint64pow10)]) (h : laidMet Tryd.prog l W) :
    Lib.TabIs Tryd.prog W "internal/strconv.uint64pow10" .u64 Lib.pow10Tab := by
  have h1 := h.filter fun x => x.1 == "internal/strconv.uint64pow10"
  rw [hf] at h1
  have hg : Tryd.prog.globalNamed "internal/strconv.uint64pow10" = some 1 := by kernel_rfl
  have hty : ((Tryd.prog.globals[1]?).map (·.type)).bind (fun t => Tryd.prog.underlying t) = some (.array 20 ty.uint64) := by kernel_rfl
  cases ht : (Tryd.prog.globals[1]?).map (·.type) with
  | none => rw [ht] at hty; cases hty
  | some t =>
    rw [ht] at hty
    have hct : Tryd.prog.cellsOf t = 20 := by
      have : ((Tryd.prog.globals[1]?).map (·.type)).map (fun t => Tryd.prog.cellsOf t) = some 20 := by kernel_rfl
      rw [ht] at this
      simpa using this
    exact Lib.tabIs_of_head hg ht hty (show Tryd.prog.underlying ty.uint64 = some (.int .u64) by kernel_rfl) (show Tryd.prog.cellsOf ty.uint64 = 1 by kernel_rfl) hct h1
theorem max_of {W : World} (h : W.ShapedOpen Tryd.prog) : ∃ m, W.cell? ⟨0, 0, none⟩ = some (.int .i64 m) :=
  cell_of_shapedOpen_int (zero := #[.int .i64 0]) (t := ty.int) h (of_decide_eq_true (by kernel_rfl)) (by kernel_rfl) rfl (by kernel_rfl) (by kernel_rfl) (by kernel_rfl)

def valC (v : Val) : List Value := [.int .i64 v.1, .int .i64 v.2.1, .string v.2.2]
def valQ (v : Val) : Prop := ValOk v ∧ v.2.2.size ≤ maxLen
theorem cells_int : Tryd.prog.cellsOf ty.int = 1 := by kernel_rfl
theorem cells_int64 : Tryd.prog.cellsOf ty.int64 = 1 := by kernel_rfl
theorem cells_str : Tryd.prog.cellsOf ty.string = 1 := by kernel_rfl
theorem und_val : fieldsT Tryd.prog ty.api_Value = some [(ty.int, 0), (ty.int64, 1), (ty.string, 2)] := by kernel_rfl
theorem und_int : Tryd.prog.underlying ty.int = some (.int .i64) := by kernel_rfl
theorem und_int64 : Tryd.prog.underlying ty.int64 = some (.int .i64) := by kernel_rfl
theorem und_str : Tryd.prog.underlying ty.string = some .string := by kernel_rfl
theorem cells_val : Tryd.prog.cellsOf ty.api_Value = 3 := by kernel_rfl
theorem good_api_Value {w : World} : ∀ m r, r.length = Tryd.prog.cellsOf ty.api_Value → Go.Dn.Good Tryd.prog w m ty.api_Value r → ∃ x, r = valC x ∧ valQ x := by
  intro m r hl h
  obtain ⟨_, n, hf⟩ := h.fields und_val
  rw [cells_val] at hl
  match r, hl with
  | [v0, v1, v2], _ =>
    simp only [List.mem_cons, List.not_mem_nil, or_false, forall_eq_or_imp, forall_eq, cells_int, cells_int64, cells_str] at hf
    obtain ⟨h0, h1, h2⟩ := hf
    obtain ⟨x0, e0, _⟩ := h0.int und_int
    obtain ⟨x1, e1, q1⟩ := h1.int und_int64
    obtain ⟨x2, e2, q2⟩ := h2.str und_str
    have q1' : -9223372036854775808 ≤ x1 ∧ x1 ≤ 9223372036854775807 := by simpa [Lit.wf, IntKind.min, IntKind.max, IntKind.signed, IntKind.bits] using q1
    refine ⟨(x0, x1, x2), ?_, ⟨q1'.1, q1'.2⟩, q2⟩
    simp at e0 e1 e2
    simp [valC, e0, e1, e2]
theorem open_val {H : Type} {enc : TypeId × Value → H} {W : World} {base b : Nat} {sp : Nat → Bool} {held : Bool} {v : Value} {d : DataW H} {p : List MemPlace} (hv : Value.okWide Tryd.prog W .any base ty.api_Value v) (h : DataW.Trod enc Tryd.prog W b sp held ty.api_Value v d p) :
    ∃ x : Val, v = valV x ∧ valQ x := by
  obtain ⟨cs, rfl⟩ := okWide_agg und_val hv
  obtain ⟨n, hn⟩ := h
  have hg := good_of_trod n _ _ _ hn
  obtain ⟨x, hx, hq⟩ := good_api_Value n _ (hg.fields und_val).1 hg
  refine ⟨x, ?_, hq⟩
  have : cs = ⟨valC x⟩ := by
    have h2 : cs.toList = valC x := hx
    rw [← h2]
  rw [this]
  rfl
end Go.Proofs.YtpaajmaecjjfjaaDoor
