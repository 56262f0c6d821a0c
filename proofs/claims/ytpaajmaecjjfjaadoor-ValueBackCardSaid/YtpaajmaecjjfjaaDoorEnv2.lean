/-
  The two sentinel errors out of the laid list.
-/
import Derived.Test.YtpaajmaecjjfjaaDoorEnv
import Derived.Test.YtpaajmaecjjfjaaDoorParse
namespace Go.Proofs.YtpaajmaecjjfjaaDoor
open Go.Dn Go.Proofs
set_option linter.unusedVariables false
set_option maxRecDepth 20000

theorem iface_of_laid {P : Program} {W : World} {g : Nat} {ms : Array (String × TypeId)} {nm : String} {d : DataW Unit} {n : String} {r : List (String × DataW Unit)}
    (hg : P.globalNamed n = some g) (hu : ((P.globals[g]?).map (·.type)).bind (fun t => P.underlying t) = some (.interface ms)) (h : laidMet P ((n, .iface nm d) :: r) W) : ∃ t p, W.cell? ⟨g, 0, none⟩ = some (.iface t p) := by
  obtain ⟨ps, ⟨g', t, cs, fuel, p, q, h1, h2, h3, h4, h5, _⟩, _⟩ := h
  obtain rfl := Option.some.inj (hg.symm.trans h1)
  rw [h2] at hu
  replace hu : P.underlying t = some (.interface ms) := hu
  cases fuel with
  | zero => cases h4
  | succ fuel =>
    unfold DataW.trod at h4
    rw [hu] at h4
    have hc := World.var?_cell hg h3 0
    generalize hl : cs.toList = l at h4
    match l, h4 with
    | [.nilIface], h4 => cases h4
    | [.iface u v], h4 =>
      refine ⟨u, v, ?_⟩
      rw [hc]
      have : cs[0]? = cs.toList[0]? := by simp
      rw [this, hl]
      rfl
theorem env2_of {W : World} {l : List (String × DataW Unit)} (hs : (l.filter fun x => x.1 == "strconv.ErrSyntax") = [("strconv.ErrSyntax", Rows.laid_strconv_ErrSyntax)]) (hr : (l.filter fun x => x.1 == "strconv.ErrRange") = [("strconv.ErrRange", Rows.laid_strconv_ErrRange)]) (h : laidMet Tryd.prog l W) (he : Env W) : Env2 W := by
  have h1 := h.filter fun x => x.1 == "strconv.ErrSyntax"
  have h2 := h.filter fun x => x.1 == "strconv.ErrRange"
  rw [hs] at h1
  rw [hr] at h2
  exact ⟨he, iface_of_laid (ms := #[("Error", 93)]) (by kernel_rfl) (by kernel_rfl) h1, iface_of_laid (ms := #[("Error", 93)]) (by kernel_rfl) (by kernel_rfl) h2⟩
end Go.Proofs.YtpaajmaecjjfjaaDoor
