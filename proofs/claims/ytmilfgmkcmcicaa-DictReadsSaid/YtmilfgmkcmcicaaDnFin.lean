/-
  Small bridges for a law's last text.
-/
import Derived.Test.YtmilfgmkcmcicaaDnNums
import GoSem.Claim
namespace Go.Dn
theorem u8_of {a : Int} (h : (Lit.int .u8 a).wf = true) : ∃ c : UInt8, a = (c.toNat : Int) := by
  have hx : 0 ≤ a ∧ a ≤ 255 := by simpa [Lit.wf, IntKind.min, IntKind.max, IntKind.signed, IntKind.bits] using h
  refine ⟨UInt8.ofNat a.toNat, ?_⟩
  simp
  omega
end Go.Dn
