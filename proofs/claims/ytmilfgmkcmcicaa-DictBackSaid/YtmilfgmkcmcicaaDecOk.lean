/-
  DictReads and DictBack, as their rows ask.
-/
import Derived.Test.YtmilfgmkcmcicaaDec
import Derived.Test.YtmilfgmkcmcicaaDnOpen
namespace Go.Proofs.Ytmilfgmkcmcicaa
open Go.Dn Go.Proofs
open Go.RowKit (Below)
theorem bytes_arg {w : World} {a : Option Addr} {xs : List Int} {c : Nat} (g : GL w (intC .u8) (intQ .u8) a xs c) : ∃ l : List UInt8, l.length = xs.length ∧ Rd w a (l.map byteV) ∧ l.length ≤ c ∧ l.length ≤ 9223372036854775807 := by
  have h := g.2.2.2.1
  unfold intC at h
  rw [flat1] at h
  have hq : ∀ x ∈ xs, 0 ≤ x ∧ x < 256 := fun x hx => by
    have := g.2.2.2.2 x hx
    simp [intQ, Lit.wf] at this
    have e1 : IntKind.u8.min = 0 := rfl
    have e2 : IntKind.u8.max = 255 := rfl
    omega
  refine ⟨xs.map fun x => UInt8.ofNat x.toNat, by simp, ?_, by simpa using g.1, by have := g.1; have := g.2.1; unfold maxLen at this; simp; omega⟩
  have e : (xs.map fun x => UInt8.ofNat x.toNat).map byteV = xs.map fun x => Value.int .u8 x := by
    rw [List.map_map]
    apply List.map_congr_left
    intro x hx
    obtain ⟨h1, h2⟩ := hq x hx
    simp only [Function.comp, byteV]
    rw [ofNat_toNat8 (by omega)]
    congr 1
    omega
  rw [e]
  exact h
theorem DictReads_ok (w : World) (a : Option Addr) (xs : List Int) (c : Nat) (g : GL w (intC .u8) (intQ .u8) a xs c) (n : Int) :
    Calls Try.prog f.law07_DictReads #[.slice a xs.length c, .int .i64 n] w (Ret fun r w' => r = .bool true ∧ Below w.heap.size w w') := by
  obtain ⟨l, hl, h1, h2, h3⟩ := bytes_arg g
  rw [← hl]
  exact DictReads_core h1 h2 h3 n
theorem DictBack_ok (w : World) (a : Option Addr) (ss : List ByteArray) (c : Nat) (g : GL w strC strQ a ss c) (a' : Option Addr) (xs : List Int) (c' : Nat) (g' : GL w (intC .u8) (intQ .u8) a' xs c') (n : Int) :
    Calls Try.prog f.law07_DictBack #[.slice a ss.length c, .slice a' xs.length c', .int .i64 n] w (Ret fun r w' => r = .bool true ∧ Below w.heap.size w w') := by
  obtain ⟨l, hl, h1, h2, h3⟩ := bytes_arg g'
  rw [← hl]
  exact DictBack_core (strs_arg g) (len_arg g) h1 h2 h3 n
end Go.Proofs.Ytmilfgmkcmcicaa
