/-
  DictWords, as its row asks.
-/
import Derived.Test.YtmilfgmkcmcicaaWords
import Derived.Test.YtmilfgmkcmcicaaDnOpen
namespace Go.Proofs.Ytmilfgmkcmcicaa
open Go.Dn Go.Proofs
open Go.RowKit (Below)
theorem strs_arg {w : World} {a : Option Addr} {xs : List ByteArray} {c : Nat} (g : GL w strC strQ a xs c) : Rd w a (xs.map Value.string) := by
  have h := g.2.2.2.1
  unfold strC at h
  rwa [flat1] at h
theorem len_arg {w : World} {a : Option Addr} {xs : List ByteArray} {c : Nat} (g : GL w strC strQ a xs c) : xs.length ≤ 9223372036854775807 := Nat.le_trans (Nat.le_trans g.1 g.2.1) (by decide)
theorem DictWords_ok (w : World) (form : Int) (a : Option Addr) (xs : List ByteArray) (c : Nat) (g : GL w strC strQ a xs c) :
    Calls Try.prog f.law07_DictWords #[.int .i64 form, .slice a xs.length c] w (Ret fun r w' => r = .bool true ∧ Below w.heap.size w w') :=
  DictWords_core form (strs_arg g) (len_arg g)
end Go.Proofs.Ytmilfgmkcmcicaa
