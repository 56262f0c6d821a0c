/-
  The check sum's contracts: what wire.Sum and the reference's Sum come to.
-/
import Derived.Test.YtijjimoooflkaaaRead
import Derived.Test.YtijjimoooflkaaaDnStr
import Derived.Test.YtijjimoooflkaaaDnCrc
namespace Go.Proofs.Ytijjimoooflkaaa
open Go.Dn Go.Proofs
set_option linter.unusedVariables false

/-- a part: its address, its capacity, its bytes -/
abbrev PartB := Option Addr × Nat × List UInt8
def partV1 (p : PartB) : Value := .slice p.1 p.2.2.length p.2.1

theorem crcRest_flat_snoc (ps : List PartB) (k : Nat) (hk : k < ps.length) (r : BitVec 32) :
    crcRest r ((ps.take (k + 1)).flatMap (·.2.2)) = crcRest (crcRest r ((ps.take k).flatMap (·.2.2))) ps[k].2.2 := by
  rw [List.take_succ_eq_append_getElem hk, List.flatMap_append, crcRest_append]
  simp
theorem crcRest_take_snoc (l : List UInt8) (k : Nat) (hk : k < l.length) (r : BitVec 32) : crcRest r (l.take (k + 1)) = crcByte (crcRest r (l.take k)) l[k] := by
  rw [List.take_succ_eq_append_getElem hk, crcRest_append]
  rfl

theorem wire_Sum_ok {w : World} {a : Option Addr} {c : Nat} (ps : List PartB) (hp : Rd w a (ps.map partV1)) (hb : ∀ p ∈ ps, Rd w p.1 (p.2.2.map byteV)) (hn : ps.length < 9223372036854775807) (hl : ∀ p ∈ ps, p.2.2.length < 9223372036854775807) :
    Calls Try.prog f.wire_Sum #[.slice a ps.length c] w (Ret fun v w' => v = .int .u32 ((crc (ps.flatMap (·.2.2))).toNat : Int) ∧ w' = w) := by
  apply R.wire_Sum_calls
  unfold R.wire_Sum
  refine ⟨fun s w1 => match s with
      | [.int _ r, .int _ i] => w1 = w ∧ ∃ k : Nat, i = k ∧ k ≤ ps.length ∧ r = ((crcRest 4294967295#32 ((ps.take k).flatMap (·.2.2))).toNat : Int)
      | _ => False,
    fun s _ => match s with
      | [_, .int _ i] => ps.length - i.toNat
      | _ => 0, ⟨rfl, 0, rfl, Nat.zero_le _, by simp [crcRest]⟩, ?_⟩
  rintro r i w1 ⟨rfl, k, rfl, hk, rfl⟩
  refine IFB_dec (fun hlt => ?_) (fun hge => ?_)
  · have hkl : k < ps.length := by omega
    refine ⟨⟨by omega, by omega⟩, ?_⟩
    obtain ⟨p, rfl, hc⟩ := hp k (partV1 ps[k]) (by simp [hkl])
    have hmem : ps[k] ∈ ps := List.getElem_mem hkl
    have hbk := hb _ hmem
    have hlk := hl _ hmem
    have hflat := crcRest_flat_snoc ps k hkl 4294967295#32
    generalize hR : crcRest 4294967295#32 ((ps.take k).flatMap (·.2.2)) = R at hflat ⊢
    generalize hq : ps[k] = q at hbk hlk hflat hc
    obtain ⟨qa, qc, l⟩ := q
    simp only at hbk hlk hflat
    refine ⟨qa, l.length, qc, by simpa [partV1] using hc, ?_⟩
    refine ⟨fun s w2 => match s with
        | [.int _ r, .int _ i] => w2 = w1 ∧ ∃ j : Nat, i = j ∧ j ≤ l.length ∧ r = ((crcRest R (l.take j)).toNat : Int)
        | _ => False,
      fun s _ => match s with
        | [_, .int _ i] => l.length - i.toNat
        | _ => 0, ⟨rfl, 0, rfl, Nat.zero_le _, by simp [crcRest]⟩, ?_⟩
    rintro r i w2 ⟨rfl, j, rfl, hj, rfl⟩
    refine IFB_dec (fun hlt2 => ?_) (fun hge2 => ?_)
    · have hjl : j < l.length := by omega
      refine ⟨⟨by omega, by omega⟩, ?_⟩
      obtain ⟨p2, rfl, hc2⟩ := hbk j (byteV l[j]) (by simp [hjl])
      have hsn := crcRest_take_snoc l j hjl R
      generalize hR2 : crcRest R (l.take j) = R2 at hsn ⊢
      refine ⟨(l[j].toNat : Int), by simpa [byteV] using hc2, ?_⟩
      have h0 : (IntKind.u32.wrap (((BitVec.ofInt 32 (R2.toNat : Int) ^^^ BitVec.ofInt 32 (IntKind.u32.wrap ((l[j].toNat : Int)))).toNat : Int))) = ((R2 ^^^ byte32 l[j]).toNat : Int) := by
        rw [ofInt_wrap32, ofInt_nat, wrap32_nat, BitVec.ofInt_natCast]
        rfl
      rw [h0]
      refine ⟨fun s w3 => match s with
          | [.int _ r, .int _ i] => w3 = w2 ∧ ∃ m : Nat, i = m ∧ m ≤ 8 ∧ r = ((crcSteps m (R2 ^^^ byte32 l[j])).toNat : Int)
          | _ => False,
        fun s _ => match s with
          | [_, .int _ i] => 8 - i.toNat
          | _ => 0, ⟨rfl, 0, rfl, Nat.zero_le _, by simp [crcSteps]⟩, ?_⟩
      rintro r i w3 ⟨rfl, m, rfl, hm, rfl⟩
      refine IFB_dec (fun hlt3 => ?_) (fun hge3 => ?_)
      · rw [step_prog, wrap_succ (by omega)]
        refine ⟨⟨rfl, m + 1, rfl, by omega, by rw [crcSteps_snoc]⟩, ?_⟩
        simp only [Int.toNat_natCast]
        omega
      · have : m = 8 := by omega
        subst this
        rw [wrap_succ (by omega)]
        refine ⟨⟨rfl, j + 1, rfl, by omega, by rw [hsn]; rfl⟩, ?_⟩
        simp only [Int.toNat_natCast]
        omega
    · have : j = l.length := by omega
      subst this
      rw [wrap_succ (by omega)]
      refine ⟨⟨rfl, k + 1, rfl, by omega, by rw [hflat, List.take_length]⟩, ?_⟩
      simp only [Int.toNat_natCast]
      omega
  · have : k = ps.length := by omega
    subst this
    refine ⟨?_, rfl⟩
    rw [List.take_length, ofInt_nat, wrap32_nat]
    rfl
end Go.Proofs.Ytijjimoooflkaaa
