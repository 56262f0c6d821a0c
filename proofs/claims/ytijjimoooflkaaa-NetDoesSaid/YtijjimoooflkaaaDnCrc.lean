/-
  The check sum, plainly: a register of 32 bits; one byte that is another one is always seen.
-/
import Derived.Test.YtijjimoooflkaaaDnNums
namespace Go.Dn

def crcStep (r : BitVec 32) : BitVec 32 := (r >>> 1) ^^^ (2197175160#32 &&& -(r &&& 1#32))
def crcSteps : Nat → BitVec 32 → BitVec 32
  | 0, r => r
  | n + 1, r => crcSteps n (crcStep r)
def byte32 (c : UInt8) : BitVec 32 := BitVec.ofNat 32 c.toNat
def crcByte (r : BitVec 32) (c : UInt8) : BitVec 32 := crcSteps 8 (r ^^^ byte32 c)
def crcRest (r : BitVec 32) (l : List UInt8) : BitVec 32 := l.foldl crcByte r
def crc (l : List UInt8) : BitVec 32 := 4294967295#32 ^^^ crcRest 4294967295#32 l

theorem crcSteps_snoc : ∀ (n : Nat) (r : BitVec 32), crcSteps (n + 1) r = crcStep (crcSteps n r)
  | 0, _ => rfl
  | n + 1, r => by rw [crcSteps, crcSteps_snoc n, crcSteps]

theorem neg_one_bit (b : Bool) : (-(if b then 1#32 else 0#32)) = if b then 4294967295#32 else 0#32 := by cases b <;> decide
theorem and_one (r : BitVec 32) : r &&& 1#32 = if r.getLsbD 0 then 1#32 else 0#32 := by
  apply BitVec.eq_of_getLsbD_eq
  intro i hi
  by_cases h0 : i = 0
  · subst h0
    cases h : r.getLsbD 0
    · simpa using h
    · simpa using h
  · cases h : r.getLsbD 0 <;> simp [h0]
theorem crcStep_eq (r : BitVec 32) : crcStep r = (r >>> 1) ^^^ (if r.getLsbD 0 then 2197175160#32 else 0#32) := by
  unfold crcStep
  rw [and_one, neg_one_bit]
  cases r.getLsbD 0 <;> simp <;> rfl
theorem crcStep_inj {a b : BitVec 32} (h : crcStep a = crcStep b) : a = b := by
  rw [crcStep_eq, crcStep_eq] at h
  have top : ∀ x : BitVec 32, ((x >>> 1) ^^^ (if x.getLsbD 0 then 2197175160#32 else 0#32)).getLsbD 31 = x.getLsbD 0 := by
    intro x
    cases hx : x.getLsbD 0 <;> simp <;> decide
  have hlow : a.getLsbD 0 = b.getLsbD 0 := by rw [← top a, ← top b, h]
  rw [hlow] at h
  have hsh : a >>> 1 = b >>> 1 := by
    have := congrArg (· ^^^ (if b.getLsbD 0 then 2197175160#32 else 0#32)) h
    simpa [BitVec.xor_assoc] using this
  apply BitVec.eq_of_getLsbD_eq
  intro i hi
  cases i with
  | zero => exact hlow
  | succ i =>
    have := congrArg (fun x => BitVec.getLsbD x i) hsh
    simpa [BitVec.getLsbD_ushiftRight, Nat.add_comm] using this
theorem crcSteps_inj : ∀ (n : Nat) {a b : BitVec 32}, crcSteps n a = crcSteps n b → a = b
  | 0, _, _, h => h
  | n + 1, _, _, h => crcStep_inj (crcSteps_inj n h)
theorem byte32_inj {c d : UInt8} (h : byte32 c = byte32 d) : c = d := by
  have := congrArg BitVec.toNat h
  simp only [byte32, BitVec.toNat_ofNat] at this
  have h1 := c.toNat_lt
  have h2 := d.toNat_lt
  apply UInt8.toNat_inj.1
  omega
theorem xor_left_inj {n : Nat} {a b c : BitVec n} (h : a ^^^ b = a ^^^ c) : b = c := by
  have := congrArg (a ^^^ ·) h
  simpa [← BitVec.xor_assoc] using this
theorem xor_right_inj {n : Nat} {a b c : BitVec n} (h : b ^^^ a = c ^^^ a) : b = c := by
  rw [BitVec.xor_comm b, BitVec.xor_comm c] at h
  exact xor_left_inj h
theorem crcByte_inj {a b : BitVec 32} {c : UInt8} (h : crcByte a c = crcByte b c) : a = b := xor_right_inj (crcSteps_inj 8 h)
theorem crcByte_byte {a : BitVec 32} {c d : UInt8} (h : crcByte a c = crcByte a d) : c = d := byte32_inj (xor_left_inj (crcSteps_inj 8 h))
theorem crcRest_inj : ∀ (l : List UInt8) {a b : BitVec 32}, crcRest a l = crcRest b l → a = b
  | [], _, _, h => h
  | _ :: l, _, _, h => crcByte_inj (crcRest_inj l h)
theorem crcRest_set : ∀ (l : List UInt8) (i : Nat) (c d : UInt8) (r : BitVec 32), l[i]? = some d → crcRest r (l.set i c) = crcRest r l → c = d
  | [], i, _, _, _, h, _ => by simp at h
  | x :: l, 0, c, d, r, h, he => by
    simp at h
    subst h
    simp only [List.set_cons_zero, crcRest, List.foldl_cons] at he
    exact crcByte_byte (crcRest_inj l he)
  | x :: l, i + 1, c, d, r, h, he => by
    simp only [List.set_cons_succ, crcRest, List.foldl_cons] at he
    exact crcRest_set l i c d _ (by simpa using h) he
/-- a list of which one byte is another one has another sum -/
theorem crc_set {l : List UInt8} {i : Nat} {c d : UInt8} (h : l[i]? = some d) (hne : d ≠ c) : crc (l.set i c) ≠ crc l := by
  intro he
  exact hne (crcRest_set l i c d _ h (xor_left_inj he)).symm
theorem crcRest_append (r : BitVec 32) (l m : List UInt8) : crcRest r (l ++ m) = crcRest (crcRest r l) m := by simp [crcRest]

/-- the program's step, as it is written -/
theorem step_prog (r : BitVec 32) : (IntKind.u32.wrap (((BitVec.ofInt 32 (Int.fdiv (r.toNat : Int) (2 ^ (min 1 32))) ^^^ BitVec.ofInt 32 (IntKind.u32.wrap (((BitVec.ofInt 32 2197175160 &&& BitVec.ofInt 32 (IntKind.u32.wrap (0 - (IntKind.u32.wrap (((BitVec.ofInt 32 (r.toNat : Int) &&& BitVec.ofInt 32 1).toNat : Int)))))).toNat : Int)))).toNat : Int))) = ((crcStep r).toNat : Int) := by
  have h1 : min 1 32 = 1 := by decide
  rw [h1, fdiv_shift, wrap32_nat, ofInt_nat, ofInt_wrap32, ofInt_nat, ofInt_wrap32, ofInt_sub0, ofInt_wrap32, ofInt_nat, ofInt_nat]
  rfl
end Go.Dn
namespace Go.Dn
def u8of (x : BitVec 32) : UInt8 := UInt8.ofNat x.toNat
def sum4 (x : BitVec 32) : List UInt8 := [u8of x, u8of (x >>> 8), u8of (x >>> 16), u8of (x >>> 24)]
def sealL (l : List UInt8) : List UInt8 := sum4 (crc l) ++ l
def unsealL (l : List UInt8) : Option (List UInt8) := if l.length < 4 then none else if sealL (l.drop 4) = l then some (l.drop 4) else none
theorem u8of_nat (x : BitVec 32) : IntKind.u8.wrap (x.toNat : Int) = ((u8of x).toNat : Int) := by
  rw [wrap_u8]
  simp [u8of]
theorem u8of_shift (x : BitVec 32) (k : Nat) : IntKind.u8.wrap (Int.fdiv (x.toNat : Int) (2 ^ (min k 32))) = ((u8of (x >>> (min k 32))).toNat : Int) := by
  rw [fdiv_shift, u8of_nat]
theorem sum4_inj {x y : BitVec 32} (h : sum4 x = sum4 y) : x = y := by
  simp only [sum4, List.cons.injEq, and_true] at h
  obtain ⟨h0, h1, h2, h3⟩ := h
  have e : ∀ a b : BitVec 32, u8of a = u8of b → a.toNat % 256 = b.toNat % 256 := by
    intro a b hab
    have := congrArg UInt8.toNat hab
    simpa [u8of] using this
  have a0 := e _ _ h0
  have a1 := e _ _ h1
  have a2 := e _ _ h2
  have a3 := e _ _ h3
  simp only [BitVec.toNat_ushiftRight, Nat.shiftRight_eq_div_pow] at a1 a2 a3
  apply BitVec.eq_of_toNat_eq
  have hx := x.isLt
  have hy := y.isLt
  omega
theorem unseal_seal (l : List UInt8) : unsealL (sealL l) = some l := by
  have h4 : (sealL l).length = l.length + 4 := by simp [sealL, sum4]
  have hd : (sealL l).drop 4 = l := by simp [sealL, sum4]
  unfold unsealL
  rw [if_neg (by omega), hd, if_pos rfl]
/-- a sealed text of which one byte is another one is none -/
theorem unseal_turned (l : List UInt8) (i : Nat) (c d : UInt8) (h : (sealL l)[i]? = some d) (hne : d ≠ c) : unsealL ((sealL l).set i c) = none := by
  have h4 : (sealL l).length = l.length + 4 := by simp [sealL, sum4]
  unfold unsealL
  rw [if_neg (by simp; omega)]
  rw [if_neg]
  intro he
  by_cases hi : i < 4
  · have hd : ((sealL l).set i c).drop 4 = l := by
      rw [List.drop_set_of_lt hi]
      simp [sealL, sum4]
    rw [hd] at he
    have : (sealL l)[i]? = ((sealL l).set i c)[i]? := by rw [← he]
    rw [h, List.getElem?_set_self (by omega)] at this
    exact hne (by simpa using this)
  · have hd : ((sealL l).set i c).drop 4 = l.set (i - 4) c := by
      rw [List.drop_set]
      rw [if_neg hi]
      simp [sealL, sum4]
    have hl : l[i - 4]? = some d := by
      have hs : (sealL l)[i]? = l[i - 4]? := by
        unfold sealL
        rw [List.getElem?_append_right (by simp [sum4]; omega)]
        simp [sum4]
      rw [← hs]; exact h
    rw [hd] at he
    have hset : (sealL l).set i c = sum4 (crc l) ++ l.set (i - 4) c := by
      unfold sealL
      rw [List.set_append_right _ _ (by simp [sum4]; omega)]
      simp [sum4]
    rw [hset] at he
    unfold sealL at he
    have h1 := List.append_inj_left he (by simp [sum4])
    exact crc_set hl hne (sum4_inj h1)
end Go.Dn
