/-
  Seal and Unseal, the program's and the reference's.
-/
import Derived.Test.YtijjimoooflkaaaSum
namespace Go.Proofs.Ytijjimoooflkaaa
open Go.Dn Go.Proofs
open Go.RowKit (Below)
set_option linter.unusedVariables false

theorem tbytes : bytesT Try.prog 9 28 = true := by kernel_rfl

theorem tmod2 (r : BitVec 32) : Int.tmod (r.toNat : Int) 2 = if r.getLsbD 0 then 1 else 0 := by
  rw [Int.tmod_eq_emod_of_nonneg (by omega)]
  have h : r.getLsbD 0 = decide (r.toNat % 2 = 1) := by
    simp [BitVec.getLsbD, Nat.testBit_zero]
  rw [h]
  by_cases hh : r.toNat % 2 = 1 <;> simp [hh] <;> omega
theorem tdiv2 (r : BitVec 32) : Int.tdiv (r.toNat : Int) 2 = ((r >>> 1).toNat : Int) := by
  rw [Int.tdiv_eq_ediv_of_nonneg (by omega), BitVec.toNat_ushiftRight, Nat.shiftRight_eq_div_pow]
  norm_cast

theorem ref02_Sum_ok {w : World} {a : Option Addr} {c : Nat} (l : List UInt8) (hb : Rd w a (l.map byteV)) (hl : l.length < 9223372036854775807) :
    Calls Try.prog f.ref02_Sum #[.slice a l.length c] w (Ret fun v w' => v = .int .u32 ((crc l).toNat : Int) ∧ w' = w) := by
  apply R.ref02_Sum_calls
  unfold R.ref02_Sum
  refine ⟨fun s w2 => match s with
      | [.int _ r, .int _ i] => w2 = w ∧ ∃ j : Nat, i = j ∧ j ≤ l.length ∧ r = ((crcRest 4294967295#32 (l.take j)).toNat : Int)
      | _ => False,
    fun s _ => match s with
      | [_, .int _ i] => l.length - i.toNat
      | _ => 0, ⟨rfl, 0, rfl, Nat.zero_le _, by simp [crcRest]⟩, ?_⟩
  rintro r i w2 ⟨rfl, j, rfl, hj, rfl⟩
  refine IFB_dec (fun hlt2 => ?_) (fun hge2 => ?_)
  · have hjl : j < l.length := by omega
    refine ⟨⟨by omega, by omega⟩, ?_⟩
    obtain ⟨p2, rfl, hc2⟩ := hb j (byteV l[j]) (by simp [hjl])
    have hsn := crcRest_take_snoc l j hjl 4294967295#32
    generalize hR2 : crcRest 4294967295#32 (l.take j) = R2 at hsn ⊢
    refine ⟨(l[j].toNat : Int), by simpa [byteV] using hc2, ?_⟩
    have h0 : (IntKind.u32.wrap (((BitVec.ofInt 32 (R2.toNat : Int) ^^^ BitVec.ofInt 32 (IntKind.u32.wrap ((l[j].toNat : Int)))).toNat : Int))) = ((R2 ^^^ byte32 l[j]).toNat : Int) := by
      rw [ofInt_wrap32, ofInt_nat, wrap32_nat, BitVec.ofInt_natCast]
      rfl
    rw [h0]
    refine ⟨fun s w3 => match s with
        | [.int _ r, .int _ i] => w3 = w2 ∧ ∃ m : Nat, i = m ∧ m ≤ 8 ∧ r = ((crcSteps m (R2 ^^^ byte32 l[j])).toNat : Int)
        | _ => False,
      fun s _ => match s with
        | [_, .int _ i] => 8 - i.toNat
        | _ => 0, ⟨rfl, 0, rfl, Nat.zero_le _, by simp [crcSteps]⟩, ?_⟩
    rintro r i w3 ⟨rfl, m, rfl, hm, rfl⟩
    refine IFB_dec (fun hlt3 => ?_) (fun hge3 => ?_)
    · have hst := crcSteps_snoc m (R2 ^^^ byte32 l[j])
      generalize crcSteps m (R2 ^^^ byte32 l[j]) = q at hst ⊢
      simp only [tmod2, tdiv2, wrap32_nat]
      rw [wrap_succ (by omega)]
      cases hh : q.getLsbD 0 with
      | true =>
        refine IFB_true ?_
        rw [ofInt_nat]
        refine ⟨⟨trivial, m + 1, rfl, by omega, ?_⟩, ?_⟩
        · rw [hst, crcStep_eq, hh]; rfl
        · simp only [Int.toNat_natCast]; omega
      | false =>
        refine IFB_false ?_
        refine ⟨⟨trivial, m + 1, rfl, by omega, ?_⟩, ?_⟩
        · rw [hst, crcStep_eq, hh]; simp
        · simp only [Int.toNat_natCast]; omega
    · have : m = 8 := by omega
      subst this
      rw [wrap_succ (by omega)]
      refine ⟨⟨rfl, j + 1, rfl, by omega, by rw [hsn]; rfl⟩, ?_⟩
      simp only [Int.toNat_natCast]
      omega
  · have : j = l.length := by omega
    subst this
    refine ⟨?_, rfl⟩
    rw [List.take_length, ofInt_nat, wrap32_nat, BitVec.xor_comm]
    rfl

theorem below_new (w : World) (o : Obj) : Below w.heap.size w (w.alloc o) := (Below.refl _ w).alloc (Nat.le_refl _) o
theorem below_trans {a b c : World} (h : Below a.heap.size a b) (h' : Below b.heap.size b c) : Below a.heap.size a c := h.trans (h'.mono h.size)

theorem sealed_bytes (x : BitVec 32) (w : World) (b : Nat) (t : TypeId) (hb : w.heap[b]? = some (.cells #[.int .u8 (IntKind.u8.wrap (x.toNat : Int)), .int .u8 (IntKind.u8.wrap ((Int.fdiv (x.toNat : Int) (2 ^ (min 8 32))))), .int .u8 (IntKind.u8.wrap ((Int.fdiv (x.toNat : Int) (2 ^ (min 16 32))))), .int .u8 (IntKind.u8.wrap ((Int.fdiv (x.toNat : Int) (2 ^ (min 24 32)))))] t (0, 0))) :
    Rd w (some ⟨b, 0, none⟩) ((sum4 x).map byteV) := by
  have := Rd.of_block0 hb
  rw [u8of_nat, u8of_shift, u8of_shift, u8of_shift] at this
  exact this

theorem net_Seal_ok (w : World) (s : ByteArray) (hs : s.size < 4611686018427387904) :
    Calls Try.prog f.net_Seal #[.string s] w (Ret fun v w' => v = .string (sof (sealL (bl s))) ∧ Below w.heap.size w w') := by
  apply R.net_Seal_calls
  unfold R.net_Seal
  refine bytes_of_string tbytes s w fun b c cs e w1 hb hw1 hh hc hsc htk => ?_
  refine ⟨some ⟨b, 0, none⟩, s.size, c, rfl, ?_⟩
  have hrd : Rd w1 (some ⟨b, 0, none⟩) ((bl s).map byteV) := by
    rw [← htk]; exact (Rd.of_block0 hh).take _
  have hlen := bl_length s
  unfold NEWB
  have hw2 := below_new w1 (.cells #[.slice (some ⟨b, 0, none⟩) s.size c] 28)
  generalize hw2d : w1.alloc (.cells #[.slice (some ⟨b, 0, none⟩) s.size c] 28) = w2 at hw2
  have hh2 : w2.heap[w1.heap.size]? = some (.cells #[.slice (some ⟨b, 0, none⟩) s.size c] 28 (0, 0)) := by rw [← hw2d]; exact heap_alloc_new w1 _
  have hsum := wire_Sum_ok (w := w2) (a := some ⟨w1.heap.size, 0, none⟩) (c := 1) [(some ⟨b, 0, none⟩, c, bl s)] (by
      have := Rd.of_block0 hh2
      simpa [partV1, hlen] using this) (by
      intro p hp
      simp only [List.mem_singleton] at hp
      subst hp
      exact hrd.grown hw2) (by simp) (by
      intro p hp
      simp only [List.mem_singleton] at hp
      subst hp
      simp only [hlen]; omega)
  refine hsum.mono ?_
  rintro _ w3 ⟨_, rfl, rfl, rfl⟩
  refine ⟨_, rfl, ?_⟩
  have hfl : [((some ⟨b, 0, none⟩ : Option Addr), c, bl s)].flatMap (fun p : PartB => p.2.2) = bl s := by simp
  rw [hfl]
  have hw3 := below_new w3 (.cells #[.int .u8 (IntKind.u8.wrap ((crc (bl s)).toNat : Int)), .int .u8 (IntKind.u8.wrap ((Int.fdiv ((crc (bl s)).toNat : Int) (2 ^ (min 8 32))))), .int .u8 (IntKind.u8.wrap ((Int.fdiv ((crc (bl s)).toNat : Int) (2 ^ (min 16 32))))), .int .u8 (IntKind.u8.wrap ((Int.fdiv ((crc (bl s)).toNat : Int) (2 ^ (min 24 32)))))] 5)
  refine string_of_bytes (l := sum4 (crc (bl s))) tbytes rfl (sealed_bytes _ _ _ _ (heap_alloc_new w3 _)) ?_
  refine ⟨_, rfl, ?_, ?_, below_trans (below_trans hw1 hw2) hw3⟩
  · rw [size_sof]; simp [sum4]; omega
  · have : sof (sum4 (crc (bl s))) ++ s = sof (sealL (bl s)) := bl_inj (by rw [bl_append, bl_sof, bl_sof, sealL])
    rw [this]
theorem ref20_Seal_ok (w : World) (s : ByteArray) (hs : s.size < 4611686018427387904) :
    Calls Try.prog f.ref20_Seal #[.string s] w (Ret fun v w' => v = .string (sof (sealL (bl s))) ∧ Below w.heap.size w w') := by
  apply R.ref20_Seal_calls
  unfold R.ref20_Seal
  refine bytes_of_string tbytes s w fun b c cs e w1 hb hw1 hh hc hsc htk => ?_
  refine ⟨some ⟨b, 0, none⟩, s.size, c, rfl, ?_⟩
  have hrd : Rd w1 (some ⟨b, 0, none⟩) ((bl s).map byteV) := by
    rw [← htk]; exact (Rd.of_block0 hh).take _
  have hlen := bl_length s
  rw [← hlen]
  refine (ref02_Sum_ok (bl s) hrd (by omega)).mono ?_
  rintro _ w3 ⟨_, rfl, rfl, rfl⟩
  refine ⟨_, rfl, ?_⟩
  have hw3 := below_new w3 (.cells #[.int .u8 (IntKind.u8.wrap ((crc (bl s)).toNat : Int)), .int .u8 (IntKind.u8.wrap ((Int.fdiv ((crc (bl s)).toNat : Int) (2 ^ (min 8 32))))), .int .u8 (IntKind.u8.wrap ((Int.fdiv ((crc (bl s)).toNat : Int) (2 ^ (min 16 32))))), .int .u8 (IntKind.u8.wrap ((Int.fdiv ((crc (bl s)).toNat : Int) (2 ^ (min 24 32)))))] 5)
  refine string_of_bytes (l := sum4 (crc (bl s))) tbytes rfl (sealed_bytes _ _ _ _ (heap_alloc_new w3 _)) ?_
  refine ⟨_, rfl, ?_, ?_, below_trans hw1 hw3⟩
  · rw [size_sof]; simp [sum4]; omega
  · have : sof (sum4 (crc (bl s))) ++ s = sof (sealL (bl s)) := bl_inj (by rw [bl_append, bl_sof, bl_sof, sealL])
    rw [this]

def unsealV (l : List UInt8) : Value :=
  match unsealL l with
  | some r => .tuple #[.string (sof r), .int .i64 0]
  | none => .tuple #[.string ⟨#[]⟩, .int .i64 200]
theorem drop4 (s : ByteArray) : s.extract 4 s.size = sof ((bl s).drop 4) := by
  rw [extract_eq, List.take_of_length_le (by simp [bl_length])]
theorem net_Unseal_ok (w : World) (s : ByteArray) (hs : s.size < 4611686018427387904) :
    Calls Try.prog f.net_Unseal #[.string s] w (Ret fun v w' => v = unsealV (bl s) ∧ Below w.heap.size w w') := by
  apply R.net_Unseal_calls
  unfold R.net_Unseal
  have hlen := bl_length s
  refine IFB_dec (fun h => ?_) (fun h => ?_)
  · refine ⟨?_, .refl _ _⟩
    unfold unsealV unsealL
    rw [if_pos (by omega)]
  · refine ⟨⟨by omega, by omega, by omega⟩, ?_⟩
    rw [drop4]
    refine (net_Seal_ok w (sof ((bl s).drop 4)) (by rw [size_sof, List.length_drop]; omega)).mono ?_
    rintro _ w1 ⟨_, rfl, rfl, hb⟩
    refine ⟨_, rfl, ?_⟩
    rw [bytesEq_iff]
    have hiff : (sof (sealL (bl (sof ((bl s).drop 4)))) = s) ↔ sealL ((bl s).drop 4) = bl s := by
      rw [bl_sof]
      exact ⟨fun h => by have := congrArg bl h; rwa [bl_sof] at this, fun h => bl_inj (by rw [bl_sof, h])⟩
    refine IFB_not (IFB_dec (fun he => ?_) (fun he => ?_))
    · refine ⟨⟨by omega, by omega, by omega⟩, ?_, hb⟩
      unfold unsealV unsealL
      rw [if_neg (by omega), if_pos (hiff.1 he)]
    · refine ⟨?_, hb⟩
      unfold unsealV unsealL
      rw [if_neg (by omega), if_neg (fun h => he (hiff.2 h))]
theorem ref20_Unseal_ok (w : World) (s : ByteArray) (hs : s.size < 4611686018427387904) :
    Calls Try.prog f.ref20_Unseal #[.string s] w (Ret fun v w' => v = unsealV (bl s) ∧ Below w.heap.size w w') := by
  apply R.ref20_Unseal_calls
  unfold R.ref20_Unseal
  have hlen := bl_length s
  refine IFB_dec (fun h => ?_) (fun h => ?_)
  · refine ⟨?_, .refl _ _⟩
    unfold unsealV unsealL
    rw [if_pos (by omega)]
  · refine ⟨⟨by omega, by omega, by omega⟩, ?_⟩
    rw [drop4]
    refine (ref20_Seal_ok w (sof ((bl s).drop 4)) (by rw [size_sof, List.length_drop]; omega)).mono ?_
    rintro _ w1 ⟨_, rfl, rfl, hb⟩
    refine ⟨_, rfl, ?_⟩
    rw [bytesEq_iff]
    have hiff : (sof (sealL (bl (sof ((bl s).drop 4)))) = s) ↔ sealL ((bl s).drop 4) = bl s := by
      rw [bl_sof]
      exact ⟨fun h => by have := congrArg bl h; rwa [bl_sof] at this, fun h => bl_inj (by rw [bl_sof, h])⟩
    refine IFB_not (IFB_dec (fun he => ?_) (fun he => ?_))
    · refine ⟨⟨by omega, by omega, by omega⟩, ?_, hb⟩
      unfold unsealV unsealL
      rw [if_neg (by omega), if_pos (hiff.1 he)]
    · refine ⟨?_, hb⟩
      unfold unsealV unsealL
      rw [if_neg (by omega), if_neg (fun h => he (hiff.2 h))]
end Go.Proofs.Ytijjimoooflkaaa
