/-
  Texts of this claim, laid one behind the other by a program of mine (install.py): G.Cl3, G.Cl4, G.Cl5, G.Cl6.
-/
import Derived.Test.YtpnaifmmggnimaaGreatDoorM8
namespace Go.Proofs.YtpnaifmmggnimaaGreatDoor
set_option maxRecDepth 100000
open Go.Dn Go.Proofs
open Go.RowKit (Below)
set_option linter.unusedVariables false
def tkI (b : Nat) (a : Option Addr) (n c at_ : Nat) (bad : Bool) : It := It.cells b #[.slice a n c, .int .i64 (at_ : Int), .bool (!bad)] ty.ref22_taker
theorem numR_one (l : List UInt8) (most at_ : Nat) : numR l 1 most at_ = (numR l 0 most at_).bind fun x => if 1 ≤ x.1 then some x else none := by
  unfold numR
  cases takeN l (at_ : Int) with
  | none => rfl
  | some x =>
    simp only [Option.bind_some, Nat.zero_le, true_and]
    by_cases h1 : x.1 ≤ most <;> by_cases h2 : 1 ≤ x.1 <;> simp [h1, h2]
def cli0R (l : List UInt8) (at_ : Nat) : Option (Cli × Nat) :=
  (numR l 0 greatN at_).bind fun x => (numR l 0 greatN x.2).bind fun y => (numR l 0 1000 y.2).bind fun z => (numR l 0 greatN z.2).map fun u => ((x.1, y.1, z.1, u.1), u.2)
theorem cliR_iff {l : List UInt8} {at_ : Nat} {q : Cli × Nat} : cliR l at_ = some q ↔ cli0R l at_ = some q ∧ 1 ≤ q.1.2.1 := by
  simp only [cliR, cli0R, numR_one l greatN, Option.bind_eq_some_iff, Option.map_eq_some_iff]
  constructor
  · rintro ⟨x, hx, y, ⟨y', hy, hyy⟩, z, hz, u, hu, rfl⟩
    split at hyy
    · cases hyy
      exact ⟨⟨x, hx, y, hy, z, hz, u, hu, rfl⟩, by assumption⟩
    · cases hyy
  · rintro ⟨⟨x, hx, y, hy, z, hz, u, hu, rfl⟩, h1⟩
    exact ⟨x, hx, y, ⟨y, hy, if_pos h1⟩, z, hz, u, hu, rfl⟩
def lastB (k : List Cli) (c : Cli) : Bool := match k.getLast? with
  | none => true
  | some d => decide (d.1 < c.1)
def upB (k : List Cli) (c : Cli) : Bool := decide (1 ≤ c.2.1) && lastB k c
def riseR (l : List UInt8) : Nat → Nat → Option (List Cli × Nat)
  | 0, at_ => some ([], at_)
  | n + 1, at_ => (riseR l n at_).bind fun q => (cli0R l q.2).bind fun x => if upB q.1 x.1 = true then some (q.1 ++ [x.1], x.2) else none
theorem rise_snoc {k : List Cli} {c : Cli} : Rising (k ++ [c]) ↔ Rising k ∧ lastB k c = true := by
  unfold Rising
  rw [List.map_append, List.pairwise_append]
  rcases List.eq_nil_or_concat k with rfl | ⟨m, d, rfl⟩
  · simp [lastB]
  · simp only [List.concat_eq_append, lastB, List.getLast?_append, List.getLast?_singleton, List.map_append, List.map_cons, List.map_nil, List.pairwise_append, List.mem_append, List.mem_singleton]
    simp only [Option.some_or, decide_eq_true_eq]
    constructor
    · rintro ⟨h1, _, h3⟩
      exact ⟨h1, h3 d.1 (.inr rfl) c.1 rfl⟩
    · rintro ⟨h1, h2⟩
      refine ⟨h1, by simp, ?_⟩
      rintro x (h | rfl) y rfl
      · exact Nat.lt_trans (h1.2.2 x h d.1 rfl) h2
      · exact h2
theorem riseR_iff {l : List UInt8} {n at_ : Nat} {q : List Cli × Nat} : riseR l n at_ = some q ↔ manyR (cliR l) n at_ = some q ∧ Rising q.1 := by
  induction n generalizing q with
  | zero =>
    simp only [riseR, manyR, Option.some.injEq]
    constructor
    · rintro rfl; exact ⟨rfl, by simp [Rising]⟩
    · exact fun h => h.1
  | succ n ih =>
    simp only [riseR, manyR, Option.bind_eq_some_iff, Option.map_eq_some_iff, ih, cliR_iff]
    constructor
    · rintro ⟨r, ⟨h1, h2⟩, x, h3, h4⟩
      split at h4
      · rename_i hu
        cases h4
        unfold upB at hu
        rw [Bool.and_eq_true, decide_eq_true_eq] at hu
        exact ⟨⟨r, h1, x, ⟨h3, hu.1⟩, rfl⟩, rise_snoc.2 ⟨h2, hu.2⟩⟩
      · cases h4
    · rintro ⟨⟨r, h1, x, ⟨h3, h5⟩, rfl⟩, h6⟩
      obtain ⟨h7, h8⟩ := rise_snoc.1 h6
      exact ⟨r, ⟨h1, h7⟩, x, h3, if_pos (by unfold upB; rw [h8, decide_eq_true h5]; rfl)⟩
def docR (l : List UInt8) : Option (Cat × Nat) :=
  (colsR l 0).bind fun c => (numR l 0 256 c.2).bind fun n => (manyR (partR l) n.1 n.2).bind fun p => (numR l 0 64 p.2).bind fun m => (riseR l m.1 m.2).map fun k => (⟨c.1, p.1, k.1⟩, k.2)
theorem docR_iff {l : List UInt8} {q : Cat × Nat} : docR l = some q ↔ catR l = some q ∧ Rising q.1.clis := by
  simp only [docR, catR, Option.bind_eq_some_iff, Option.map_eq_some_iff, riseR_iff]
  constructor
  · rintro ⟨a, h1, b, h2, c, h3, d, h4, e, ⟨h5, h6⟩, rfl⟩
    exact ⟨⟨a, h1, b, h2, c, h3, d, h4, e, h5, rfl⟩, h6⟩
  · rintro ⟨⟨a, h1, b, h2, c, h3, d, h4, e, h5, rfl⟩, h6⟩
    exact ⟨a, h1, b, h2, c, h3, d, h4, e, ⟨h5, h6⟩, rfl⟩
section
variable {w0 w : World} {H : List It} {b : Nat} {a : Option Addr} {c at_ : Nat} {bad : Bool} {l : List UInt8}
theorem tnumber_ok (S : ST w0 w H) (n m : Nat) (hn : H[n]? = some (tkI b a l.length c at_ bad)) (hm : H[m]? = some (It.rd a (l.map byteV))) (hs : l.length ≤ 140737488355328) (hat : at_ ≤ 140737488355328) (most : Nat) (hhi : most ≤ greatN) :
    Calls Tryz.prog f.ref22_taker_number #[.pointer (some ⟨b, 0, none⟩), .int .u64 (most : Int)] w (Ret fun v w' => ∃ (z at' : Nat) (bad' : Bool), v = .int .i64 (z : Int) ∧ ST w0 w' (H.set n (tkI b a l.length c at' bad')) ∧ Got bad bad' (numR l 0 most at_) (z, at') ∧ (bad' = true → z = 0) ∧ at' ≤ 140737488355328) := by
  apply R.ref22_taker_number_calls
  unfold R.ref22_taker_number
  refine S.draw fun w1 B1 S => ?_
  refine ⟨_, _, _, S.cell n hn rfl, _, S.cell n hn rfl, ?_⟩
  refine (ref_TakeNumber_ok (S.get m hm) (by omega) (at_ : Int) (by omega)).mono ?_
  rintro _ w2 ⟨_, rfl, rfl, rfl⟩
  obtain ⟨n0, k0, e0, hv, hk, hn0, hx⟩ := num_open _ (rfl : takeN l (at_ : Int) = takeN l (at_ : Int))
  rw [hv]
  refine ⟨_, _, _, rfl, _, S.cell n hn rfl, ?_⟩
  have fail : (bad = true ∨ numR l 0 most at_ = none) → STO (Addr.add ⟨b, 0, none⟩ 2) (.bool false) (fun w' => ∃ (z at' : Nat) (bad' : Bool), Value.int .i64 0 = .int .i64 (z : Int) ∧ ST w0 w' (H.set n (tkI b a l.length c at' bad')) ∧ Got bad bad' (numR l 0 most at_) (z, at') ∧ (bad' = true → z = 0) ∧ at' ≤ 140737488355328) w2 := fun h =>
    S.sto n hn (i := 2) (cs' := #[.slice a l.length c, .int .i64 (at_ : Int), .bool (!true)]) (by simp) rfl fun w3 S => ⟨0, at_, true, rfl, S, .inr ⟨rfl, h⟩, fun _ => rfl, hat⟩
  refine IFB_of (fun hb => fail (.inl (by simpa using hb))) (fun hb => ?_)
  have hb : bad = false := by simpa using hb
  subst hb
  refine IFB_ne (fun h => fail (.inr ?_)) (fun h => ?_)
  · rcases hx with ⟨h2, _⟩ | ⟨_, h2⟩
    · exact absurd h2 h
    · simp [numR, h2]
  have hx' : takeN l (at_ : Int) = some (n0, k0) := by
    rcases hx with ⟨_, h2⟩ | ⟨h2, _⟩
    · exact h2
    · exact absurd h h2
  have hR : numR l 0 most at_ = if 0 ≤ n0 ∧ n0 ≤ most then some (n0, k0) else none := by simp [numR, hx']
  unfold greatN at hhi
  refine IFB_dec (fun h => fail (.inr ?_)) (fun h1 => ?_)
  · rw [hR, if_neg (by omega)]
  rw [wrap_i64 (by omega) (by omega)]
  rw [if_pos (by omega)] at hR
  exact S.sto n hn (i := 1) (cs' := #[.slice a l.length c, .int .i64 (k0 : Int), .bool (!false)]) (by simp) rfl fun w3 S => ⟨n0, k0, false, rfl, S, .inl ⟨rfl, rfl, hR⟩, (fun h => by cases h), by omega⟩
theorem tpart_ok (S : ST w0 w H) (n m : Nat) (hmn : m ≠ n) (hn : H[n]? = some (tkI b a l.length c at_ bad)) (hm : H[m]? = some (It.rd a (l.map byteV))) (hc : l.length ≤ c) (hs : l.length ≤ 140737488355328) (hat : at_ ≤ 140737488355328) :
    Calls Tryz.prog f.ref22_taker_part #[.pointer (some ⟨b, 0, none⟩)] w (Ret fun v w' => ∃ (p : Prt) (at' : Nat) (bad' : Bool), v = .agg #[.string p.1, .int .i64 (p.2 : Int)] ∧ ST w0 w' (H.set n (tkI b a l.length c at' bad')) ∧ Got bad bad' (partR l at_) (p, at') ∧ at' ≤ 140737488355328) := by
  apply R.ref22_taker_part_calls
  unfold R.ref22_taker_part
  have hlt := (List.getElem?_eq_some_iff.1 hn).1
  refine S.newB fun b2 w1 _ _ S => ?_
  refine S.draw fun w2 B2 S => ⟨_, _, _, S.cell (n + 1) hn rfl, _, S.cell (n + 1) hn rfl, ?_⟩
  refine (ref_TakeText_ok (S.get (m + 1) hm) hc (by omega) (at_ : Int) (by omega) 64).mono ?_
  rintro _ w3 ⟨_, rfl, rfl, rfl⟩
  have fail : ∀ {K : Value → World → Prop}, (bad = true ∨ nameR l at_ = none) → (∀ v w', (∃ (p : Prt) (at' : Nat) (bad' : Bool), v = .agg #[.string p.1, .int .i64 (p.2 : Int)] ∧ ST w0 w' (H.set n (tkI b a l.length c at' bad')) ∧ Got bad bad' (partR l at_) (p, at') ∧ at' ≤ 140737488355328) → K v w') →
      STO (Addr.add ⟨b, 0, none⟩ 2) (.bool false) (fun w => STO ⟨b2, 0, none⟩ (.string ⟨#[]⟩) (fun w => STO ⟨b2, 1, none⟩ (.int .i64 0) (fun w => ∃ s, w.cell? ⟨b2, 0, none⟩ = some (.string s) ∧ ∃ i, w.cell? ⟨b2, 1, none⟩ = some (.int .i64 i) ∧ K (.agg #[.string s, .int .i64 i]) w) w) w) w3 := fun h hK =>
    S.sto (n + 1) hn (i := 2) (cs' := #[.slice a l.length c, .int .i64 (at_ : Int), .bool (!true)]) (by simp) rfl fun w3 S => S.sto 0 rfl (cs' := #[.string ⟨#[]⟩, .int .i64 0]) (by simp) rfl fun w4 S => S.sto 0 rfl (cs' := #[.string ⟨#[]⟩, .int .i64 0]) (by simp) rfl fun w5 S => ⟨_, S.cell 0 rfl rfl, _, S.cell 0 rfl rfl, hK _ _ ⟨(⟨#[]⟩, 0), at_, true, rfl, S.drop 1, .inr ⟨rfl, h.imp id fun h => by rw [partR, h]; rfl⟩, hat⟩⟩
  cases ho : takeT l (at_ : Int) 64 with
  | none =>
    have hno : nameR l at_ = none := by rw [nameR, ho]; rfl
    refine ⟨_, _, _, rfl, _, S.cell (n + 1) hn rfl, IFB_of (fun hb => fail (.inr hno) fun _ _ h => h) (fun hb => IFB_ne (fun h => fail (.inr hno) fun _ _ h => h) (fun h => by cases h))⟩
  | some x =>
    have hk2 : x.2 ≤ 140737488355328 := by
      have := (takeT_seg (s := x.1) (k := x.2) ho).1
      have := this.1
      omega
    refine ⟨_, _, _, rfl, _, S.cell (n + 1) hn rfl, IFB_of (fun hb => fail (.inl (by simpa using hb)) fun _ _ h => h) (fun hb => ?_)⟩
    have hb : bad = false := by simpa using hb
    subst hb
    refine IFB_ne (fun h => absurd rfl h) (fun _ => ?_)
    rw [size_sof]
    have e : nameR l at_ = if x.1.length = 64 then some (sof x.1, x.2) else none := by rw [nameR, ho, Option.bind_some]
    refine IFB_ne (fun h => fail (.inr (by rw [e, if_neg (by omega)])) fun _ _ h => h) (fun h64 => ?_)
    rw [if_pos (by omega)] at e
    simp only [PTR]
    refine S.sto (n + 1) hn (i := 1) (cs' := #[.slice a l.length c, .int .i64 (x.2 : Int), .bool (!false)]) (by simp) rfl fun w4 S => ?_
    have S : ST w0 w4 (It.cells b2 #[.string ⟨#[]⟩, .int .i64 0] ty.api_Part :: H.set n (tkI b a l.length c x.2 false)) := S
    have hn1 : (H.set n (tkI b a l.length c x.2 false))[n]? = some (tkI b a l.length c x.2 false) := List.getElem?_set_self hlt
    have hm1 : (H.set n (tkI b a l.length c x.2 false))[m]? = some (It.rd a (l.map byteV)) := by rw [List.getElem?_set_ne (Ne.symm hmn)]; exact hm
    refine (tnumber_ok S (n + 1) (m + 1) hn1 hm1 hs hk2 1024 (by decide)).mono ?_
    rintro _ w5 ⟨_, rfl, z, at2, bd, rfl, S, G, hz, hat2⟩
    have S : ST w0 w5 (It.cells b2 #[.string ⟨#[]⟩, .int .i64 0] ty.api_Part :: (H.set n (tkI b a l.length c x.2 false)).set n (tkI b a l.length c at2 bd)) := S
    rw [List.set_set] at S
    have hn2 : (H.set n (tkI b a l.length c at2 bd))[n]? = some (tkI b a l.length c at2 bd) := List.getElem?_set_self hlt
    refine ⟨_, rfl, S.newB fun b25 w6 _ _ S => S.sto 0 rfl (cs' := #[.string (sof x.1), .int .i64 0]) (by simp) rfl fun w7 S => S.sto 0 rfl (cs' := #[.string (sof x.1), .int .i64 (z : Int)]) (by simp) rfl fun w8 S => ⟨_, S.cell (n + 2) hn2 rfl, ?_⟩⟩
    have hp : partR l at_ = (numR l 1 1024 x.2).map fun y => ((sof x.1, y.1), y.2) := by rw [partR, e]; rfl
    have fin : ∀ (ok : Bool) {wx : World}, Got false (!ok) (partR l at_) ((sof x.1, z), at2) → STO (Addr.add ⟨b, 0, none⟩ 2) (.bool ok) (fun w => ∃ s, w.cell? ⟨b25, 0, none⟩ = some (.string s) ∧ ∃ i, w.cell? ⟨b25, 1, none⟩ = some (.int .i64 i) ∧ STO ⟨b2, 0, none⟩ (.string s) (fun w => STO ⟨b2, 1, none⟩ (.int .i64 i) (fun w => ∃ s, w.cell? ⟨b2, 0, none⟩ = some (.string s) ∧ ∃ i, w.cell? ⟨b2, 1, none⟩ = some (.int .i64 i) ∧
        ∃ (p : Prt) (at' : Nat) (bad' : Bool), Value.agg #[.string s, .int .i64 i] = .agg #[.string p.1, .int .i64 (p.2 : Int)] ∧ ST w0 w (H.set n (tkI b a l.length c at' bad')) ∧ Got false bad' (partR l at_) (p, at') ∧ at' ≤ 140737488355328) w) w) w8 := fun ok wx hG =>
      S.sto (n + 2) hn2 (i := 2) (cs' := #[.slice a l.length c, .int .i64 (at2 : Int), .bool (!(!ok))]) (by simp) (by simp) fun w9 S => ⟨_, S.cell 0 rfl rfl, _, S.cell 0 rfl rfl, S.sto 1 rfl (cs' := #[.string (sof x.1), .int .i64 0]) (by simp) rfl fun w10 S => S.sto 1 rfl (cs' := #[.string (sof x.1), .int .i64 (z : Int)]) (by simp) rfl fun w11 S => ⟨_, S.cell 1 rfl rfl, _, S.cell 1 rfl rfl, (sof x.1, z), at2, !ok, rfl, by
        have S := S.drop 2
        have S : ST w0 w11 ((H.set n (tkI b a l.length c at2 bd)).set n (tkI b a l.length c at2 (!ok))) := S
        rwa [List.set_set] at S, hG, hat2⟩⟩
    refine IFB_of (fun hb => ?_) (fun hb => ?_)
    · have hb : bd = false := by simpa using hb
      subst hb
      refine ⟨_, S.cell 0 rfl rfl, fin _ (wx := w8) ?_⟩
      obtain ⟨_, h2⟩ := G.ok
      rw [hp, numR_one, h2]
      by_cases h1 : 1 ≤ z
      · refine .inl ⟨?_, rfl, by simp [h1]⟩
        simp; omega
      · refine .inr ⟨?_, .inr (by simp [h1])⟩
        simp; omega
    · have hb : bd = true := by simpa using hb
      subst hb
      refine fin false (wx := w8) (.inr ⟨rfl, .inr ?_⟩)
      rcases G.no with h | h
      · cases h
      · rw [hp, numR_one, h]; rfl
end
def cliC (c : Cli) : List Value := [.int .i64 (c.1 : Int), .int .i64 (c.2.1 : Int), .int .i64 (c.2.2.1 : Int), .int .i64 (c.2.2.2 : Int)]
def clisL (k : List Cli) : List Value := k.flatMap cliC
theorem clis_get (k : List Cli) (i j : Nat) (hi : i < k.length) (hj : j < 4) : (clisL k)[i * 4 + j]? = (cliC k[i])[j]? := by
  induction k generalizing i with
  | nil => simp at hi
  | cons p ps ih =>
    show (cliC p ++ clisL ps)[_]? = _
    cases i with
    | zero => rw [Nat.zero_mul, Nat.zero_add, List.getElem?_append_left (by simp [cliC]; omega)]; rfl
    | succ i =>
      rw [List.getElem?_append_right (by simp [cliC]; omega)]
      rw [show (i + 1) * 4 + j - (cliC p).length = i * 4 + j by simp [cliC]; omega, ih i (by simpa using hi)]
      rfl
def clisI (a : Option Addr) (c : Nat) (k : List Cli) : It := It.row ty.ref22_Client 4 a k.length c (clisL k)
theorem tClis : slT Tryz.prog ty.L_ref22_Client = some (ty.ref22_Client, 4, 32, .agg #[.int .i64 0, .int .i64 0, .int .i64 0, .int .i64 0]) := by kernel_rfl
def docH (b : Nat) (ca : Option Addr) (cc : Nat) (pa : Option Addr) (pc : Nat) (ka : Option Addr) (kc : Nat) (c : Cat) : List It :=
  [It.cells b #[.slice ca c.cols.length cc, .slice pa c.parts.length pc, .slice ka c.clis.length kc] ty.ref22_Catalog, colsI ca cc c.cols, prtsI pa pc c.parts, clisI ka kc c.clis]
def DocV (l : List UInt8) (w w' : World) (v : Value) : Prop :=
  (∃ c b ca cc pa pc ka kc, GoodL l c ∧ v = .tuple #[.pointer (some ⟨b, 0, none⟩), .int .i64 0] ∧ ST w w' (docH b ca cc pa pc ka kc c)) ∨
    ((∀ c, ¬ GoodL l c) ∧ v = .tuple #[.pointer none, .int .i64 220] ∧ Below w.heap.size w w')
section
variable {w0 w : World} {H : List It} {a : Option Addr} {c : Nat}
theorem cli_at {k : List Cli} (hl : Rd w a (clisL k)) {i : Nat} (hi : i < k.length) : ∃ p, a = some p ∧ w.cell? (p.add (i * 4)) = some (.int .i64 (k[i].1 : Int)) ∧ w.cell? ((p.add (i * 4)).add 1) = some (.int .i64 (k[i].2.1 : Int)) ∧ w.cell? ((p.add (i * 4)).add 2) = some (.int .i64 (k[i].2.2.1 : Int)) ∧ w.cell? ((p.add (i * 4)).add 3) = some (.int .i64 (k[i].2.2.2 : Int)) := by
  obtain ⟨p, hp, h0⟩ := hl (i * 4 + 0) _ (by rw [clis_get k i 0 hi (by omega)]; rfl)
  obtain ⟨p1, hp1, h1⟩ := hl (i * 4 + 1) _ (by rw [clis_get k i 1 hi (by omega)]; rfl)
  obtain ⟨p2, hp2, h2⟩ := hl (i * 4 + 2) _ (by rw [clis_get k i 2 hi (by omega)]; rfl)
  obtain ⟨p3, hp3, h3⟩ := hl (i * 4 + 3) _ (by rw [clis_get k i 3 hi (by omega)]; rfl)
  rw [hp] at hp1 hp2 hp3
  cases hp1; cases hp2; cases hp3
  exact ⟨p, hp, h0, by rw [addr_add_add]; exact h1, by rw [addr_add_add]; exact h2, by rw [addr_add_add]; exact h3⟩
theorem stAppCl (S : ST w0 w H) {n : Nat} {k : List Cli} (hn : H[n]? = some (clisI a c k)) {x : Cli} {b : Nat} (hs : Rd w (some ⟨b, 0, none⟩) (cliC x)) (hl : k.length + 1 ≤ 1000000) {f : Value → World → Prop}
    (hf : ∀ a' c' w', ST w0 w' (H.set n (clisI a' c' (k ++ [x]))) → f (.slice a' (k ++ [x]).length c') w') :
    OPR Tryz.prog (Builtin.append_ #[ty.L_ref22_Client, ty.L_ref22_Client] ty.L_ref22_Client #[.slice a k.length c, .slice (some ⟨b, 0, none⟩) 1 1]) f w := by
  refine S.app n hn tClis rfl (by omega) (by omega) hs (mm := 1) rfl (by simp [cliC]; exact ⟨rfl, rfl, rfl, rfl⟩) (by omega) fun a' c' w' S' => ?_
  have e1 : (k ++ [x]).length = k.length + 1 := by simp
  have e2 : clisL k ++ cliC x = clisL (k ++ [x]) := by simp [clisL]
  rw [e2] at S'
  have := hf a' c' w' (by unfold clisI; rw [e1]; exact S')
  rwa [e1] at this
end
theorem last_at {k : List Cli} {c : Cli} (h : 0 < k.length) : lastB k c = decide ((k[k.length - 1]'(by omega)).1 < c.1) := by
  unfold lastB
  rw [List.getLast?_eq_getElem?, List.getElem?_eq_getElem (by omega)]
theorem riseR_step {l : List UInt8} {n at_ : Nat} : riseR l (n + 1) at_ = (riseR l n at_).bind fun q => (cli0R l q.2).bind fun x => if upB q.1 x.1 = true then some (q.1 ++ [x.1], x.2) else none := rfl
theorem riseR_none {l : List UInt8} {a i : Nat} (h : riseR l i a = none) : ∀ {n : Nat}, i ≤ n → riseR l n a = none := by
  intro n hn
  induction n with
  | zero =>
    obtain rfl : i = 0 := by omega
    exact h
  | succ n ih =>
    by_cases e : i = n + 1
    · subst e; exact h
    · rw [riseR_step, ih (by omega)]
      rfl
section
variable {w : World}
set_option maxHeartbeats 2000000 in
theorem DocLoad_ok (s : ByteArray) (hs : s.size ≤ 140737488355328) : Calls Tryz.prog f.ref22_Load #[.string s] w (Ret fun v w' => DocV (bl s) w w' v) := by
  apply R.ref22_Load_calls
  unfold R.ref22_Load
  have hbl := bl_length s
  refine bytes_of_string tbytes s w fun b0 c0 cells e0 w2 hb0 B2 hg2 hcs hsc htk => ?_
  have hr : Rd w2 (some ⟨b0, 0, none⟩) ((bl s).map byteV) := by
    have := (Rd.of_block0 hg2).take s.size
    rw [htk] at this
    exact this
  have S := stAddRd (ST.start w) B2 (⟨hr, fun k hk => by cases hk; exact Nat.le_of_eq hb0.symm⟩ : RdN w w2 _ _)
  obtain ⟨l, hl⟩ : ∃ l, l = bl s := ⟨_, rfl⟩
  rw [← hl] at hbl S ⊢
  have hll : l.length ≤ c0 := by omega
  have hl9 : l.length ≤ 140737488355328 := by omega
  clear hr htk
  refine ⟨_, _, _, rfl, S.newB fun b4 w3 _ _ S => S.newB fun b5 w4 _ _ S => ?_⟩
  let L : Nat → Bool → Option Addr → Nat → Option Addr → Nat → Option Addr → Nat → Cat → List It := fun at_ bad ca cc pa pc ka kc C => tkI b4 (some ⟨b0, 0, none⟩) l.length c0 at_ bad :: (docH b5 ca cc pa pc ka kc C ++ [It.rd (some ⟨b0, 0, none⟩) (l.map byteV)])
  have S : ST w w4 (L 0 false none 0 none 0 none 0 ⟨[], [], []⟩) := by
    rw [← hbl] at S
    have S := ((S.nil ty.ref22_Client 4).nil ty.api_Part 2).nil ty.api_Column 3
    have S := (S.pull 3 rfl).pull 4 rfl
    exact S
  refine (tnumber_ok S 0 5 rfl rfl hl9 (by omega) 1 (by decide)).mono ?_
  rintro _ w5 ⟨_, rfl, z, at1, b1, rfl, S, G1, hz1, hat1⟩
  have S : ST w w5 (L at1 b1 none 0 none 0 none 0 ⟨[], [], []⟩) := S
  have hz01 := num_le G1 hz1
  refine ⟨_, rfl, fun st wx => st = [] ∧ ∃ at_ bad ca cc cs, ST w wx (L at_ bad ca cc none 0 none 0 ⟨cs, [], []⟩) ∧ at_ ≤ 140737488355328 ∧ Got false bad (colsR l 0) (cs, at_) ∧ (bad = false → (z = 0 ↔ cs = [])), ?_, ?_⟩
  · have skip : (b1 = true ∨ z = 0) → ∃ at_ bad ca cc cs, ST w w5 (L at_ bad ca cc none 0 none 0 ⟨cs, [], []⟩) ∧ at_ ≤ 140737488355328 ∧ Got false bad (colsR l 0) (cs, at_) ∧ (bad = false → (z = 0 ↔ cs = [])) := fun h => by
      have h0 : z = 0 := h.elim hz1 id
      refine ⟨at1, b1, none, 0, [], S, hat1, ?_, fun _ => ⟨fun _ => rfl, fun _ => h0⟩⟩
      refine G1.bind (g := fun x => if x.1 = 1 then takeSch l (x.2 : Int) else some ([], x.2)) (y := (([] : List Col), at1)) (b2 := b1) ?_
      simp only
      rw [if_neg (by omega)]
      exact Got.same _ _
    refine ⟨fun st wx => st = [.bool (!b1 && decide (z = 1))] ∧ wx = w5, ⟨_, S.cell 0 rfl rfl, IFB_of (fun hb => ⟨?_, rfl⟩) (fun hb => ⟨?_, rfl⟩)⟩, ?_⟩
    · rw [hb, Bool.true_and]
      by_cases h : z = 1
      · subst h; rfl
      · have : ¬ (z : Int) = 1 := by omega
        simp [h, this]
    · rw [hb, Bool.false_and]
    rintro _ _ ⟨hst, rfl⟩
    cases hst
    refine IFB_of (fun hb => ?_) (fun hb => ⟨rfl, skip ?_⟩)
    · simp only [Bool.and_eq_true, Bool.not_eq_true', decide_eq_true_eq] at hb
      obtain ⟨rfl, rfl⟩ := hb
      refine S.draw fun w6 B6 S => ⟨_, _, _, S.cell 0 rfl rfl, _, S.cell 0 rfl rfl, (ref05_Take_ok (S.get 5 rfl) hll (by omega) (at1 : Int) (by omega)).mono ?_⟩
      rintro _ w7 ⟨_, rfl, hx⟩
      have e1 : colsR l 0 = takeSch l (at1 : Int) := by
        rw [colsR, G1.ok.2, Option.bind_some]
        exact if_pos rfl
      cases ho : takeSch l (at1 : Int) with
      | none =>
        rw [ho] at hx
        obtain ⟨rfl, B⟩ := hx
        have S := S.grown B
        refine ⟨_, _, _, _, _, rfl, S.sto 0 rfl (i := 2) (cs' := #[.slice (some ⟨b0, 0, none⟩) l.length c0, .int .i64 (at1 : Int), .bool (!true)]) (by simp) rfl fun w8 S => S.sto 1 rfl (i := 0) (cs' := #[.slice none 0 0, .slice none 0 0, .slice none 0 0]) (by simp) rfl fun w9 S => S.sto 0 rfl (i := 1) (cs' := #[.slice (some ⟨b0, 0, none⟩) l.length c0, .int .i64 ((0 : Nat) : Int), .bool (!true)]) (by simp) rfl fun w10 S => ⟨rfl, 0, true, none, 0, [], S, by omega, .inr ⟨rfl, .inr (by rw [e1, ho])⟩, fun h => by cases h⟩⟩
      | some x =>
        have hsg := (takeSch_seg (k := x.2) (cs := x.1) ho).1.le
        have hne := right_ne (takeSch_right ho)
        rw [ho] at hx
        obtain ⟨a', c', rfl, T⟩ := hx
        have S := S.join T
        refine ⟨_, _, _, _, _, rfl, S.sto 1 rfl (i := 2) (cs' := #[.slice (some ⟨b0, 0, none⟩) l.length c0, .int .i64 (at1 : Int), .bool (!false)]) (by simp) rfl fun w8 S => S.sto 2 rfl (i := 0) (cs' := #[.slice a' x.1.length c', .slice none 0 0, .slice none 0 0]) (by simp) rfl fun w9 S => S.sto 1 rfl (i := 1) (cs' := #[.slice (some ⟨b0, 0, none⟩) l.length c0, .int .i64 (x.2 : Int), .bool (!false)]) (by simp) rfl fun w10 S => ⟨rfl, x.2, false, a', c', x.1, ?_, by omega, .inl ⟨rfl, rfl, by rw [e1, ho]⟩, fun _ => ⟨fun h => by omega, fun h => absurd h hne⟩⟩⟩
        have S := (S.pull 2 rfl).pull 2 rfl
        exact S.sub (.cons_cons _ (.cons_cons _ (.cons_cons _ (.cons _ (List.Sublist.refl _)))))
    · cases b1 with
      | true => exact .inl rfl
      | false =>
        refine .inr ?_
        have : ¬ z = 1 := by simpa using hb
        omega
  clear S
  rintro w11 ⟨_, at2, b2, ca, cc, cs, S, hat2, G0, hzc⟩
  refine (tnumber_ok S 0 5 rfl rfl hl9 hat2 256 (by decide)).mono ?_
  rintro _ w12 ⟨_, rfl, np, at3, b3, rfl, S, G2, hz2, hat3⟩
  have hnp := num_le G2 hz2
  refine ⟨_, rfl, fun st wx => st = [] ∧ ∃ at_ bad pa pc ps, ps.length ≤ np ∧ at_ ≤ 140737488355328 ∧ ST w wx (L at_ bad ca cc pa pc none 0 ⟨cs, ps, []⟩) ∧ Got b3 bad (manyR (partR l) np at3) (ps, at_), ⟨fun st wx => ∃ (i at_ : Nat) (bad : Bool) (pa : Option Addr) (pc : Nat) (ps : List Prt), st = [.int .i64 (i : Int)] ∧ i ≤ np ∧ ps.length = i ∧ at_ ≤ 140737488355328 ∧ ST w wx (L at_ bad ca cc pa pc none 0 ⟨cs, ps, []⟩) ∧ Got b3 bad (manyR (partR l) i at3) (ps, at_), fun st _ => match st with
    | [.int _ i] => np - i.toNat
    | _ => 0, ⟨0, at3, b3, none, 0, [], rfl, by omega, rfl, hat3, S, Got.same _ _⟩, ?_⟩, ?_⟩
  · clear S
    rintro _ w13 ⟨i, at4, b4', pa, pc, ps, hst, hi, hpl, hat4, S, G3⟩
    cases hst
    refine IFB_dec (fun hlt => ⟨_, S.cell 0 rfl rfl, IFB_of (fun hb => ?_) (fun hb => ?_)⟩) (fun hge => ?_)
    · have hb : b4' = false := by simpa using hb
      subst hb
      refine S.draw fun w14 _ S => ⟨_, _, _, S.cell 1 rfl rfl, (tpart_ok S 0 5 (by decide) rfl rfl hll hl9 hat4).mono ?_⟩
      rintro _ w15 ⟨_, rfl, p, at5, b5', rfl, S, G4, hat5⟩
      refine ⟨_, _, rfl, S.cell 1 rfl rfl, S.newB fun b27 w16 _ _ S => ⟨S.cell 2 rfl rfl, ?_⟩⟩
      refine stAppQ S (n := 4) (ps := ps) rfl (p := p) (S.rdc 0 rfl) (by omega) fun a' c' w17 S => ⟨_, _, _, rfl, ?_⟩
      refine S.sto 2 rfl (i := 1) (cs' := #[.slice ca cs.length cc, .slice a' (ps ++ [p]).length c', .slice none 0 0]) (by simp) rfl fun w18 S => ?_
      rw [wrap_succ (by omega)]
      exact ⟨⟨i + 1, at5, b5', a', c', ps ++ [p], rfl, by omega, by simp [hpl], hat5, S.drop 1, G3.bind (g := fun q => (partR l q.2).map fun x => (q.1 ++ [x.1], x.2)) (G4.map (fun x => (ps ++ [x.1], x.2)))⟩, by simp only [Int.toNat_natCast]; omega⟩
    · have hb : b4' = true := by simpa using hb
      subst hb
      exact ⟨rfl, at4, true, pa, pc, ps, by omega, hat4, S, .inr ⟨rfl, G3.no.imp id fun h => manyR_none h hi⟩⟩
    · obtain rfl : i = np := by omega
      exact ⟨rfl, at4, b4', pa, pc, ps, by omega, hat4, S, G3⟩
  clear S
  rintro w19 ⟨_, at4, b6, pa, pc, ps, hpl, hat4, S, G3⟩
  refine (tnumber_ok S 0 5 rfl rfl hl9 hat4 64 (by decide)).mono ?_
  rintro _ w20 ⟨_, rfl, nc, at5, b7, rfl, S, G4, hz4, hat5⟩
  have hnc := num_le G4 hz4
  refine ⟨_, rfl, fun st wx => st = [] ∧ ∃ at_ bad ka kc k, k.length ≤ nc ∧ at_ ≤ 140737488355328 ∧ ST w wx (L at_ bad ca cc pa pc ka kc ⟨cs, ps, k⟩) ∧ Got b7 bad (riseR l nc at5) (k, at_), ⟨fun st wx => ∃ (i at_ : Nat) (bad : Bool) (ka : Option Addr) (kc : Nat) (k : List Cli), st = [.int .i64 (i : Int)] ∧ i ≤ nc ∧ k.length = i ∧ at_ ≤ 140737488355328 ∧ ST w wx (L at_ bad ca cc pa pc ka kc ⟨cs, ps, k⟩) ∧ Got b7 bad (riseR l i at5) (k, at_), fun st _ => match st with
    | [.int _ i] => nc - i.toNat
    | _ => 0, ⟨0, at5, b7, none, 0, [], rfl, by omega, rfl, hat5, S, Got.same _ _⟩, ?_⟩, ?_⟩
  · clear S
    rintro _ w21 ⟨i, at6, b8, ka, kc, k, hst, hi, hkl, hat6, S, G5⟩
    cases hst
    refine IFB_dec (fun hlt => ⟨_, S.cell 0 rfl rfl, IFB_of (fun hb => ?_) (fun hb => ?_)⟩) (fun hge => ?_)
    · have hb : b8 = false := by simpa using hb
      subst hb
      refine (tnumber_ok S 0 5 rfl rfl hl9 hat6 greatN (by decide)).mono ?_
      rintro _ w22 ⟨_, rfl, y1, q1, d1, rfl, S, E1, z1, t1⟩
      refine ⟨_, rfl, (tnumber_ok S 0 5 rfl rfl hl9 t1 greatN (by decide)).mono ?_⟩
      rintro _ w23 ⟨_, rfl, y2, q2, d2, rfl, S, E2, z2, t2⟩
      refine ⟨_, rfl, S.newB fun b40 w24 _ _ S => S.sto 0 rfl (cs' := #[.int .i64 (y1 : Int), .int .i64 0, .int .i64 0, .int .i64 0]) (by simp) rfl fun w25 S => S.sto 0 rfl (cs' := #[.int .i64 (y1 : Int), .int .i64 (y2 : Int), .int .i64 0, .int .i64 0]) (by simp) rfl fun w26 S => S.sto 0 rfl (cs' := #[.int .i64 (y1 : Int), .int .i64 (y2 : Int), .int .i64 0, .int .i64 0]) (by simp) rfl fun w27 S => S.sto 0 rfl (cs' := #[.int .i64 (y1 : Int), .int .i64 (y2 : Int), .int .i64 0, .int .i64 0]) (by simp) rfl fun w28 S => (tnumber_ok S 1 6 rfl rfl hl9 t2 1000 (by decide)).mono ?_⟩
      rintro _ w29 ⟨_, rfl, y3, q3, d3, rfl, S, E3, z3, t3⟩
      refine ⟨_, rfl, (tnumber_ok S 1 6 rfl rfl hl9 t3 greatN (by decide)).mono ?_⟩
      rintro _ w30 ⟨_, rfl, y4, q4, d4, rfl, S, E4, z4, t4⟩
      refine ⟨_, rfl, S.sto 0 rfl (cs' := #[.int .i64 (y1 : Int), .int .i64 (y2 : Int), .int .i64 (y3 : Int), .int .i64 0]) (by simp) rfl fun w31 S => S.sto 0 rfl (cs' := #[.int .i64 (y1 : Int), .int .i64 (y2 : Int), .int .i64 (y3 : Int), .int .i64 (y4 : Int)]) (by simp) rfl fun w32 S => ?_⟩
      obtain ⟨x, hx⟩ : ∃ x : Cli, x = (y1, y2, y3, y4) := ⟨_, rfl⟩
      have F1 : Got false d4 (cli0R l at6) (x, q4) := by
        rw [hx]
        exact E1.bind (g := fun x => (numR l 0 greatN x.2).bind fun y => (numR l 0 1000 y.2).bind fun z => (numR l 0 greatN z.2).map fun u => ((x.1, y.1, z.1, u.1), u.2))
          (E2.bind (g := fun y => (numR l 0 1000 y.2).bind fun z => (numR l 0 greatN z.2).map fun u => ((y1, y.1, z.1, u.1), u.2)) (E3.bind (g := fun z => (numR l 0 greatN z.2).map fun u => ((y1, y2, z.1, u.1), u.2)) (E4.map (fun u => ((y1, y2, y3, u.1), u.2)))))
      have F2 : Got b7 (d4 || !upB k x) (riseR l (i + 1) at5) (k ++ [x], q4) := by
        rw [riseR_step]
        refine G5.bind (g := fun q => (cli0R l q.2).bind fun x => if upB q.1 x.1 = true then some (q.1 ++ [x.1], x.2) else none) ?_
        refine F1.bind (g := fun y => if upB k y.1 = true then some (k ++ [y.1], y.2) else none) ?_
        cases hu : upB k x with
        | true => rw [if_pos rfl]; simp only [Bool.not_true, Bool.or_false]; exact Got.same _ _
        | false => rw [if_neg Bool.false_ne_true]; simp only [Bool.not_false, Bool.or_true]; exact .inr ⟨rfl, .inr rfl⟩
      let X : Nat → List It := fun _ => It.cells b40 #[.int .i64 (y1 : Int), .int .i64 (y2 : Int), .int .i64 (y3 : Int), .int .i64 (y4 : Int)] ty.ref22_Client :: L q4 (d4 || !upB k x) ca cc pa pc ka kc ⟨cs, ps, k⟩
      have put : ∀ (v : Bool) {wx : World}, (v = !(d4 || !upB k x)) → ST w wx (It.cells b40 #[.int .i64 (y1 : Int), .int .i64 (y2 : Int), .int .i64 (y3 : Int), .int .i64 (y4 : Int)] ty.ref22_Client :: L q4 d4 ca cc pa pc ka kc ⟨cs, ps, k⟩) → STO ⟨b4, 2, none⟩ (.bool v) (fun w' => ([] : List Value) = [] ∧ ST w w' (X 0)) wx := fun v wx hv S =>
        S.sto 1 rfl (i := 2) (cs' := #[.slice (some ⟨b0, 0, none⟩) l.length c0, .int .i64 (q4 : Int), .bool (!(d4 || !upB k x))]) (by simp) (by rw [hv]; rfl) fun w' S => ⟨rfl, S⟩
      have hup : upB k x = (decide (1 ≤ y2) && lastB k x) := by rw [hx]; rfl
      refine ⟨fun st wx => st = [] ∧ ST w wx (X 0), S.draw fun w33 _ S => ⟨_, S.cell 1 rfl rfl, IFB_of (fun hb => ?_) (fun hb => ?_)⟩, ?_⟩
      · have hb : d4 = false := by simpa using hb
        subst hb
        refine ⟨_, S.cell 0 rfl rfl, IFB_dec (fun h1 => ?_) (fun h1 => put false (by rw [hup, decide_eq_false (by omega)]; rfl) S)⟩
        have hu1 : upB k x = lastB k x := by rw [hup, decide_eq_true (by omega), Bool.true_and]
        refine IFB_eq (fun h2 => put true ?_ S) (fun h2 => ?_)
        · have : k = [] := List.length_eq_zero_iff.1 (by omega)
          rw [hu1, this]
          rfl
        · have hk0 : 0 < k.length := by omega
          refine ⟨_, _, _, S.cell 2 rfl rfl, ?_⟩
          have ew : IntKind.i64.wrap ((i : Int) - 1) = ((k.length - 1 : Nat) : Int) := by rw [wrap_i64 (by omega) (by omega)]; omega
          rw [ew]
          obtain ⟨p, hp, c0', _, _, _⟩ := cli_at (k := k) (S.rd 5 rfl) (i := k.length - 1) (by omega)
          subst hp
          refine ⟨⟨by omega, (show ((k.length - 1 : Nat) : Int) < ((k.length : Nat) : Int) by omega)⟩, _, by rw [Int.toNat_natCast]; exact c0', _, S.cell 0 rfl rfl, put _ ?_ S⟩
          rw [hu1, last_at hk0, hx]
          simp
      · have hb : d4 = true := by simpa using hb
        subst hb
        exact put false rfl S
      clear S
      have hk6 : k.length + 1 ≤ 1000000 := by omega
      have hi6 : i + 1 ≤ nc := by omega
      rintro w38 ⟨_, S⟩
      refine S.draw fun w39 _ S => ⟨_, _, _, S.cell 2 rfl rfl, _, S.cell 0 rfl rfl, _, S.cell 0 rfl rfl, _, S.cell 0 rfl rfl, _, S.cell 0 rfl rfl, S.newB fun b57 w40 _ _ S => ⟨S.cell 3 rfl rfl, ?_⟩⟩
      refine stAppCl S (n := 6) (k := k) rfl (x := x) (by rw [hx]; exact S.rdc 0 rfl) hk6 fun a' c' w41 S => ⟨_, _, _, rfl, ?_⟩
      refine S.sto 3 rfl (i := 2) (cs' := #[.slice ca cs.length cc, .slice pa ps.length pc, .slice a' (k ++ [x]).length c']) (by simp) rfl fun w42 S => ?_
      rw [wrap_succ (by omega)]
      exact ⟨⟨i + 1, q4, _, a', c', k ++ [x], rfl, by omega, by simp [hkl], t4, S.drop 2, F2⟩, by simp only [Int.toNat_natCast]; omega⟩
    · have hb : b8 = true := by simpa using hb
      subst hb
      exact ⟨rfl, at6, true, ka, kc, k, by omega, hat6, S, .inr ⟨rfl, G5.no.imp id fun h => riseR_none h hi⟩⟩
    · obtain rfl : i = nc := by omega
      exact ⟨rfl, at6, b8, ka, kc, k, by omega, hat6, S, G5⟩
  clear S
  rintro w43 ⟨_, at6, b8, ka, kc, k, hkl, hat6, S, G5⟩
  have GC : Got false b8 (docR l) ((⟨cs, ps, k⟩ : Cat), at6) := G0.bind (g := fun c => (numR l 0 256 c.2).bind fun n => (manyR (partR l) n.1 n.2).bind fun p => (numR l 0 64 p.2).bind fun m => (riseR l m.1 m.2).map fun k => ((⟨c.1, p.1, k.1⟩ : Cat), k.2))
    (G2.bind (g := fun n => (manyR (partR l) n.1 n.2).bind fun p => (numR l 0 64 p.2).bind fun m => (riseR l m.1 m.2).map fun k => ((⟨cs, p.1, k.1⟩ : Cat), k.2)) (G3.bind (g := fun p => (numR l 0 64 p.2).bind fun m => (riseR l m.1 m.2).map fun k => ((⟨cs, p.1, k.1⟩ : Cat), k.2))
      (G4.bind (g := fun m => (riseR l m.1 m.2).map fun k => ((⟨cs, ps, k.1⟩ : Cat), k.2)) (G5.map (fun k => ((⟨cs, ps, k.1⟩ : Cat), k.2))))))
  have hone : ∀ c, GoodL l c → b8 = false ∧ c = ⟨cs, ps, k⟩ ∧ at6 = l.length := fun c hG => by
    obtain ⟨h1, h2⟩ := GC.some (docR_iff.2 ⟨hG.read, hG.rise⟩)
    obtain ⟨h3, h4⟩ := Prod.mk.inj h2
    exact ⟨h1, h3.symm, h4⟩
  refine ⟨_, S.cell 0 rfl rfl, IFB_of (fun hb => .inr ⟨fun c hG => ?_, rfl, S.bel⟩) (fun hb => ⟨_, S.cell 0 rfl rfl, IFB_ne (fun h => .inr ⟨fun c hG => ?_, rfl, S.bel⟩) (fun h => ?_)⟩)⟩
  · rw [(hone c hG).1] at hb
    simp at hb
  · have := (hone c hG).2.2
    omega
  have hb : b8 = false := by simpa using hb
  have S9 : ST w w43 (docH b5 ca cc pa pc ka kc ⟨cs, ps, k⟩) := S.sub (.cons _ (List.sublist_append_left _ _))
  subst hb
  have g5 := G5.ok.1
  subst g5
  have g4 := G4.ok.1
  subst g4
  have g3 := G3.ok.1
  subst g3
  have g2 := G2.ok.1
  subst g2
  obtain ⟨hread, hrise⟩ := docR_iff.1 GC.ok.2
  have hlen : at6 = l.length := by omega
  rw [hlen] at hread
  have good : (cs = [] → ps = []) → DocV l w w43 (.tuple #[.pointer (some ⟨b5, 0, none⟩), .int .i64 0]) := fun h => .inl ⟨⟨cs, ps, k⟩, b5, ca, cc, pa, pc, ka, kc, ⟨hread, h, hrise⟩, rfl, S9⟩
  refine IFB_eq (fun h0 => ⟨_, _, _, S9.cell 0 rfl rfl, IFB_dec (fun h1 => .inr ⟨fun c hG => ?_, rfl, S9.bel⟩) (fun h1 => good fun _ => ?_)⟩) (fun h0 => good fun h1 => ?_)
  · obtain ⟨_, rfl, _⟩ := hone c hG
    have : ps = [] := hG.empty ((hzc rfl).1 (by omega))
    rw [this] at h1
    simp at h1
  · have : ps.length = 0 := by simp only at h1; omega
    exact List.length_eq_zero_iff.1 this
  · have := (hzc rfl).2 h1
    omega
end
theorem prt_beq (p q : Prt) : ((p.1 == q.1) && (((p.2 : Int) == (q.2 : Int)) && true)) = decide (p = q) := by
  obtain ⟨a, b⟩ := p
  obtain ⟨c, d⟩ := q
  rw [Bool.eq_iff_iff]
  simp only [beq_str, Bool.and_true, Bool.and_eq_true, beq_iff_eq, decide_eq_true_eq, Prod.mk.injEq]
  constructor
  · rintro ⟨h1, h2⟩; exact ⟨h1, by omega⟩
  · rintro ⟨h1, h2⟩; exact ⟨h1, by omega⟩
section
variable {w0 w : World} {H : List It} {a a2 : Option Addr} {c c2 : Nat}
theorem SameParts_ok {ls ms : List Prt} (hl : Rd w a (prtsL ls)) (hm : Rd w a2 (prtsL ms)) (hn : ls.length ≤ 9223372036854775807) :
    Calls Tryz.prog f.ref22_SameParts #[.slice a ls.length c, .slice a2 ms.length c2] w (Ret fun v w' => Below w.heap.size w w' ∧ v = .bool (decide (ls = ms))) := by
  apply R.ref22_SameParts_calls
  unfold R.ref22_SameParts
  refine IFB_ne (fun h => ⟨.refl _ _, ?_⟩) (fun hlen => ?_)
  · congr 1
    rw [eq_comm, decide_eq_false_iff_not]
    rintro rfl
    exact h rfl
  have hlen' : ls.length = ms.length := by omega
  refine ⟨fun s w1 => ∃ i : Nat, i ≤ ls.length ∧ s = [.int .i64 (i : Int)] ∧ Below w.heap.size w w1 ∧ ls.take i = ms.take i, fun s _ => match s with
      | [.int _ i] => ls.length - i.toNat
      | _ => 0, ⟨0, by omega, rfl, .refl _ _, rfl⟩, ?_⟩
  rintro _ w1 ⟨i, hi, hs, B1, hT⟩
  cases hs
  refine IFB_dec (fun hlt => ?_) (fun hge => ⟨B1, ?_⟩)
  · have h1 : i < ls.length := by omega
    have h2 : i < ms.length := by omega
    refine (SH.start (fun _ => False) w1).drawB fun w2 B2 _ => ⟨⟨by omega, hlt⟩, ?_⟩
    have C2 := below_trans B1 B2
    obtain ⟨p1, rfl, c0, c1⟩ := prt_at (hl.grown C2) h1
    obtain ⟨p2, rfl, d0, d1⟩ := prt_at (hm.grown C2) h2
    refine ⟨⟨by omega, by omega⟩, _, by rw [Int.toNat_natCast]; exact c0, _, by rw [Int.toNat_natCast]; exact c1, _, by rw [Int.toNat_natCast]; exact d0, _, by rw [Int.toNat_natCast]; exact d1, ?_⟩
    rw [prt_beq]
    refine IFB_not (IFB_dec (fun he => ?_) (fun he => ⟨C2, ?_⟩))
    · rw [wrap_succ (by omega)]
      refine ⟨⟨i + 1, by omega, rfl, C2, ?_⟩, ?_⟩
      · rw [List.take_succ_eq_append_getElem h1, List.take_succ_eq_append_getElem h2, hT, he]
      · simp only [Int.toNat_natCast]
        omega
    · congr 1
      rw [eq_comm, decide_eq_false_iff_not]
      rintro rfl
      exact he rfl
  · congr 1
    rw [eq_comm, decide_eq_true_eq]
    rw [List.take_of_length_le (by omega), List.take_of_length_le (by omega)] at hT
    exact hT
theorem Client_ok {bc bm n cc pc : Nat} {ca pa : Option Addr} {C : CatS} (S : ST w0 w (catH bc ca cc pa pc bm n C ++ H)) {id : Int} (hid : -9223372036854775808 ≤ id ∧ id ≤ 9223372036854775807) :
    Calls Tryz.prog f.catalog_Catalog_Client #[.pointer (some ⟨bc, 0, none⟩), .int .i64 id] w (Ret fun v w' => v = (match (gOf C.k id).getD (0, 0, 0) with | (x, y, z) => .tuple #[.int .i64 x, .agg #[.int .i64 y, .int .i64 z]]) ∧ Below w.heap.size w w') := by
  apply R.catalog_Catalog_Client_calls
  unfold R.catalog_Catalog_Client
  refine (ST.start w).newB fun b3 w1 _ B1 P => IFB_false ⟨_, (S.grown B1).cell 0 rfl rfl, (S.grown B1).mgetI 3 rfl und_i64 und_cmap (zero_cli _) hid ?_⟩
  obtain ⟨x, y, z⟩ : Tri := (gOf C.k id).getD (0, 0, 0)
  exact ⟨_, _, _, rfl, P.newB fun b12 w5 _ _ P => P.sto 0 rfl (cs' := #[.int .i64 x, .int .i64 0, .int .i64 0]) (by simp) rfl fun w6 P => P.sto 0 rfl (cs' := #[.int .i64 x, .int .i64 y, .int .i64 0]) (by simp) rfl fun w7 P => P.sto 0 rfl (cs' := #[.int .i64 x, .int .i64 y, .int .i64 z]) (by simp) rfl fun w8 P => P.draw fun w9 _ P =>
    ⟨_, P.cell 0 rfl rfl, _, P.cell 0 rfl rfl, _, P.cell 0 rfl rfl, P.sto 1 rfl (cs' := #[.int .i64 y, .int .i64 0]) (by simp) rfl fun w10 P => P.sto 1 rfl (cs' := #[.int .i64 y, .int .i64 z]) (by simp) rfl fun w11 P => ⟨_, P.cell 1 rfl rfl, _, P.cell 1 rfl rfl, rfl, P.bel⟩⟩⟩
theorem CatCols_ok {bc bm n cc pc : Nat} {ca pa : Option Addr} {C : CatS} (S : ST w0 w (catH bc ca cc pa pc bm n C ++ H)) (hC : C.cols.length ≤ 100000) :
    Calls Tryz.prog f.catalog_Catalog_Cols #[.pointer (some ⟨bc, 0, none⟩)] w (Ret fun v w' => ∃ a' c', v = .slice a' C.cols.length c' ∧ ST w w' [colsI a' c' C.cols]) := by
  apply R.catalog_Catalog_Cols_calls
  unfold R.catalog_Catalog_Cols
  refine IFB_false ⟨_, _, _, S.cell 0 rfl rfl, (CloneC_ok (S.rd 1 rfl) hC).mono ?_⟩
  rintro _ w1 ⟨_, rfl, a', c', rfl, T⟩
  exact ⟨_, _, _, rfl, a', c', rfl, T⟩
set_option maxHeartbeats 2000000 in
theorem DocSnap_ok {b cc pc kc : Nat} {ca pa ka : Option Addr} {C : Cat} (S : ST w0 w (docH b ca cc pa pc ka kc C ++ H)) (hC : CatOk C) :
    Calls Tryz.prog f.ref22_Catalog_Snapshot #[.pointer (some ⟨b, 0, none⟩)] w (Ret fun v w' => v = .string (sof (snapL C.cols C.parts C.clis)) ∧ Below w.heap.size w w') := by
  apply R.ref22_Catalog_Snapshot_calls
  unfold R.ref22_Catalog_Snapshot
  have hnp := hC.np
  have hnc := hC.nc
  have d0 := digitsL_len10 (n := 0) (by omega)
  have d1 := digitsL_len10 (n := 1) (by omega)
  refine (ref_Number_ok (a := none) (c := 0) [] (Rd.nil _ _) 0 (by omega) (by simp)).mono ?_
  rintro _ w1 ⟨_, rfl, a1, c1, rfl, h1⟩
  rw [List.nil_append] at h1 ⊢
  have hS0 := S
  have S := S.grown h1.bel
  have P := stAddB (ST.start w) h1
  refine ⟨_, _, _, rfl, fun s wx => ∃ a c, s = [.slice a (hasL C.cols).length c] ∧ ST w wx [bytesI a c (hasL C.cols)], ⟨_, _, _, S.cell 0 rfl rfl, IFB_dec (fun hb => ?_) (fun hb => ?_)⟩, ?_⟩
  · have hne : C.cols ≠ [] := fun e => by rw [e] at hb; simp at hb
    have hR : rightCols C.cols = true := by
      rcases hC.cols with h | h
      · exact absurd h hne
      · exact h
    have hcl := right_len hR
    have hq : ∀ c ∈ C.cols, c.1.size ≤ 9223372036854775807 := fun c hc => by have := (right_col hR hc).2.2.2; omega
    refine S.draw fun w2 B2 S => ⟨_, _, _, S.cell 0 rfl rfl, (ref_Number_ok (a := none) (c := 0) [] (Rd.nil _ _) 1 (by omega) (by simp)).mono ?_⟩
    rintro _ w3 ⟨_, rfl, a3, c3, rfl, h3⟩
    rw [List.nil_append] at h3 ⊢
    have S := S.grown h3.bel
    have P := stAddB (P.grown B2) h3
    refine ⟨_, _, _, rfl, S.cell 0 rfl rfl, (ref05_Lay_ok (l := digitsL 1) (c := c3) h3.rd (by omega) (S.rd 1 rfl) (by omega) hq).mono ?_⟩
    rintro _ w4 ⟨_, rfl, h4⟩
    rcases h4 with ⟨h, _⟩ | ⟨_, a4, c4, rfl, h4⟩
    · rw [hR] at h; cases h
    refine ⟨_, _, _, _, rfl, a4, c4, ?_, ?_⟩
    · rw [hasL, if_neg hne]
    · rw [hasL, if_neg hne]; exact (stAddB P h4).sub (.cons_cons _ (List.nil_sublist _))
  · have hn0 : C.cols = [] := List.length_eq_zero_iff.1 (by omega)
    refine ⟨a1, c1, ?_, ?_⟩
    · rw [hasL, if_pos hn0]
    · rw [hasL, if_pos hn0]; exact P
  rintro a5 _ c5 w5 ⟨_, _, hs, P⟩
  cases hs
  have hl5 := hasL_len hC.cols
  have S := hS0.grown P.bel
  have dp := digitsL_len10 (n := C.parts.length) (by omega)
  refine ⟨_, _, _, S.cell 0 rfl rfl, ?_⟩
  rw [wrap_u64_id (by omega) (by omega)]
  refine (ref_Number_ok (hasL C.cols) (stRdB P 0 rfl) C.parts.length (by omega) (by omega)).mono ?_
  rintro _ w6 ⟨_, rfl, a6, c6, rfl, h6⟩
  have P := (stAddB P h6).keep 1
  refine ⟨_, _, _, rfl, fun s wx => ∃ (i : Nat) (out : List UInt8) (oa : Option Addr) (oc : Nat), s = [.slice oa out.length oc, .int .i64 (i : Int)] ∧ i ≤ C.parts.length ∧ out = hasL C.cols ++ digitsL C.parts.length ++ (C.parts.take i).flatMap encP ∧ ST w wx [bytesI oa oc out], fun s _ => match s with
    | [_, .int _ i] => C.parts.length - i.toNat
    | _ => 0, ⟨0, _, a6, c6, rfl, by omega, by simp, P⟩, ?_⟩
  clear S P h6
  rintro oa _ oc _ w7 ⟨i, out, _, _, hst, hi, hout, P⟩
  cases hst
  have hol : out.length ≤ 30000 := by
    have := encPs_len (ps := C.parts.take i) fun p hp => hC.parts p (List.mem_of_mem_take hp)
    rw [List.length_take] at this
    rw [hout]
    simp only [List.length_append]
    omega
  have S := hS0.grown P.bel
  refine ⟨_, _, _, S.cell 0 rfl rfl, IFB_dec (fun hlt => ?_) (fun hge => ?_)⟩
  · have hil : i < C.parts.length := by omega
    have hpo := hC.parts _ (List.getElem_mem hil)
    obtain ⟨p, hp, e0, e1⟩ := prt_at (S.rd 2 rfl) hil
    subst hp
    have hp64 := hpo.1
    have hp24 := hpo.2
    refine ⟨_, _, _, S.cell 0 rfl rfl, ⟨by omega, by omega⟩, _, by rw [Int.toNat_natCast]; exact e0, ?_⟩
    refine (ref_Text_ok out (stRdB P 0 rfl) C.parts[i].1 (by omega) (by omega)).mono ?_
    rintro _ w11 ⟨_, rfl, a11, c11, rfl, h11⟩
    have dt := text_len (s := C.parts[i].1) (by omega)
    have P := stAddB P h11
    have S := hS0.grown P.bel
    obtain ⟨p', hp', e0', e1'⟩ := prt_at (S.rd 2 rfl) hil
    cases hp'
    refine ⟨_, _, _, _, rfl, _, _, _, S.cell 0 rfl rfl, ⟨by omega, by omega⟩, _, by rw [Int.toNat_natCast]; exact e1', ?_⟩
    rw [wrap_u64_id (n := ((C.parts[i].2 : Nat) : Int)) (by omega) (by omega)]
    refine (ref_Number_ok _ (stRdB P 0 rfl) C.parts[i].2 (by omega) (by rw [List.length_append]; omega)).mono ?_
    rintro _ w12 ⟨_, rfl, a12, c12, rfl, h12⟩
    have P := (stAddB P h12).keep 2
    rw [wrap_succ (by omega)]
    refine ⟨_, _, _, rfl, ⟨i + 1, _, a12, c12, rfl, by omega, ?_, P⟩, by simp only [Int.toNat_natCast]; omega⟩
    rw [hout, List.take_succ_eq_append_getElem hil, List.flatMap_append]
    simp [encP]
  · obtain rfl : i = C.parts.length := by omega
    rw [List.take_length] at hout
    have hmid : out = midL C.cols C.parts := hout
    refine ⟨_, _, _, S.cell 0 rfl rfl, ?_⟩
    rw [wrap_u64_id (by omega) (by omega)]
    have dc := digitsL_len10 (n := C.clis.length) (by omega)
    refine (ref_Number_ok out (stRdB P 0 rfl) C.clis.length (by omega) (by omega)).mono ?_
    rintro _ w14 ⟨_, rfl, a14, c14, rfl, h14⟩
    have P := (stAddB P h14).keep 1
    refine ⟨_, _, _, rfl, fun s wx => ∃ (i : Nat) (out2 : List UInt8) (oa : Option Addr) (oc : Nat), s = [.slice oa out2.length oc, .int .i64 (i : Int)] ∧ i ≤ C.clis.length ∧ out2 = out ++ digitsL C.clis.length ++ (C.clis.take i).flatMap encC ∧ ST w wx [bytesI oa oc out2], fun s _ => match s with
      | [_, .int _ i] => C.clis.length - i.toNat
      | _ => 0, ⟨0, _, a14, c14, rfl, by omega, by simp, P⟩, ?_⟩
    clear S P h14
    rintro oa _ oc _ w17 ⟨i, out2, _, _, hst, hi, hout2, P⟩
    cases hst
    have hol2 : out2.length ≤ 40000 := by
      have h1 := encCs_len (ks := C.clis.take i) fun c hc => hC.clis c (List.mem_of_mem_take hc)
      rw [List.length_take] at h1
      rw [hout2]
      simp only [List.length_append]
      omega
    have S := hS0.grown P.bel
    refine ⟨_, _, _, S.cell 0 rfl rfl, IFB_dec (fun hlt => ?_) (fun hge => ?_)⟩
    · have hil : i < C.clis.length := by omega
      obtain ⟨g1, ⟨_, g2⟩, g3, g4⟩ := hC.clis _ (List.getElem_mem hil)
      simp only [greatN] at g1 g2 g3 g4
      obtain ⟨p, hp, e0, e1, e2, e3⟩ := cli_at (S.rd 3 rfl) hil
      subst hp
      obtain ⟨⟨x1, x2, x3, x4⟩, hx⟩ : ∃ x : Cli, x = C.clis[i] := ⟨_, rfl⟩
      rw [← hx] at e0 e1 e2 e3 g1 g2 g3 g4
      simp only at e0 e1 e2 e3 g1 g2 g3 g4
      refine ⟨_, _, _, S.cell 0 rfl rfl, ⟨by omega, by omega⟩, _, by rw [Int.toNat_natCast]; exact e0, _, by rw [Int.toNat_natCast]; exact e1, _, by rw [Int.toNat_natCast]; exact e2, _, by rw [Int.toNat_natCast]; exact e3, ?_⟩
      refine P.newB fun b55 w13 _ _ P => P.sto 0 rfl (cs' := #[.int .i64 (x1 : Int), .int .i64 0, .int .i64 0, .int .i64 0]) (by simp) rfl fun w14 P => P.sto 0 rfl (cs' := #[.int .i64 (x1 : Int), .int .i64 (x2 : Int), .int .i64 0, .int .i64 0]) (by simp) rfl fun w15 P => P.sto 0 rfl (cs' := #[.int .i64 (x1 : Int), .int .i64 (x2 : Int), .int .i64 (x3 : Int), .int .i64 0]) (by simp) rfl fun w16 P => P.sto 0 rfl (cs' := #[.int .i64 (x1 : Int), .int .i64 (x2 : Int), .int .i64 (x3 : Int), .int .i64 (x4 : Int)]) (by simp) rfl fun w17 P => P.draw fun w18 _ P => ⟨_, P.cell 0 rfl rfl, _, P.cell 0 rfl rfl, ?_⟩
      have dx1 := digitsL_len10 (n := x1) (by omega)
      have dx2 := digitsL_len10 (n := x2) (by omega)
      have dx3 := digitsL_len10 (n := x3) (by omega)
      rw [wrap_u64_id (n := ((x1 : Nat) : Int)) (by omega) (by omega)]
      refine (ref_Number_ok out2 (stRdB P 1 rfl) x1 (by omega) (by omega)).mono ?_
      rintro _ w19 ⟨_, rfl, a19, c19, rfl, k1⟩
      have P := stAddB P k1
      refine ⟨_, _, _, rfl, P.cell 1 rfl rfl, ?_⟩
      rw [wrap_u64_id (n := ((x2 : Nat) : Int)) (by omega) (by omega)]
      refine (ref_Number_ok _ (stRdB P 0 rfl) x2 (by omega) (by simp only [List.length_append]; omega)).mono ?_
      rintro _ w20 ⟨_, rfl, a20, c20, rfl, k2⟩
      have P := stAddB P k2
      refine ⟨_, _, _, rfl, P.draw fun w21 _ P => ⟨_, P.cell 2 rfl rfl, _, P.cell 2 rfl rfl, ?_⟩⟩
      rw [wrap_u64_id (n := ((x3 : Nat) : Int)) (by omega) (by omega)]
      refine (ref_Number_ok _ (stRdB P 0 rfl) x3 (by omega) (by simp only [List.length_append]; omega)).mono ?_
      rintro _ w22 ⟨_, rfl, a22, c22, rfl, k3⟩
      have P := stAddB P k3
      refine ⟨_, _, _, rfl, P.cell 3 rfl rfl, ?_⟩
      rw [wrap_u64_id (n := ((x4 : Nat) : Int)) (by omega) (by omega)]
      refine (ref_Number_ok _ (stRdB P 0 rfl) x4 (by omega) (by simp only [List.length_append]; omega)).mono ?_
      rintro _ w23 ⟨_, rfl, a23, c23, rfl, k4⟩
      have P := (stAddB P k4).keep 5
      rw [wrap_succ (by omega)]
      refine ⟨_, _, _, rfl, ⟨i + 1, _, a23, c23, rfl, by omega, ?_, P⟩, by simp only [Int.toNat_natCast]; omega⟩
      rw [hout2, List.take_succ_eq_append_getElem hil, List.flatMap_append, ← hx]
      simp [encC]
    · obtain rfl : i = C.clis.length := by omega
      rw [List.take_length, hmid] at hout2
      refine string_of_bytes tbytes rfl (stRdB P 0 rfl) ⟨_, rfl, ?_, P.bel⟩
      rw [hout2]
      rfl
end
theorem mapOf_rise {k : List Cli} (h : Rising k) {c : Cli} (hc : c ∈ k) : mapOf k c.1 = some c.2 := by
  obtain ⟨x, hx⟩ := Option.isSome_iff_exists.1 ((mapOf_some (k := k) (i := c.1)).2 (List.mem_map.2 ⟨c, hc, rfl⟩))
  have e := rising_nodup h (mapOf_mem hx) hc rfl
  rw [hx, ← e]
section
variable {w0 w : World} {H : List It}
set_option maxHeartbeats 1000000 in
theorem Same_ok {b cc pc kc bc cc' pc' bm n : Nat} {ca pa ka ca' pa' : Option Addr} {C : Cat} (S : ST w0 w (docH b ca cc pa pc ka kc C ++ (catH bc ca' cc' pa' pc' bm n (catS C) ++ []))) (hC : CatOk C) (hr : Rising C.clis) (hca : ca' = none ↔ C.cols = []) (hn : n ≤ 64) :
    Calls Tryz.prog f.law22_same #[.pointer (some ⟨bc, 0, none⟩), .pointer (some ⟨b, 0, none⟩)] w (Ret fun v w' => v = .bool true ∧ Below w.heap.size w w') := by
  apply R.law22_same_calls
  unfold R.law22_same
  have hnp := hC.np
  have hnc := hC.nc
  have hcl : C.cols.length ≤ 16 := by
    rcases hC.cols with h | h
    · rw [h]; simp
    · exact (right_len h).2
  have hcnt : cntC C.clis ≤ 100000 := by have := idsOf_le C.clis; simp only [cntC]; omega
  have hCS := catS_ok hC
  have S0 := S
  refine (ST.start w).draw fun w1 B1 _ => ⟨_, _, _, (S.grown B1).cell 0 rfl rfl, ?_⟩
  have S := S.grown B1
  refine (CatCols_ok (C := catS C) (S.drop 4) (by show C.cols.length ≤ _; omega)).mono ?_
  rintro _ w2 ⟨_, rfl, a9, c9, rfl, T9⟩
  have C2 := below_trans B1 T9.bel
  have S := S0.grown C2
  refine ⟨_, _, _, rfl, S.cell 0 rfl rfl, (ref05_Same_ok (T9.rd 0 rfl) (S.rd 1 rfl) (by show C.cols.length ≤ _; omega)).mono ?_⟩
  rintro _ w3 ⟨_, rfl, B3, rfl⟩
  have C3 := below_trans C2 B3
  have S := S0.grown C3
  refine ⟨_, rfl, IFB_not (IFB_dec (fun _ => ?_) (fun h => absurd rfl h))⟩
  refine ⟨_, _, _, S.cell 0 rfl rfl, (Parts_ok (C := catS C) (S.drop 4) (by show C.parts.length ≤ _; omega)).mono ?_⟩
  rintro _ w4 ⟨_, rfl, a18, c18, rfl, T18⟩
  have C4 := below_trans C3 T18.bel
  have S := S0.grown C4
  refine ⟨_, _, _, rfl, S.cell 0 rfl rfl, (SameParts_ok (T18.rd 0 rfl) (S.rd 2 rfl) (by show C.parts.length ≤ _; omega)).mono ?_⟩
  rintro _ w5 ⟨_, rfl, B5, rfl⟩
  have C5 := below_trans C4 B5
  have S := S0.grown C5
  refine ⟨_, rfl, IFB_not (IFB_dec (fun _ => ?_) (fun h => absurd rfl h))⟩
  refine (Snapshot_ok (C := catS C) (S.drop 4) hCS hca (by omega) hcnt).mono ?_
  rintro _ w6 ⟨_, rfl, ids, hup, hmem, rfl, B6⟩
  have C6 := below_trans C5 B6
  have S := S0.grown C6
  have ek : cliOf (mapOf (catS C).k) ids = C.clis := (cliOf_rise hup hmem).2 hr
  rw [ek]
  refine ⟨_, rfl, (DocSnap_ok S hC).mono ?_⟩
  rintro _ w7 ⟨_, rfl, rfl, B7⟩
  have C7 := below_trans C6 B7
  refine ⟨_, rfl, IFB_not (IFB_of (fun _ => ?_) (fun h => by rw [bytesEq_iff] at h; exact absurd rfl (of_decide_eq_false h)))⟩
  refine ⟨fun s wx => ∃ i : Nat, s = [.int .i64 (i : Int)] ∧ i ≤ C.clis.length ∧ Below w.heap.size w wx, fun s _ => match s with
    | [.int _ i] => C.clis.length - i.toNat
    | _ => 0, ⟨0, rfl, by omega, C7⟩, ?_⟩
  rintro _ w8 ⟨i, hst, hi, C8⟩
  cases hst
  have S := S0.grown C8
  refine ⟨_, _, _, S.cell 0 rfl rfl, IFB_dec (fun hlt => ?_) (fun hge => ⟨rfl, C8⟩)⟩
  have hil : i < C.clis.length := by omega
  obtain ⟨g1, ⟨_, g2⟩, g3, g4⟩ := hC.clis _ (List.getElem_mem hil)
  simp only [greatN] at g1 g2 g3 g4
  obtain ⟨p, hp, e0, e1, e2, e3⟩ := cli_at (k := C.clis) (S.rd 3 rfl) hil
  subst hp
  obtain ⟨⟨x1, x2, x3, x4⟩, hx⟩ : ∃ x : Cli, x = C.clis[i] := ⟨_, rfl⟩
  have hm := mapOf_rise hr (List.getElem_mem hil)
  rw [← hx] at e0 e1 e2 e3 g1 g2 g3 g4 hm
  simp only at e0 e1 e2 e3 g1 g2 g3 g4 hm
  have hlc : ((i : Int)) < (C.clis.length : Int) := by omega
  refine ⟨_, _, _, S.cell 0 rfl rfl, ⟨by omega, hlc⟩, _, by rw [Int.toNat_natCast]; exact e0, ?_⟩
  refine (Client_ok (C := catS C) (S.drop 4) (id := (x1 : Int)) (by omega)).mono ?_
  rintro _ w9 ⟨_, rfl, rfl, B9⟩
  have C9 := below_trans C8 B9
  have eg : (gOf (catS C).k (x1 : Int)).getD (0, 0, 0) = ((x2 : Int), (x3 : Int), (x4 : Int)) := by
    show (gOf C.clis (x1 : Int)).getD (0, 0, 0) = _
    rw [gOf_nat, hm]
    rfl
  rw [eg]
  have S := S0.grown C9
  have P := (ST.start w).grown C9
  refine ⟨_, _, _, rfl, P.newB fun b31 w10 _ _ P => P.sto 0 rfl (cs' := #[.int .i64 (x3 : Int), .int .i64 0]) (by simp) rfl fun w11 P => P.sto 0 rfl (cs' := #[.int .i64 (x3 : Int), .int .i64 (x4 : Int)]) (by simp) rfl fun w12 P => P.draw fun w13 _ P => ?_⟩
  have S := S0.grown P.bel
  obtain ⟨p', hp', _, e1', e2', e3'⟩ := cli_at (k := C.clis) (S.rd 3 rfl) hil
  cases hp'
  rw [← hx] at e1' e2' e3'
  simp only at e1' e2' e3'
  refine ⟨_, _, _, S.cell 0 rfl rfl, ⟨by omega, hlc⟩, _, by rw [Int.toNat_natCast]; exact e1', ?_⟩
  refine IFB_ne (fun h => absurd rfl h) (fun _ => ?_)
  refine ⟨_, P.cell 0 rfl rfl, _, P.cell 0 rfl rfl, _, _, _, S.cell 0 rfl rfl, ⟨by omega, hlc⟩, _, by rw [Int.toNat_natCast]; exact e2', _, by rw [Int.toNat_natCast]; exact e3', ?_⟩
  refine IFB_not (IFB_of (fun _ => ?_) (fun h => by simp at h))
  rw [wrap_succ (by omega)]
  exact ⟨⟨i + 1, rfl, by omega, P.bel⟩, by simp only [Int.toNat_natCast]; omega⟩
end
section
variable {w : World}
theorem CatalogLoads_ok (T : Tabs w) (s : ByteArray) (hs : s.size ≤ reachBytes) : Calls Tryz.prog f.law22_CatalogLoads #[.string s] w (Ret fun v w' => v = .bool true ∧ Below w.heap.size w w') := by
  apply R.law22_CatalogLoads_calls
  unfold R.law22_CatalogLoads
  have hs9 : s.size ≤ 140737488355328 := Nat.le_trans hs (by decide)
  refine (shown_ok T).mono ?_
  rintro _ w1 ⟨_, rfl, rfl, B1⟩
  refine ⟨_, rfl, (Load_ok s hs9).mono ?_⟩
  rintro _ w2 ⟨_, rfl, h2⟩
  rcases h2 with ⟨c, bc, ca, cc, pa, pc, bm, n, hG, rfl, hn, hca, S⟩ | ⟨hno, rfl, B2⟩
  · refine ⟨_, _, rfl, (DocLoad_ok s hs9).mono ?_⟩
    rintro _ w3 ⟨_, rfl, h3⟩
    rcases h3 with ⟨c', b', ca', cc', pa', pc', ka', kc', hG', rfl, S'⟩ | ⟨hno, rfl, B3⟩
    · have ec : c = c' := by
        have := hG.read.symm.trans hG'.read
        simp only [Option.some.injEq, Prod.mk.injEq] at this
        exact this.1
      subst ec
      have S := S.join S'
      have hok := (catR_seg hG.read).2
      have hall := (catR_seg hG.read).1.all rfl
      refine ⟨_, _, rfl, fun st wx => st = [.bool false] ∧ wx = w3, IFB_ne (fun h => absurd rfl h) (fun _ => ⟨rfl, rfl⟩), ?_⟩
      rintro _ _ ⟨hst, rfl⟩
      cases hst
      refine IFB_false (IFB_true ((Same_ok (C := c) S hok hG.rise hca hn).mono ?_))
      rintro _ w5 ⟨_, rfl, rfl, B5⟩
      have S := S.grown B5
      have hcnt : cntC c.clis ≤ 100000 := by have := idsOf_le c.clis; have := hok.nc; simp only [cntC]; omega
      refine ⟨_, rfl, IFB_true ((Snapshot_ok (H := []) (C := catS c) (S.drop 4) (catS_ok hok) hca (by omega) hcnt).mono ?_)⟩
      rintro _ w6 ⟨_, rfl, ids, hup, hmem, rfl, B6⟩
      have ek : cliOf (mapOf (catS c).k) ids = c.clis := (cliOf_rise hup hmem).2 hG.rise
      refine ⟨_, rfl, ?_, below_trans B1 (below_trans S.bel B6)⟩
      rw [ek, bytesEq_iff]
      show Value.bool (decide (sof (snapL c.cols c.parts c.clis) = s)) = _
      rw [← hall, sof_bl]
      simp
    · exact absurd hG (hno c)
  · refine ⟨_, _, rfl, (DocLoad_ok s hs9).mono ?_⟩
    rintro _ w3 ⟨_, rfl, h3⟩
    rcases h3 with ⟨c', b', ca', cc', pa', pc', ka', kc', hG', rfl, S'⟩ | ⟨_, rfl, B3⟩
    · exact absurd hG' (hno c')
    · refine ⟨_, _, rfl, fun st wx => st = [.bool true] ∧ wx = w3, IFB_ne (fun _ => ⟨rfl, rfl⟩) (fun h => by cases h), ?_⟩
      rintro _ _ ⟨hst, rfl⟩
      cases hst
      exact IFB_true (IFB_true (IFB_eq (fun _ => ⟨rfl, below_trans B1 (below_trans B2 B3)⟩) (fun h => absurd rfl h)))
end
end Go.Proofs.YtpnaifmmggnimaaGreatDoor
