/- Part 6 of a proof in many texts, put together: definitions and lemmas. The theorem stands in the last text; no conditions. -/
import Derived.Test.YtmfdjipijifababPart5
import Derived.IntWalk
section
/- What the small functions compute. -/
set_option linter.unusedVariables false
set_option linter.unusedSimpArgs false
set_option maxRecDepth 100000
namespace Go.Proofs.Ytmfdjipijifabab
open Go.Ab

theorem c49 (k : Nat) (hk : 1 ≤ k) (x lo hi : Int) (m : Mem) :
    cCall C T k 49 [.int .i64 x, .int .i64 lo, .int .i64 hi] m = some (.bool (decide (lo ≤ x) && decide (x ≤ hi)), m) := by
  refine pure_call kd49 0 hk (by simp; rfl) fun k hk => ?_
  rw [body49]
  by_cases h1 : lo ≤ x <;> by_cases h2 : x ≤ hi <;> simp [codeOf, Try.f49, h1, h2]
theorem c56 (k : Nat) (hk : 1 ≤ k) (x lo hi : Int) (m : Mem) :
    cCall C T k 56 [.int .i64 x, .int .i64 lo, .int .i64 hi] m = some (.bool (decide (lo ≤ x) && decide (x ≤ hi)), m) := by
  refine pure_call kd56 0 hk (by simp; rfl) fun k hk => ?_
  rw [body56]
  by_cases h1 : lo ≤ x <;> by_cases h2 : x ≤ hi <;> simp [codeOf, Try.f56, h1, h2]
theorem c36 (k : Nat) (hk : 1 ≤ k) (x lo hi : Int) (m : Mem) :
    cCall C T k 36 [.int .i64 x, .int .i64 lo, .int .i64 hi] m = some (.bool (decide (lo ≤ x) && decide (x ≤ hi)), m) := by
  refine pure_call kd36 0 hk (by simp; rfl) fun k hk => ?_
  rw [body36]
  by_cases h1 : lo ≤ x <;> by_cases h2 : x ≤ hi <;> simp [codeOf, Try.f36, h1, h2]
theorem c4 (k : Nat) (hk : 1 ≤ k) (x n : Int) (hn : 0 < n) (hn' : n < 2 ^ 31) (m : Mem) :
    cCall C T k 4 [.int .i64 x, .int .i64 n] m = some (.int .i64 (x % n), m) := by
  refine pure_call kd4 0 hk (by simp; rfl) fun k hk => ?_
  rw [body4]
  have h0 : ¬ n = 0 := by omega
  have h1 := Int.tmod_lt_of_pos x hn
  have h2 : -n < x.tmod n := by have := Int.lt_tmod_of_pos x hn; omega
  have hw : IntKind.i64.wrap (x.tmod n + n) = x.tmod n + n := IntWalk.i64_in _ (by omega)
  have h3 : (x.tmod n + n).tmod n = x % n := by
    have hm : x.tmod n % n = x % n := by
      rw [Int.tmod_eq_emod]
      split
      · simp
      · have : (n.natAbs : Int) = n := by omega
        rw [this, Int.sub_emod]
        simp
    rw [Int.tmod_eq_emod_of_nonneg (by omega), Int.add_emod_right, hm]
  simp [codeOf, Try.f4, h0, hw, h3]

/-- The table of rates. -/
def bitsOf : Nat → Int
  | 0 => 24 | 1 => 36 | 2 => 48 | 3 => 72 | 4 => 100 | 5 => 148 | 6 => 196 | 7 => 220 | 8 => 264 | 9 => 316 | 10 => 396 | _ => 476
def needOf : Nat → Int
  | 0 => -820 | 1 => -808 | 2 => -788 | 3 => -768 | 4 => -738 | 5 => -702 | 6 => -664 | 7 => -652 | 8 => -640 | 9 => -590 | 10 => -568 | _ => -538
def basicOf : Nat → Bool
  | 0 => true | 2 => true | 4 => true | _ => false
def respOf : Nat → Nat
  | 0 => 0 | 1 => 0 | 2 => 2 | 3 => 2 | _ => 4
theorem fin12 {n : Nat} (h : n < 12) : n = 0 ∨ n = 1 ∨ n = 2 ∨ n = 3 ∨ n = 4 ∨ n = 5 ∨ n = 6 ∨ n = 7 ∨ n = 8 ∨ n = 9 ∨ n = 10 ∨ n = 11 := by omega
theorem bits_range (i : Nat) : 24 ≤ bitsOf i ∧ bitsOf i ≤ 476 := by unfold bitsOf; split <;> omega
theorem resp_lt (i : Nat) : respOf i < 12 := by unfold respOf; split <;> omega
def rateV (i : Nat) : List AVal := [.int .i64 (bitsOf i), .int .i64 (needOf i), .bool (basicOf i)]

theorem c38 (k : Nat) (hk : 21 ≤ k) (m : Mem) : cCall C T k 38 [] m = some (.agg ((List.range 12).flatMap rateV), m) :=
  pure_conc kd38 20 hk (by simp; rfl) (by kernel_rfl)
theorem c19 (k : Nat) (hk : 3 ≤ k) (m : Mem) : cCall C T k 19 [] m = some (.int .i64 12, m) :=
  pure_conc kd19 2 hk (by simp; rfl) (by kernel_rfl)
theorem c20 (k : Nat) (hk : 31 ≤ k) (i : Nat) (hi : i < 12) (m : Mem) : cCall C T k 20 [.int .i64 i] m = some (.tup [.agg (rateV i), .int .i64 0], m) := by
  refine pure_conc kd20 30 hk (by simp; rfl) ?_
  rcases fin12 hi with rfl | rfl | rfl | rfl | rfl | rfl | rfl | rfl | rfl | rfl | rfl | rfl <;> kernel_rfl
theorem c79 (k : Nat) (hk : 61 ≤ k) (i : Nat) (hi : i < 12) (m : Mem) : cCall C T k 79 [.int .i64 i] m = some (.tup [.int .i64 (respOf i : Nat), .int .i64 0], m) := by
  refine pure_conc kd79 60 hk (by simp; rfl) ?_
  rcases fin12 hi with rfl | rfl | rfl | rfl | rfl | rfl | rfl | rfl | rfl | rfl | rfl | rfl <;> kernel_rfl

/-- The airtime of bytes at a rate. -/
def airF (i : Nat) (b : Int) : Int := 20 + 4 * ((8 * b + 22 + bitsOf i - 1) / bitsOf i)
theorem airF_range (i : Nat) {b : Int} (h : 0 ≤ b ∧ b ≤ 65535) : 20 ≤ airF i b ∧ airF i b ≤ 90000 := by
  have hb := bits_range i
  unfold airF
  have h1 : 0 ≤ (8 * b + 22 + bitsOf i - 1) / bitsOf i := Int.ediv_nonneg (by omega) (by omega)
  have h2 : (8 * b + 22 + bitsOf i - 1) / bitsOf i ≤ (8 * b + 22 + bitsOf i - 1) / 24 := by
    apply Int.le_ediv_of_mul_le (by omega)
    have h3 := Int.ediv_mul_le (8 * b + 22 + bitsOf i - 1) (show bitsOf i ≠ 0 by omega)
    have h4 : (8 * b + 22 + bitsOf i - 1) / bitsOf i * 24 ≤ (8 * b + 22 + bitsOf i - 1) / bitsOf i * bitsOf i := Int.mul_le_mul_of_nonneg_left (by omega) h1
    omega
  omega
theorem c61 (k : Nat) (hk : 41 ≤ k) (i : Nat) (hi : i < 12) (b : Int) (hb : 0 ≤ b ∧ b ≤ 65535) (m : Mem) : cCall C T k 61 [.int .i64 i, .int .i64 b] m = some (.tup [.int .i64 (airF i b), .int .i64 0], m) := by
  refine pure_call kd61 40 hk (by simp; rfl) fun k hk => ?_
  rw [body61]
  have g := c20 k (by omega) i hi
  have hr := bits_range i
  have h1 : ¬ b < 0 := by omega
  have h2 : ¬ 65535 < b := by omega
  have hz : ¬ bitsOf i = 0 := by omega
  have w1 : IntKind.i64.wrap (8 * b) = 8 * b := IntWalk.i64_in _ (by omega)
  have w2 : IntKind.i64.wrap (8 * b + 22) = 8 * b + 22 := IntWalk.i64_in _ (by omega)
  have w3 : IntKind.i64.wrap (8 * b + 22 + bitsOf i) = 8 * b + 22 + bitsOf i := IntWalk.i64_in _ (by omega)
  have w4 : IntKind.i64.wrap (8 * b + 22 + bitsOf i - 1) = 8 * b + 22 + bitsOf i - 1 := IntWalk.i64_in _ (by omega)
  have w5 : (8 * b + 22 + bitsOf i - 1).tdiv (bitsOf i) = (8 * b + 22 + bitsOf i - 1) / bitsOf i := Int.tdiv_eq_ediv_of_nonneg (by omega)
  have hA := airF_range i hb
  have hq : (8 * b + 22 + bitsOf i - 1) / bitsOf i = (airF i b - 20) / 4 := by unfold airF; omega
  have w6 : IntKind.i64.wrap ((8 * b + 22 + bitsOf i - 1) / bitsOf i) = (8 * b + 22 + bitsOf i - 1) / bitsOf i := IntWalk.i64_in _ (by rw [hq]; omega)
  have w7 : IntKind.i64.wrap (4 * ((8 * b + 22 + bitsOf i - 1) / bitsOf i)) = 4 * ((8 * b + 22 + bitsOf i - 1) / bitsOf i) := IntWalk.i64_in _ (by rw [hq]; omega)
  have w8 : IntKind.i64.wrap (20 + 4 * ((8 * b + 22 + bitsOf i - 1) / bitsOf i)) = airF i b := IntWalk.i64_in _ (by unfold airF at hA; omega)
  simp [codeOf, Try.f61, g, rateV, h1, h2, hz, w1, w2, w3, w4, w5, w6, w7, w8]
theorem c39 (k : Nat) (hk : 42 ≤ k) (i : Nat) (hi : i < 12) (b : Int) (hb : 0 ≤ b ∧ b ≤ 65535) (m : Mem) : cCall C T k 39 [.int .i64 i, .int .i64 b] m = some (.tup [.int .i64 (airF i b), .int .i64 0], m) := by
  refine pure_call kd39 41 hk (by simp; rfl) fun k hk => ?_
  rw [body39]
  have g := c61 k (by omega) i hi b hb
  simp [codeOf, Try.f39, g]
theorem c75 (k : Nat) (hk : 63 ≤ k) (i : Nat) (hi : i < 12) (b : Int) (hb : 0 ≤ b ∧ b ≤ 65535) (m : Mem) : cCall C T k 75 [.int .i64 i, .int .i64 b] m = some (.tup [.int .i64 (airF (respOf i) b), .int .i64 0], m) := by
  refine pure_call kd75 62 hk (by simp; rfl) fun k hk => ?_
  rw [body75]
  have g1 := c79 k (by omega) i hi
  have g := c61 k (by omega) (respOf i) (resp_lt i) b hb
  simp [codeOf, Try.f75, g1, g]
theorem c62 (k : Nat) (hk : 64 ≤ k) (i : Nat) (hi : i < 12) (b : Int) (hb : 0 ≤ b ∧ b ≤ 65535) (m : Mem) : cCall C T k 62 [.int .i64 i, .int .i64 b] m = some (.tup [.int .i64 (airF (respOf i) b), .int .i64 0], m) := by
  refine pure_call kd62 63 hk (by simp; rfl) fun k hk => ?_
  rw [body62]
  have g := c75 k (by omega) i hi b hb
  simp [codeOf, Try.f62, g]
theorem c40 (k : Nat) (hk : 65 ≤ k) (i : Nat) (hi : i < 12) (m : Mem) : cCall C T k 40 [.int .i64 i] m = some (.tup [.int .i64 (airF (respOf i) 14), .int .i64 0], m) := by
  refine pure_call kd40 64 hk (by simp; rfl) fun k hk => ?_
  rw [body40]
  have g := c62 k (by omega) i hi 14 (by omega)
  simp [codeOf, Try.f40, g]
/-- The time of a transmission with its acknowledgement. -/
def totF (i : Nat) (b : Int) : Int := airF i b + 16 + airF (respOf i) 14
theorem totF_range (i : Nat) {b : Int} (h : 0 ≤ b ∧ b ≤ 65535) : 56 ≤ totF i b ∧ totF i b ≤ 200000 := by
  have h1 := airF_range i h
  have h2 := airF_range (respOf i) (b := 14) (by omega)
  unfold totF
  omega
theorem c21 (k : Nat) (hk : 66 ≤ k) (i : Nat) (hi : i < 12) (b : Int) (hb : 0 ≤ b ∧ b ≤ 65535) (m : Mem) : cCall C T k 21 [.int .i64 i, .int .i64 b] m = some (.tup [.int .i64 (totF i b), .int .i64 0], m) := by
  refine pure_call kd21 65 hk (by simp; rfl) fun k hk => ?_
  rw [body21]
  have g1 := c39 k (by omega) i hi b hb
  have g2 := c40 k (by omega) i hi
  have h1 := airF_range i hb
  have h2 := airF_range (respOf i) (b := 14) (by omega)
  have w1 : IntKind.i64.wrap (airF i b + 16) = airF i b + 16 := IntWalk.i64_in _ (by omega)
  have w2 : IntKind.i64.wrap (airF i b + 16 + airF (respOf i) 14) = totF i b := IntWalk.i64_in _ (by omega)
  simp [codeOf, Try.f21, g1, g2, w1, w2]

theorem c78 (k : Nat) (hk : 1 ≤ k) (x : Int) (m : Mem) : cCall C T k 78 [.int .i64 x] m = some (.bool false, m) := by
  refine pure_call kd78 0 hk (by simp; rfl) fun k hk => ?_
  rw [body78]
  simp [codeOf, Try.f78]
def cmpI (a b : Int) : Int := if a < b then -1 else if b < a then 1 else 0
theorem c70 (k : Nat) (hk : 2 ≤ k) (a b : Int) (m : Mem) : cCall C T k 70 [.int .i64 a, .int .i64 b] m = some (.int .i64 (cmpI a b), m) := by
  refine pure_call kd70 1 hk (by simp; rfl) fun k hk => ?_
  rw [body70]
  have g := fun x => c78 k (by omega) x
  by_cases h1 : a < b
  · simp [codeOf, Try.f70, g, h1, cmpI]
  · by_cases h2 : b < a <;> simp [codeOf, Try.f70, g, h1, h2, cmpI]
end Go.Proofs.Ytmfdjipijifabab
end
section
/- Rate control: one rate, and orders of rates. -/
set_option linter.unusedVariables false
set_option linter.unusedSimpArgs false
set_option linter.unnecessarySimpa false
set_option maxRecDepth 100000
namespace Go.Proofs.Ytmfdjipijifabab
open Go.Ab

def eInt (x : Int) : List AVal := [.int .i64 x]
theorem eInt_len (x : Int) : (eInt x).length = 1 := rfl
def eBool (b : Bool) : List AVal := [.bool b]
theorem eBool_len (b : Bool) : (eBool b).length = 1 := rfl
theorem sl_imm {α : Type} (enc : α → List AVal) (l : List α) : SL enc (.imm l.length (l.flatMap enc)) l := .inr rfl
theorem SL.fz {α : Type} {enc : α → List AVal} {a : AVal} {l : List α} (h : SL enc a l) (e : Nat) (m : Mem) : freezeV (e + 1) a m = some (a, m) := by
  rcases h with ⟨_, rfl | rfl⟩ | rfl <;> rfl

structure AR where
  (air tries good chance : Int)
  known : Bool
  deriving DecidableEq
def eAR (r : AR) : List AVal := [.int .i64 r.air, .int .i64 r.tries, .int .i64 r.good, .int .i64 r.chance, .bool r.known]
theorem eAR_len (x : AR) : (eAR x).length = 5 := rfl
structure AR.ok (r : AR) : Prop where
  air : 1 ≤ r.air ∧ r.air ≤ 32767
  tries : 0 ≤ r.tries ∧ r.tries ≤ 10000
  good : 0 ≤ r.good ∧ r.good ≤ r.tries
  chance : 0 ≤ r.chance ∧ r.chance ≤ 1000
  known : r.known = true ∨ r.chance = 0

theorem c63 (k : Nat) (hk : 2 ≤ k) (r : AR) (hr : r.ok) (m : Mem) : cCall C T k 63 [.agg (eAR r)] m = some (.bool true, m) := by
  refine pure_call kd63 1 hk (args' := [.agg (eAR r)]) (by simp [eAR]) fun k hk => ?_
  rw [body63]
  have g := fun x lo hi => c49 k (by omega) x lo hi
  obtain ⟨a1, a2⟩ := hr.air
  obtain ⟨b1, b2⟩ := hr.tries
  obtain ⟨d1, d2⟩ := hr.good
  obtain ⟨e1, e2⟩ := hr.chance
  rcases hr.known with h | h
  · simp [codeOf, Try.f63, eAR, g, a1, a2, b1, b2, d1, d2, e1, e2, h]
  · cases hkn : r.known <;> simp [codeOf, Try.f63, eAR, g, a1, a2, b1, b2, d1, d2, h, hkn]

/-- The value of a rate. -/
def valF (r : AR) : Int := if r.chance < 100 then 0 else r.chance * 100000 / r.air
theorem c67 (k : Nat) (hk : 1 ≤ k) (r : AR) (hr : r.ok) (m : Mem) : cCall C T k 67 [.agg (eAR r)] m = some (.int .i64 (valF r), m) := by
  refine pure_call kd67 0 hk (args' := [.agg (eAR r)]) (by simp [eAR]) fun k hk => ?_
  rw [body67]
  obtain ⟨a1, a2⟩ := hr.air
  obtain ⟨e1, e2⟩ := hr.chance
  by_cases h : r.chance < 100
  · simp [codeOf, Try.f67, eAR, h, valF]
  · have hz : ¬ r.air = 0 := by omega
    have w1 : IntKind.i64.wrap (r.chance * 100000) = r.chance * 100000 := IntWalk.i64_in _ (by omega)
    have w2 : (r.chance * 100000).tdiv r.air = r.chance * 100000 / r.air := Int.tdiv_eq_ediv_of_nonneg (by omega)
    have h1 : 0 ≤ r.chance * 100000 / r.air := Int.ediv_nonneg (by omega) (by omega)
    have h2 : r.chance * 100000 / r.air ≤ r.chance * 100000 := Int.ediv_le_self _ (by omega)
    have w3 : IntKind.i64.wrap (r.chance * 100000 / r.air) = r.chance * 100000 / r.air := IntWalk.i64_in _ (by omega)
    simp [codeOf, Try.f67, eAR, h, valF, hz, w1, w2, w3]
theorem c68 (k : Nat) (hk : 1 ≤ k) (r : AR) (m : Mem) : cCall C T k 68 [.agg (eAR r)] m = some (.int .i64 r.chance, m) := by
  refine pure_call kd68 0 hk (args' := [.agg (eAR r)]) (by simp [eAR]) fun k hk => ?_
  rw [body68]
  simp [codeOf, Try.f68, eAR]
theorem c69 (k : Nat) (hk : 3 ≤ k) (r q : AR) (m : Mem) : cCall C T k 69 [.agg (eAR r), .agg (eAR q)] m = some (.int .i64 (cmpI r.air q.air), m) := by
  refine pure_call kd69 2 hk (args' := [.agg (eAR r), .agg (eAR q)]) (by simp [eAR]) fun k hk => ?_
  rw [body69]
  have g := fun x y => c70 k (by omega) x y
  simp [codeOf, Try.f69, eAR, g]
/-- A rate after a round. -/
def rndF (r : AR) : AR := if r.tries = 0 then r else ⟨r.air, 0, 0, if r.known then (3 * r.chance + 1000 * r.good / r.tries) / 4 else 1000 * r.good / r.tries, true⟩
theorem c51 (k : Nat) (hk : 1 ≤ k) (r : AR) (hr : r.ok) (m : Mem) : cCall C T k 51 [.agg (eAR r)] m = some (.agg (eAR (rndF r)), m) := by
  refine pure_call kd51 0 hk (args' := [.agg (eAR r)]) (by simp [eAR]) fun k hk => ?_
  rw [body51]
  obtain ⟨b1, b2⟩ := hr.tries
  obtain ⟨d1, d2⟩ := hr.good
  obtain ⟨e1, e2⟩ := hr.chance
  by_cases h : r.tries = 0
  · simp [codeOf, Try.f51, eAR, h, rndF]
  · have hb : (r.tries == 0) = false := by simp [h]
    have w1 : IntKind.i64.wrap (1000 * r.good) = 1000 * r.good := IntWalk.i64_in _ (by omega)
    have w2 : (1000 * r.good).tdiv r.tries = 1000 * r.good / r.tries := Int.tdiv_eq_ediv_of_nonneg (by omega)
    have h1 : 0 ≤ 1000 * r.good / r.tries := Int.ediv_nonneg (by omega) (by omega)
    have h2 : 1000 * r.good / r.tries ≤ 1000 * r.good := Int.ediv_le_self _ (by omega)
    have w3 : IntKind.i64.wrap (1000 * r.good / r.tries) = 1000 * r.good / r.tries := IntWalk.i64_in _ (by omega)
    have w4 : IntKind.i64.wrap (3 * r.chance) = 3 * r.chance := IntWalk.i64_in _ (by omega)
    have w5 : IntKind.i64.wrap (3 * r.chance + 1000 * r.good / r.tries) = 3 * r.chance + 1000 * r.good / r.tries := IntWalk.i64_in _ (by omega)
    have w6 : (3 * r.chance + 1000 * r.good / r.tries).tdiv 4 = (3 * r.chance + 1000 * r.good / r.tries) / 4 := Int.tdiv_eq_ediv_of_nonneg (by omega)
    have w7 : IntKind.i64.wrap ((3 * r.chance + 1000 * r.good / r.tries) / 4) = (3 * r.chance + 1000 * r.good / r.tries) / 4 := IntWalk.i64_in _ (by omega)
    cases hkn : r.known <;> simp [codeOf, Try.f51, eAR, h, hb, rndF, w1, w2, w3, w4, w5, w6, w7, hkn]

theorem ld3 (a : AVal) (r : List AVal) (m : Mem) : loadA Try.prog 3 (.iptr (a :: r)) m = some a := load_iptr_one ag3 sz3
theorem ld4 (a : AVal) (r : List AVal) (m : Mem) : loadA Try.prog 4 (.iptr (a :: r)) m = some a := load_iptr_one ag4 sz4
theorem ld94 (a b c d e : AVal) (r : List AVal) (m : Mem) : loadA Try.prog 94 (.iptr (a :: b :: c :: d :: e :: r)) m = some (.agg [a, b, c, d, e]) := load_iptr_agg (cs := [a, b, c, d, e]) ag94 sz94 rfl

/-- The first of two numbers that is not 0. -/
def orF (x y : Int) : Int := if x = 0 then y else x
theorem c77 (k : Nat) (hk : 5 ≤ k) (x y : Int) (args : List AVal) (m m1 : Mem) (hz : freezeL (freezeV 8) args m = some ([.imm 2 [.int .i64 x, .int .i64 y]], m1)) :
    cCall C T k 77 args m = some (.int .i64 (orF x y), m1) := by
  refine pure_call kd77 4 hk hz fun k hk => ?_
  rw [body77]
  have hs := sl_imm eInt [x, y]
  simp only [List.length_cons, List.length_nil, List.flatMap_cons, List.flatMap_nil, eInt, List.cons_append, List.nil_append] at hs
  have i0 := SL.indexAddr (P := Try.prog) Try.underlying29 sz3 (fun _ => rfl) hs (k := .i64) (i := 0) (by simp)
  have i1 := SL.indexAddr (P := Try.prog) Try.underlying29 sz3 (fun _ => rfl) hs (k := .i64) (i := 1) (by simp)
  obtain ⟨k, rfl⟩ : ∃ j, k = j + 3 := ⟨k - 3, by omega⟩
  simp [eInt] at i0 i1
  have lt : ∀ t, lenA Try.prog 29 (.imm 2 t) = some (.int .i64 2) := fun t => by simp [lenA]
  have wi : IntKind.i64.wrap 1 = 1 := by kernel_rfl
  have wj : IntKind.i64.wrap 2 = 2 := by kernel_rfl
  generalize hl' : (AVal.imm 2 [.int .i64 x, .int .i64 y]) = a
  rw [hl'] at i0 i1
  have la : lenA Try.prog 29 a = some (.int .i64 2) := by rw [← hl']; exact lt _
  simp [codeOf, Try.f77, la]
  generalize hl2 : cCode C _ _ _ (.loop _) _ = r
  obtain ⟨e, s', rfl, he, hp⟩ := loop_rule hl2 (fun q s => s.env 3 = .int .i64 0 ∧ s.env 6 = a ∧ s.env 7 = .int .i64 2 ∧ ∃ i : Nat, i + q = 2 ∧ s.env 8 = .int .i64 (i : Nat) ∧ (0 < i → x = 0) ∧ (1 < i → y = 0))
    (fun e s => (e = .exit 0 ∧ s.env 3 = .int .i64 0 ∧ x = 0 ∧ y = 0) ∨ (e = .ret ∧ s.env 2 = .int .i64 (orF x y))) 2 (by omega) (by
      exact ⟨by simp, by simp, by simp, 0, by simp, by simp, by simp, by simp⟩) (by
      rintro q s ⟨e3, e6, e7, i, hiq, e8, h0, h1⟩
      have h3 : i = 0 ∨ i = 1 ∨ i = 2 := by omega
      rcases h3 with rfl | rfl | rfl
      · by_cases hx : x = 0
        · have hb : (x != 0) = false := by simp [hx]
          simp [e3, e6, e7, e8, i0, ld3, eInt, hx, hb, wi]
          exact ⟨by omega, 1, by omega, by simp, by simp⟩
        · simp [e3, e6, e7, e8, i0, ld3, eInt, hx, orF]
      · have hx := h0 (by omega)
        by_cases hy : y = 0
        · simp [e3, e6, e7, e8, i1, ld3, hy, wj]
          exact ⟨by omega, 2, by omega, by simp, fun _ => hx⟩
        · simp [e3, e6, e7, e8, i1, ld3, eInt, hy, hx, orF]
      · simp [e3, e6, e7, e8]
        exact ⟨h0 (by omega), h1 (by omega)⟩)
  rcases hp with ⟨rfl, e3, hx, hy⟩ | ⟨rfl, e2⟩
  · simp [e3, hx, hy, orF]
  · simp [e2]

/-- The order of rates by a measure. -/
def byF (f : AR → Int) (a b : AR) : Int := orF (cmpI (f a) (f b)) (cmpI b.air a.air)

theorem c76 (g : FuncId) (f : AR → Int) (L : AR → Prop) (hg : ∀ k, 1 ≤ k → ∀ r, L r → ∀ m, cCall C T k g [.agg (eAR r)] m = some (.int .i64 (f r), m)) (hkd : C.kind g = .pure)
    (k : Nat) (hk : 7 ≤ k) (a b : AR) (ha : L a) (hb : L b) (id : Nat) (m : Mem) (h1 : id < m.next) (h2 : m.mode id = .rw) (h3 : m.cell id 0 = some (.fn g [] [])) (h4 : Fresh m) :
    ∃ m', cCall C T k 76 [.agg (eAR a), .agg (eAR b), .ptr id 0] m = some (.int .i64 (byF f a b), m') ∧ Grow m m' := by
  obtain ⟨k, rfl⟩ : ∃ j, k = j + 1 := ⟨k - 1, by omega⟩
  simp only [cCall, kd76]
  rw [body76]
  have ga := hg k (by omega) a ha
  have gb := hg k (by omega) b hb
  have gc := fun x y => c70 k (by omega) x y
  have hfr : ∀ n, m.mode (m.next + n) = .dead := fun n => h4 _ (by omega)
  have hfr0 : m.mode m.next = .dead := hfr 0
  have n1 : ∀ n, ¬ id = m.next + n := fun n => by omega
  have n0 : ¬ id = m.next := by omega
  have ea : eAR a = [.int .i64 a.air, .int .i64 a.tries, .int .i64 a.good, .int .i64 a.chance, .bool a.known] := rfl
  have eb : eAR b = [.int .i64 b.air, .int .i64 b.tries, .int .i64 b.good, .int .i64 b.chance, .bool b.known] := rfl
  rw [ea] at ga
  rw [eb] at gb
  simp [codeOf, Try.f76, ea, eb, hfr, hfr0, n0, n1, h2, h3, ga, gb, gc, callFoot, hkd, buildSliceA, zeros, List.range, List.range.loop]
  generalize hM : Mem.mk _ _ _ _ = M
  have hz : freezeL (freezeV 8) [AVal.own (m.next + 15) 0 2 1] M = some ([.imm 2 [.int .i64 (cmpI (f a) (f b)), .int .i64 (cmpI b.air a.air)]], { M with mode := upd M.mode (m.next + 15) .ro }) := by
    rw [← hM]
    simp [freezeV, cellsAt, upd]
  have g77 := c77 k (by omega) _ _ _ M _ hz
  have h5 : ∀ id, id < m.next → ¬ id = m.next ∧ ¬ id = m.next + 1 ∧ ¬ id = m.next + 15 := fun id h => by omega
  simp [g77, byF]
  refine ⟨by rw [← hM]; simp, fun id h => ?_, fun id h => ?_, fun id h => ?_, fun h id hid => ?_⟩
  · rw [← hM]; funext o; simp [h5 id h]
  · rw [← hM]; simp [upd, h5 id h]
  · rw [← hM]; simp [upd, h5 id h]
  · rw [← hM] at hid ⊢
    simp at hid
    simp only [upd]
    rw [if_neg (by omega), if_neg (by omega), if_neg (by omega), if_neg (by omega)]
    exact h id (by omega)
end Go.Proofs.Ytmfdjipijifabab
end
section
/- Rate control: states. -/
set_option linter.unusedVariables false
set_option linter.unusedSimpArgs false
set_option linter.unnecessarySimpa false
set_option maxRecDepth 100000
namespace Go.Proofs.Ytmfdjipijifabab
open Go.Ab

theorem Fresh.put {m : Mem} (h : Fresh m) (p q : Nat) (hpq : p < q) (c : Nat → Nat → Option AVal) (z : Nat → Nat) : Fresh { cell := c, mode := upd m.mode (m.next + p) .rw, siz := z, next := m.next + q } := fun id hid => by
  show upd m.mode (m.next + p) Md.rw id = .dead
  simp only [] at hid
  rw [upd, if_neg (by omega)]
  exact h id (by omega)
theorem Fresh.bump {m : Mem} (h : Fresh m) (q : Nat) (c : Nat → Nat → Option AVal) (z : Nat → Nat) : Fresh { cell := c, mode := m.mode, siz := z, next := m.next + q } := fun id hid => h id (by simp only [] at hid; omega)

/-- What freezing a list does to the modes. -/
def fzMd (s : AVal) (md : Nat → Md) : Nat → Md := match s with
  | .own id _ _ _ => upd md id .ro
  | _ => md
theorem fzMd_idem (s : AVal) (md : Nat → Md) : fzMd s (fzMd s md) = fzMd s md := by
  cases s <;> try rfl
  funext i
  simp only [fzMd, upd]
  split <;> rfl
theorem fzMd_live (s : AVal) (md : Nat → Md) {id : Nat} (h : md id ≠ .dead) : fzMd s md id ≠ .dead := by
  cases s <;> try exact h
  simp only [fzMd, upd]
  split
  · simp
  · exact h
theorem App.fzMd_other {α : Type} {enc : α → List AVal} {sz lo : Nat} {s : AVal} {l : List α} {m0 : Mem} (h : App enc sz s l lo m0) (md : Nat → Md) {id : Nat} (hid : id < lo ∨ m0.next ≤ id) : fzMd s md id = md id := by
  rcases h with ⟨_, rfl⟩ | ⟨id', rfl, h2, h3, _⟩
  · rfl
  · exact if_neg (by omega)
/-- A list that was made, and that nothing changed since. -/
def Kept (sz : Nat) (s : AVal) (n : Nat) (m0 m : Mem) : Prop := ∀ id k, s = .own id 0 k sz → m.mode id ≠ .dead ∧ ∀ o, o < n * sz → m.cell id o = m0.cell id o
theorem app_own {α : Type} {enc : α → List AVal} {sz lo : Nat} {s : AVal} {l : List α} {m : Mem} (h : App enc sz s l lo m) {id n : Nat} (e : s = .own id 0 n sz) : lo ≤ id ∧ id < m.next := by
  rcases h with ⟨_, rfl⟩ | ⟨id', rfl, h2, h3, _⟩
  · cases e
  · cases e; exact ⟨h2, h3⟩
theorem App.fzd {α : Type} {enc : α → List AVal} {sz lo : Nat} {s : AVal} {l : List α} {m0 : Mem} (d : Nat) (h : App enc sz s l lo m0) (he : ∀ x, (enc x).length = sz) (hin : ∀ x ∈ l, ∀ a ∈ enc x, ∀ m, freezeV (d + 1) a m = some (a, m)) (hl : 0 < l.length) :
    ∀ m, Kept sz s l.length m0 m → freezeV (d + 2) s m = some (.imm l.length (l.flatMap enc), { m with mode := fzMd s m.mode }) := by
  rcases h with ⟨rfl, rfl⟩ | ⟨id, rfl, h2, h3, h4, h5, h6⟩
  · simp at hl
  · intro m hk
    obtain ⟨k1, k2⟩ := hk id _ rfl
    have hfl := flatMap_len he l
    have hc : cellsAt m id 0 (l.length * sz) = some (l.flatMap enc) := by
      have := cellsAt_of (m := m) (id := id) (l.flatMap enc) 0 (fun o ho => by rw [Nat.zero_add, k2 o (by rw [hfl] at ho; exact ho)]; exact h6 o (by rw [hfl] at ho; exact ho))
      rwa [hfl] at this
    rw [freezeV, if_neg k1, hc]
    simp only []
    rw [freezeL_same _ _ (fun a hm m => ?_)]
    · rfl
    · obtain ⟨x, hx, hax⟩ := List.mem_flatMap.1 hm
      exact hin x hx a hax m
theorem Kept.refl {α : Type} {enc : α → List AVal} {sz lo : Nat} {s : AVal} {l : List α} {m0 : Mem} (h : App enc sz s l lo m0) : Kept sz s l.length m0 m0 := fun id k e => by
  rcases h with ⟨_, rfl⟩ | ⟨id', rfl, h2, h3, h4, _⟩
  · cases e
  · cases e
    exact ⟨by rw [h4]; simp, fun o _ => rfl⟩
theorem Kept.same {sz n : Nat} {s : AVal} {m0 m m' : Mem} (h : Kept sz s n m0 m) (hc : ∀ id k, s = .own id 0 k sz → m'.cell id = m.cell id) (hm : ∀ id k, s = .own id 0 k sz → m.mode id ≠ .dead → m'.mode id ≠ .dead) : Kept sz s n m0 m' := fun id k e => by
  obtain ⟨a, b⟩ := h id k e
  exact ⟨hm id k e a, fun o ho => by rw [hc id k e]; exact b o ho⟩
theorem inf_of {P : Program} {t : TypeId} {s b : Nat} (h : (P.info? t).map (fun i => (i.size, i.bytes)) = some (s, b)) : ∃ i, P.info? t = some i ∧ i.size = s ∧ i.bytes = b := by
  cases hi : P.info? t with
  | none => rw [hi] at h; cases h
  | some i => rw [hi] at h; cases h; exact ⟨i, rfl, rfl, rfl⟩
theorem eAR_in (x : AR) : ∀ a ∈ eAR x, ∀ (d : Nat) m, freezeV (d + 1) a m = some (a, m) := fun a ha d m => by
  simp [eAR] at ha
  rcases ha with rfl | rfl | rfl | rfl | rfl <;> rfl

/-- A list of rates that passes the check. -/
structure Ads (l : List AR) (n : Int) : Prop where
  len : 1 ≤ l.length ∧ l.length ≤ 16
  ok : ∀ r ∈ l, r.ok
  n : 0 ≤ n ∧ n ≤ 1099511627776

theorem c41 (k : Nat) (hk : 30 ≤ k) (a : AVal) (l : List AR) (n : Int) (ha : SL eAR a l) (hl : Ads l n) (args : List AVal) (m m1 : Mem) (hz : freezeL (freezeV 8) args m = some ([.agg [a, .int .i64 n]], m1)) : cCall C T k 41 args m = some (.int .i64 0, m1) := by
  refine pure_call kd41 29 hk hz fun k hk => ?_
  rw [body41]
  have hla := SL.len (P := Try.prog) Try.underlying41 ha
  have g := fun x lo hi => c49 k (by omega) x lo hi
  obtain ⟨n1, n2⟩ := hl.n
  have l1 : (1 : Int) ≤ l.length := by have := hl.len.1; omega
  have l2 : (l.length : Int) ≤ 16 := by have := hl.len.2; omega
  simp [codeOf, Try.f41, hla, g, n1, n2, l1, l2]
  generalize hl2 : cCode C _ _ _ (.loop _) _ = r
  obtain ⟨e, s', rfl, he, hp⟩ := loop_rule hl2 (fun q s => s.env 17 = a ∧ s.env 18 = .int .i64 l.length ∧ Fresh s.mem ∧ ∃ i : Nat, i + q = l.length ∧ s.env 19 = .int .i64 (i : Nat))
    (fun e s => e = .exit 0) l.length (by have := hl.len; omega) (by
      refine ⟨by simp, by simp, ?_, 0, by simp, by simp⟩
      intro id hid
      simp at hid
      show upd C.m0.mode 0 Md.rw id = .dead
      rw [upd, if_neg (by omega), m0_mode, if_neg (by intro h; have := h.1; simp at this)]) (by
      rintro q s ⟨e17, e18, hfr, i, hiq, e19⟩
      by_cases hi : i < l.length
      · have hax := SL.indexAddr (P := Try.prog) Try.underlying41 sz94 eAR_len ha (k := .i64) hi
        have wi : IntKind.i64.wrap ((i : Int) + 1) = ((i + 1 : Nat) : Int) := IntWalk.i64_in _ (by omega)
        have hf : ∀ n, s.mem.mode (s.mem.next + n) = .dead := fun n => hfr _ (by omega)
        have g63 := c63 k (by omega) l[i] (hl.ok _ (List.getElem_mem hi))
        have hbe : eAR l[i] = [.int .i64 l[i].air, .int .i64 l[i].tries, .int .i64 l[i].good, .int .i64 l[i].chance, .bool l[i].known] := rfl
        rw [hbe] at g63
        simp [e17, e18, e19, hi, hax, hbe, ld94, hf, g63, wi]
        exact ⟨by omega, Fresh.put hfr 3 10 (by omega) _ _, i + 1, by omega, by omega⟩
      · have : i = l.length := by omega
        subst this
        simp [e17, e18, e19])
  obtain rfl := hp
  simp

theorem m0_dead (id : Nat) : C.m0.mode id = .dead := by
  rw [m0_mode, if_neg (by intro h; have := h.1; simp at this)]
theorem inf94 : ∃ i, Try.prog.info? 94 = some i ∧ i.size = 5 ∧ i.bytes = 40 := inf_of (by kernel_rfl)

/-- A rate of which nothing is known. -/
def ar0 (x : Int) : AR := ⟨x, 0, 0, 0, false⟩
theorem ar0_ok {x : Int} (h : 1 ≤ x ∧ x ≤ 32767) : (ar0 x).ok := ⟨h, by simp [ar0], by simp [ar0], by simp [ar0], .inr rfl⟩

theorem c22 (k : Nat) (hk : 40 ≤ k) (a : AVal) (l : List Int) (ha : SL eInt a l) (hl : 1 ≤ l.length ∧ l.length ≤ 16) (hx : ∀ x ∈ l, 1 ≤ x ∧ x ≤ 32767) (args : List AVal) (m m1 : Mem) (hz : freezeL (freezeV 8) args m = some ([a], m1)) :
    cCall C T k 22 args m = some (.tup [.agg [.imm l.length ((l.map ar0).flatMap eAR), .int .i64 0], .int .i64 0], m1) := by
  refine pure_call kd22 39 hk hz fun k hk => ?_
  rw [body22]
  have hla := SL.len (P := Try.prog) Try.underlying29 ha
  simp [codeOf, Try.f22, hla]
  generalize hl2 : cCode C _ _ _ (.loop _) _ = r
  obtain ⟨e, s', rfl, he, hp⟩ := loop_rule hl2 (fun q s => s.env 2 = .ptr 0 0 ∧ s.env 4 = .ptr 2 0 ∧ s.env 7 = a ∧ s.env 8 = .int .i64 l.length ∧ Fresh s.mem ∧ 3 ≤ s.mem.next ∧ s.mem.mode 0 = .rw ∧ s.mem.mode 2 = .rw ∧ s.mem.cell 0 0 = some .nils ∧ s.mem.cell 0 1 = some (.int .i64 0) ∧ s.mem.cell 2 1 = some (.int .i64 0) ∧ ∃ i S, i + q = l.length ∧ s.env 9 = .int .i64 (i : Nat) ∧ s.mem.cell 2 0 = some S ∧ App eAR 5 S ((l.take i).map ar0) 3 s.mem)
    (fun e s => e = .exit 0 ∧ s.env 2 = .ptr 0 0 ∧ s.env 4 = .ptr 2 0 ∧ Fresh s.mem ∧ 3 ≤ s.mem.next ∧ s.mem.mode 0 = .rw ∧ s.mem.mode 2 = .rw ∧ s.mem.cell 0 0 = some .nils ∧ s.mem.cell 0 1 = some (.int .i64 0) ∧ s.mem.cell 2 1 = some (.int .i64 0) ∧ ∃ S, s.mem.cell 2 0 = some S ∧ App eAR 5 S (l.map ar0) 3 s.mem) l.length (by omega) (by
      refine ⟨by simp, by simp, by simp, by simp, ?_, by simp, by simp [upd], by simp [upd], by simp, by simp, by simp, 0, .nils, by simp, by simp, by simp, .inl ⟨by simp, rfl⟩⟩
      intro id hid
      simp at hid
      show upd (upd C.m0.mode 0 Md.rw) 2 Md.rw id = .dead
      rw [upd, if_neg (by omega), upd, if_neg (by omega)]
      exact m0_dead id) (by
      rintro q s ⟨e2, e4, e7, e8, hfr, hnx, m0, m2, c00, c01, c21, i, S, hiq, e9, c20, hA⟩
      by_cases hi : i < l.length
      · have hax := SL.indexAddr (P := Try.prog) Try.underlying29 sz3 eInt_len ha (k := .i64) hi
        have wi : IntKind.i64.wrap ((i : Int) + 1) = ((i + 1 : Nat) : Int) := IntWalk.i64_in _ (by omega)
        have hf : ∀ n, s.mem.mode (s.mem.next + n) = .dead := fun n => hfr _ (by omega)
        have n2 : ∀ n, ¬ 2 = s.mem.next + n := fun n => by omega
        have hie : ∀ q r, (eInt q ++ r) = .int .i64 q :: r := fun _ _ => rfl
        simp [e2, e4, e7, e8, e9, hi, hax, hie, ld3, m2, c20, hf, n2, buildSliceA, zeros, List.range, List.range.loop]
        generalize hM2 : Mem.mk _ _ _ _ = M2
        obtain ⟨inf, i1, i2, i3⟩ := inf94
        obtain ⟨m', a1, a2, a3, a4, a5⟩ := App.push (P := Try.prog) (t := 41) eAR_len Try.underlying41 i1 i2 (by omega) zc94 rfl (by omega) hA hfr (by omega) (by simp; omega) (p := 8) (v := ar0 l[i]) (M2 := M2) (by rw [← hM2]; exact Lay.alloc s.mem (eAR (ar0 l[i])) 8 _ 5 (by omega)) (by omega)
        have htk : (l.take (i + 1)).map ar0 = (l.take i).map ar0 ++ [ar0 l[i]] := by
          rw [List.take_succ_eq_append_getElem hi, List.map_append]
          rfl
        rw [← htk] at a2
        obtain ⟨x1, x2, _⟩ := a5 2 (by omega) (fun n e => by have := (app_own hA e).1; omega)
        obtain ⟨y1, y2, _⟩ := a5 0 (by omega) (fun n e => by have := (app_own hA e).1; omega)
        have z20 : m'.cell 2 0 = some S := by rw [x1]; exact c20
        have z2 : m'.mode 2 = .rw := x2.trans m2
        have z21 : m'.cell 2 1 = some (.int .i64 0) := by rw [x1]; exact c21
        have z0 : m'.mode 0 = .rw := y2.trans m0
        have z00 : m'.cell 0 0 = some .nils := by rw [y1]; exact c00
        have z01 : m'.cell 0 1 = some (.int .i64 0) := by rw [y1]; exact c01
        have hlt : (List.take i l).length = i := by simp; omega
        simp [a1, e2, e4, e7, e8, e9, z2, z20, wi]
        refine ⟨_, _, ⟨rfl, rfl⟩, ?_⟩
        have hmin : min i l.length = i := by omega
        simp [e2, e4, e7, e8, z00, z01, z21, z0, z2, hmin]
        refine ⟨by omega, Fresh.bump a4 2 _ _, by omega, i + 1, by omega, by simp, ?_⟩
        have a6 := App.same (m' := { cell := fun i_2 o => if i_2 = 2 ∧ o = 0 then [AVal.own (s.mem.next + 9) 0 (i + 1) 5][o]? else m'.cell i_2 o, mode := m'.mode, siz := m'.siz, next := m'.next + 2 }) a2 (by simp) (fun id n _ _ h3 => ⟨by funext o; exact if_neg (by omega), rfl, rfl⟩)
        simp only [List.length_map, List.length_take, hmin, Nat.add_assoc] at a6
        rw [List.map_take] at a6
        exact a6
      · have : i = l.length := by omega
        subst this
        simp [e2, e4, e7, e8, e9]
        rw [List.take_length] at hA
        exact ⟨Fresh.bump hfr _ _ _, by omega, m0, m2, c00, c01, c21, S, c20, hA.grow (Grow.bump _ _)⟩)
  obtain ⟨rfl, e2, e4, hfr, hnx, m0, m2, c00, c01, c21, S, c20, hA⟩ := hp
  have hS := App.fzd 5 hA eAR_len (fun x _ a ha m => eAR_in x a ha 5 m) (by simp; omega)
  simp only [List.length_map] at hS
  have hK := Kept.refl hA
  simp only [List.length_map] at hK
  have fz : ∀ n, freezeL (freezeV 8) [.agg [S, .int .i64 0]] { cell := s'.mem.cell, mode := s'.mem.mode, siz := s'.mem.siz, next := n } = some ([.agg [.imm l.length ((l.map ar0).flatMap eAR), .int .i64 0]], { cell := s'.mem.cell, mode := fzMd S s'.mem.mode, siz := s'.mem.siz, next := n }) := fun n => by
    have := hS { cell := s'.mem.cell, mode := s'.mem.mode, siz := s'.mem.siz, next := n } (Kept.same hK (fun _ _ _ => rfl) (fun _ _ _ h => h))
    simp [this]
  have hsl := sl_imm eAR (l.map ar0)
  rw [List.length_map] at hsl
  have g41 := fun n => c41 k (by omega) _ (l.map ar0) 0 hsl ⟨by simpa using hl, fun r hr => by
    obtain ⟨x, h1, rfl⟩ := List.mem_map.1 hr
    exact ar0_ok (hx x h1), by omega⟩ _ _ _ (fz n)
  have q2 : fzMd S s'.mem.mode 2 = .rw := by rw [App.fzMd_other hA s'.mem.mode (by omega)]; exact m2
  have q0 : fzMd S s'.mem.mode 0 = .rw := by rw [App.fzMd_other hA s'.mem.mode (by omega)]; exact m0
  have hS4 := App.fzd 4 hA eAR_len (fun x _ a ha m => eAR_in x a ha 4 m) (by simp; omega)
  simp only [List.length_map] at hS4
  have hf6 := hS4 { cell := fun i o => if i = 0 ∧ o < 2 then [S, AVal.int IntKind.i64 0][o]? else s'.mem.cell i o, mode := fzMd S s'.mem.mode, siz := s'.mem.siz, next := s'.mem.next + 6 } (Kept.same hK (fun id k e => by have := (app_own hA e).1; funext o; exact if_neg (by omega)) (fun _ _ _ h => fzMd_live _ _ h))
  simp [e2, e4, m2, c20, c21, g41, q2, q0, c00, c01, hf6]
end Go.Proofs.Ytmfdjipijifabab
end
section
/- Rate control: samples, rounds. -/
set_option linter.unusedVariables false
set_option linter.unusedSimpArgs false
set_option linter.unnecessarySimpa false
set_option maxRecDepth 100000
namespace Go.Proofs.Ytmfdjipijifabab
open Go.Ab

/-- An element is appended that was laid beside others. -/
theorem App.pushG {α : Type} {enc : α → List AVal} {sz lo : Nat} {s : AVal} {l : List α} {m M2 : Mem} {P : Program} {t e : TypeId} {i : TypeInfo} {z : List AVal} (he : ∀ x, (enc x).length = sz) (hu : P.underlying t = some (.slice e)) (hi : P.info? e = some i) (hs : i.size = sz) (hb : i.bytes ≤ 100000) (hz : zeroA P e = some z) (hzl : z.length = sz) (hpos : 0 < sz)
    (h : App enc sz s l lo m) (hlo : lo ≤ m.next) (hl : l.length < 2 ^ 20) {xid new : Nat} {v : α} (hnx : m.next ≤ M2.next)
    (low : ∀ id, id < m.next → M2.cell id = m.cell id ∧ M2.mode id = m.mode id ∧ M2.siz id = m.siz id) (hd : ∀ id, m.next ≤ id → id ≠ xid → (M2.mode id = .dead ∨ id < M2.next)) (hx : M2.mode xid ≠ .dead) (hxn : xid < M2.next) (hxc : ∀ o, o < sz → M2.cell xid o = (enc v)[o]?) (hn1 : m.next ≤ new) (hn2 : new < M2.next) (hnd : M2.mode new = .dead) :
    ∃ m', appendA P t t s (.own xid 0 1 sz) M2 new = some (.own new 0 (l.length + 1) sz, m') ∧ App enc sz (.own new 0 (l.length + 1) sz) (l ++ [v]) lo m' ∧ m'.next = M2.next ∧ Fresh m' ∧ (∀ id, id < m.next → (∀ n, s ≠ .own id 0 n sz) → m'.cell id = m.cell id ∧ m'.mode id = m.mode id ∧ m'.siz id = m.siz id) := by
  have hA2 : App enc sz s l lo M2 := by
    rcases h with h | ⟨id, h1, h2, h3, h4, h5, h6⟩
    · exact .inl h
    · obtain ⟨a, b, c⟩ := low id h3
      exact .inr ⟨id, h1, h2, by omega, b.trans h4, c.trans h5, fun o ho => by rw [a]; exact h6 o ho⟩
  obtain ⟨m', a1, a2, a3, a4, a5⟩ := App.more he hu hi hs hb hz hzl hpos hA2 hx hxc (by omega) hnd hn2 hl
  refine ⟨m', a1, a2, a3, fun id hid => a5 id (by omega) ?_, fun id hid hne => ?_⟩
  · rcases hd id (by omega) (by omega) with h | h
    · exact h
    · omega
  · obtain ⟨b1, b2, b3⟩ := a4 id (by omega) hne
    obtain ⟨d1, d2, d3⟩ := low id hid
    exact ⟨b1.trans d1, b2.trans d2, b3.trans d3⟩

theorem c47 (k : Nat) (hk : 40 ≤ k) (a : AVal) (l : List AR) (n : Int) (ha : SL eAR a l) (hl : Ads l n) (args : List AVal) (m m1 : Mem) (hz : freezeL (freezeV 8) args m = some ([.agg [a, .int .i64 n], .int .i64 0], m1)) :
    cCall C T k 47 args m = some (.tup [.int .i64 (n % l.length), .int .i64 0], m1) := by
  refine pure_call kd47 39 hk hz fun k hk => ?_
  rw [body47]
  have hla := SL.len (P := Try.prog) Try.underlying41 ha
  have g := fun x lo hi => c49 k (by omega) x lo hi
  have g41 := fun m => c41 k (by omega) a l n ha hl [.agg [a, .int .i64 n]] m m (by simp [SL.fz ha])
  obtain ⟨n1, n2⟩ := hl.n
  obtain ⟨l1, l2⟩ := hl.len
  have w1 : IntKind.i64.wrap n = n := IntWalk.i64_in _ (by omega)
  have hz0 : ¬ (l.length : Int) = 0 := by omega
  have ht : n.tmod l.length = n % l.length := Int.tmod_eq_emod_of_nonneg n1
  have hl0 : ¬ l = [] := by intro h; simp [h] at l1
  simp [codeOf, Try.f47, hla, g, g41, w1, hz0, ht, hl0]

theorem c31 (k : Nat) (hk : 60 ≤ k) (a : AVal) (l : List AR) (n : Int) (ha : SL eAR a l) (hl : Ads l n) (hn : n < 1099511627776) (args : List AVal) (m m1 : Mem) (hz : freezeL (freezeV 8) args m = some ([.agg [a, .int .i64 n]], m1)) :
    cCall C T k 31 args m = some (.tup [.agg [.imm l.length ((l.map rndF).flatMap eAR), .int .i64 (n + 1)], .int .i64 0], m1) := by
  refine pure_call kd31 59 hk hz fun k hk => ?_
  rw [body31]
  have hla := SL.len (P := Try.prog) Try.underlying41 ha
  have g41 := fun m => c41 k (by omega) a l n ha hl [.agg [a, .int .i64 n]] m m (by simp [SL.fz ha])
  obtain ⟨n1, n2⟩ := hl.n
  obtain ⟨l1, l2⟩ := hl.len
  have w1 : IntKind.i64.wrap (n + 1) = n + 1 := IntWalk.i64_in _ (by omega)
  have hne : ¬ n = 1099511627776 := by omega
  have hne' : (n == 1099511627776) = false := by simp [hne]
  simp [codeOf, Try.f31, hla, g41, w1, hne, hne']
  generalize hl2 : cCode C _ _ _ (.loop _) _ = r
  obtain ⟨e, s', rfl, he, hp⟩ := loop_rule hl2 (fun q s => s.env 2 = .ptr 1 0 ∧ s.env 5 = .ptr 15 0 ∧ s.env 23 = a ∧ s.env 24 = .int .i64 l.length ∧ Fresh s.mem ∧ 16 ≤ s.mem.next ∧ s.mem.mode 1 = .rw ∧ s.mem.mode 15 = .rw ∧ s.mem.cell 1 0 = some .nils ∧ s.mem.cell 1 1 = some (.int .i64 0) ∧ s.mem.cell 15 1 = some (.int .i64 (n + 1)) ∧ ∃ i S, i + q = l.length ∧ s.env 25 = .int .i64 (i : Nat) ∧ s.mem.cell 15 0 = some S ∧ App eAR 5 S ((l.take i).map rndF) 16 s.mem)
    (fun e s => e = .exit 0 ∧ s.env 2 = .ptr 1 0 ∧ s.env 5 = .ptr 15 0 ∧ Fresh s.mem ∧ 16 ≤ s.mem.next ∧ s.mem.mode 1 = .rw ∧ s.mem.mode 15 = .rw ∧ s.mem.cell 1 0 = some .nils ∧ s.mem.cell 1 1 = some (.int .i64 0) ∧ s.mem.cell 15 1 = some (.int .i64 (n + 1)) ∧ ∃ S, s.mem.cell 15 0 = some S ∧ App eAR 5 S (l.map rndF) 16 s.mem) l.length (by omega) (by
      refine ⟨by simp, by simp, by simp, by simp, ?_, by simp, by simp [upd], by simp [upd], by simp, by simp, by simp, 0, .nils, by simp, by simp, by simp, .inl ⟨by simp, rfl⟩⟩
      intro id hid
      simp at hid
      show upd (upd (upd C.m0.mode 0 Md.rw) 1 Md.rw) 15 Md.rw id = .dead
      rw [upd, if_neg (by omega), upd, if_neg (by omega), upd, if_neg (by omega)]
      exact m0_dead id) (by
      rintro q s ⟨e2, e5, e23, e24, hfr, hnx, m1, m15, c10, c11, c151, i, S, hiq, e25, c150, hA⟩
      by_cases hi : i < l.length
      · have hax := SL.indexAddr (P := Try.prog) Try.underlying41 sz94 eAR_len ha (k := .i64) hi
        have wi : IntKind.i64.wrap ((i : Int) + 1) = ((i + 1 : Nat) : Int) := IntWalk.i64_in _ (by omega)
        have hf : ∀ n, s.mem.mode (s.mem.next + n) = .dead := fun n => hfr _ (by omega)
        have n15 : ∀ n, ¬ 15 = s.mem.next + n := fun n => by omega
        have hbe : eAR l[i] = [.int .i64 l[i].air, .int .i64 l[i].tries, .int .i64 l[i].good, .int .i64 l[i].chance, .bool l[i].known] := rfl
        have g51 := c51 k (by omega) l[i] (hl.ok _ (List.getElem_mem hi))
        rw [hbe] at g51
        have hbr : eAR (rndF l[i]) = [.int .i64 (rndF l[i]).air, .int .i64 (rndF l[i]).tries, .int .i64 (rndF l[i]).good, .int .i64 (rndF l[i]).chance, .bool (rndF l[i]).known] := rfl
        rw [hbr] at g51
        simp [e2, e5, e23, e24, e25, hi, hax, hbe, ld94, m15, c150, hf, n15, g51, callFoot, buildSliceA, zeros, List.range, List.range.loop]
        generalize hM2 : Mem.mk _ _ _ _ = M2
        obtain ⟨inf, i1, i2, i3⟩ := inf94
        have htk : (l.take (i + 1)).map rndF = (l.take i).map rndF ++ [rndF l[i]] := by
          rw [List.take_succ_eq_append_getElem hi, List.map_append]
          rfl
        obtain ⟨m', a1, a2, a3, a4, a5⟩ := App.pushG (P := Try.prog) (t := 41) eAR_len Try.underlying41 i1 i2 (by omega) zc94 rfl (by omega) hA (by omega) (by simp; omega) (xid := s.mem.next + 9) (new := s.mem.next + 10) (v := rndF l[i]) (M2 := M2) (by rw [← hM2]; simp)
          (fun id h => by
            have h1 : ¬ id = s.mem.next + 3 := by omega
            have h2 : ¬ id = s.mem.next + 9 := by omega
            rw [← hM2]
            exact ⟨by funext o; simp [h1, h2], by simp [upd, h1, h2], by simp [upd, h1, h2]⟩)
          (fun id h h2 => by
            by_cases h1 : id = s.mem.next + 3
            · right; rw [← hM2]; simp; omega
            · left; rw [← hM2]; simp [upd, h1, h2]; exact hfr id h)
          (by rw [← hM2]; simp) (by rw [← hM2]; simp) (fun o ho => by rw [← hM2, hbr]; simp) (by omega) (by rw [← hM2]; simp) (by rw [← hM2]; simp [upd]; exact hf 10)
        rw [← htk] at a2
        obtain ⟨x1, x2, _⟩ := a5 15 (by omega) (fun n e => by have := (app_own hA e).1; omega)
        obtain ⟨y1, y2, _⟩ := a5 1 (by omega) (fun n e => by have := (app_own hA e).1; omega)
        have z150 : m'.cell 15 0 = some S := by rw [x1]; exact c150
        have z15 : m'.mode 15 = .rw := x2.trans m15
        have z151 : m'.cell 15 1 = some (.int .i64 (n + 1)) := by rw [x1]; exact c151
        have z1 : m'.mode 1 = .rw := y2.trans m1
        have z10 : m'.cell 1 0 = some .nils := by rw [y1]; exact c10
        have z11 : m'.cell 1 1 = some (.int .i64 0) := by rw [y1]; exact c11
        have hmin : min i l.length = i := by omega
        simp [a1, e2, e5, e23, e24, e25, z15, z150, wi]
        refine ⟨_, _, ⟨rfl, rfl⟩, ?_⟩
        simp [e2, e5, e23, e24, z10, z11, z151, z1, z15, hmin]
        have n2 : M2.next = s.mem.next + 13 := by rw [← hM2]
        refine ⟨by omega, Fresh.bump a4 2 _ _, by omega, i + 1, by omega, by simp, ?_⟩
        have a6 := App.same (m' := { cell := fun i_2 o => if i_2 = 15 ∧ o = 0 then [AVal.own (s.mem.next + 10) 0 (i + 1) 5][o]? else m'.cell i_2 o, mode := m'.mode, siz := m'.siz, next := m'.next + 2 }) a2 (by simp) (fun id n _ _ h3 => ⟨by funext o; exact if_neg (by omega), rfl, rfl⟩)
        simp only [List.length_map, List.length_take, hmin, Nat.add_assoc] at a6
        rw [List.map_take] at a6
        exact a6
      · have : i = l.length := by omega
        subst this
        simp [e2, e5, e23, e24, e25]
        rw [List.take_length] at hA
        exact ⟨Fresh.bump hfr _ _ _, by omega, m1, m15, c10, c11, c151, S, c150, hA.grow (Grow.bump _ _)⟩)
  obtain ⟨rfl, e2, e5, hfr, hnx, m1, m15, c10, c11, c151, S, c150, hA⟩ := hp
  have hS4 := App.fzd 4 hA eAR_len (fun x _ a ha m => eAR_in x a ha 4 m) (by simp; omega)
  simp only [List.length_map] at hS4
  have hK := Kept.refl hA
  simp only [List.length_map] at hK
  have hf6 := hS4 { cell := fun i o => if i = 1 ∧ o < 2 then [S, AVal.int IntKind.i64 (n + 1)][o]? else s'.mem.cell i o, mode := s'.mem.mode, siz := s'.mem.siz, next := s'.mem.next + 3 } (Kept.same hK (fun id k e => by have := (app_own hA e).1; funext o; exact if_neg (by omega)) (fun _ _ _ h => h))
  simp [e2, e5, m1, m15, c150, c151, c10, c11, hf6]
end Go.Proofs.Ytmfdjipijifabab
end
section
/- Rate control: a report. -/
set_option linter.unusedVariables false
set_option linter.unusedSimpArgs false
set_option linter.unnecessarySimpa false
set_option maxRecDepth 100000
namespace Go.Proofs.Ytmfdjipijifabab
open Go.Ab

/-- One element of a list in memory is written. -/
theorem App.setAt {α : Type} {enc : α → List AVal} {sz lo id n : Nat} {l : List α} {m m' : Mem} (he : ∀ x, (enc x).length = sz) (hpos : 0 < sz) (h : App enc sz (.own id 0 n sz) l lo m) {i : Nat} (hi : i < l.length) {v : α} (hn : m.next ≤ m'.next) (hm : m'.mode id = m.mode id) (hs : m'.siz id = m.siz id)
    (h1 : ∀ o, o < sz → m'.cell id (i * sz + o) = (enc v)[o]?) (h2 : ∀ o, (o < i * sz ∨ i * sz + sz ≤ o) → m'.cell id o = m.cell id o) : App enc sz (.own id 0 n sz) (l.set i v) lo m' := by
  rcases h with ⟨_, h⟩ | ⟨id', e, k2, k3, k4, k5, k6⟩
  · cases h
  · cases e
    refine .inr ⟨id, by rw [List.length_set], k2, by omega, hm.trans k4, by rw [hs, List.length_set]; exact k5, fun o ho => ?_⟩
    rw [List.length_set] at ho
    have hdm : o = (o / sz) * sz + o % sz := by rw [Nat.mul_comm]; exact (Nat.div_add_mod o sz).symm
    have hq := Nat.mod_lt o hpos
    have hj : o / sz < l.length := (Nat.div_lt_iff_lt_mul hpos).2 ho
    by_cases hji : o / sz = i
    · rw [hdm, hji, h1 _ hq, flatMap_at he _ hq, List.getElem?_set_self hi]
      rfl
    · have hne : o < i * sz ∨ i * sz + sz ≤ o := by
        rcases Nat.lt_or_gt_of_ne hji with h | h
        · left; exact (Nat.div_lt_iff_lt_mul hpos).1 h
        · right
          have : (i + 1) * sz ≤ o := (Nat.le_div_iff_mul_le hpos).1 h
          rw [Nat.add_mul] at this
          omega
      rw [h2 o hne, k6 o ho, hdm, flatMap_at he _ hq, flatMap_at he _ hq, List.getElem?_set_ne (by omega)]

theorem c50 (k : Nat) (hk : 1 ≤ k) (l : List AR) (hl : 1 ≤ l.length ∧ l.length ≤ 2 ^ 16) (m : Mem) (hf : Fresh m) :
    ∃ m', cCall C T k 50 [.imm l.length (l.flatMap eAR)] m = some (.own (m.next + 5) 0 l.length 5, m') ∧ App eAR 5 (.own (m.next + 5) 0 l.length 5) l m.next m' ∧ Fresh m' ∧ m.next ≤ m'.next ∧ (∀ i, i < m.next → m'.cell i = m.cell i ∧ m'.mode i = m.mode i ∧ m'.siz i = m.siz i) := by
  obtain ⟨k, rfl⟩ : ∃ j, k = j + 1 := ⟨k - 1, by omega⟩
  simp only [cCall, kd50]
  rw [body50]
  have hfr : ∀ n, m.mode (m.next + n) = .dead := fun n => hf _ (by omega)
  obtain ⟨inf, i1, i2, i3⟩ := inf94
  have hfl := flatMap_len eAR_len l
  have hfl' : List.length (l.flatMap eAR) = l.length * 5 := hfl
  have hpos : 0 < l.length := by omega
  have hcap : l.length * 40 ≤ 140737488355328 ∧ l.length ≤ maxLen := by unfold maxLen; omega
  refine ⟨{ cell := fun i o => if i = m.next + 5 then (List.flatMap eAR l)[o]? else if i = m.next + 3 then none else m.cell i o, mode := upd (upd (upd m.mode (m.next + 3) Md.rw) (m.next + 3) Md.dead) (m.next + 5) Md.rw, siz := upd (upd m.siz (m.next + 3) 0) (m.next + 5) (l.length * 5), next := m.next + 7 }, ?_, .inr ⟨m.next + 5, rfl, by omega, by simp, by simp [upd], by simp [upd], fun o ho => by simp⟩, fun id hid => ?_, by simp, fun i h => ?_⟩
  · simp [codeOf, Try.f50, hpos, hcap, buildSliceA, zeros, List.range, List.range.loop, hfr, appendA, elemsA, i1, i2, i3, hfl']
  · simp only [] at hid
    show upd (upd (upd m.mode (m.next + 3) Md.rw) (m.next + 3) Md.dead) (m.next + 5) Md.rw id = .dead
    rw [upd, if_neg (by omega), upd, if_neg (by omega), upd, if_neg (by omega)]
    exact hf id (by omega)
  · have h1 : ¬ i = m.next + 3 := by omega
    have h2 : ¬ i = m.next + 5 := by omega
    exact ⟨by funext o; simp [h1, h2], by simp [upd, h1, h2], by simp [upd, h1, h2]⟩

/-- A rate with one try more. -/
def tryF (r : AR) (g : Int) : AR := { r with tries := r.tries + 1, good := r.good + g }

theorem c30 (k : Nat) (hk : 60 ≤ k) (a : AVal) (l : List AR) (n : Int) (ha : SL eAR a l) (hl : Ads l n) (i : Nat) (hi : i < l.length) (hi2 : l[i].tries < 10000) (g : Int) (hg : 0 ≤ g ∧ g ≤ 1) (args : List AVal) (m m1 : Mem) (hz : freezeL (freezeV 8) args m = some ([.agg [a, .int .i64 n], .int .i64 i, .int .i64 1, .int .i64 g], m1)) :
    cCall C T k 30 args m = some (.tup [.agg [.imm l.length ((l.set i (tryF l[i] g)).flatMap eAR), .int .i64 n], .int .i64 0], m1) := by
  refine pure_call kd30 59 hk hz fun k hk => ?_
  rw [body30]
  have hla := SL.len (P := Try.prog) Try.underlying41 ha
  have g41 := fun m => c41 k (by omega) a l n ha hl [.agg [a, .int .i64 n]] m m (by simp [SL.fz ha])
  have g49 := fun x lo hi => c49 k (by omega) x lo hi
  obtain ⟨n1, n2⟩ := hl.n
  obtain ⟨l1, l2⟩ := hl.len
  have ha' : a = .imm l.length (l.flatMap eAR) := by
    rcases ha with ⟨h, _⟩ | h
    · rw [h] at l1; simp at l1
    · exact h
  have w1 : IntKind.i64.wrap ((l.length : Int) - 1) = (l.length : Int) - 1 := IntWalk.i64_in _ (by omega)
  have i1 : (0 : Int) ≤ i := by omega
  have i2 : (i : Int) ≤ (l.length : Int) - 1 := by omega
  obtain ⟨g1, g2⟩ := hg
  subst ha'
  have hok := hl.ok _ (List.getElem_mem hi)
  have t1 := hok.tries
  have t2 := hok.good
  simp [codeOf, Try.f30, hla, g41, g49, w1, i1, i2, g1, g2]
  generalize hM : Mem.mk _ _ _ _ = M
  have hF : Fresh M := fun id hid => by
    rw [← hM] at hid ⊢
    simp only [] at hid
    show upd (upd C.m0.mode 0 Md.rw) 1 Md.rw id = .dead
    rw [upd, if_neg (by omega), upd, if_neg (by omega)]
    exact m0_dead id
  have nM : M.next = 31 := by rw [← hM]
  have m0 : M.mode 0 = .rw := by rw [← hM]; simp [upd]
  have m1' : M.mode 1 = .rw := by rw [← hM]; simp [upd]
  have c00 : M.cell 0 0 = some (.imm l.length (l.flatMap eAR)) := by rw [← hM]; simp
  have c01 : M.cell 0 1 = some (.int .i64 n) := by rw [← hM]; simp
  have c10 : M.cell 1 0 = some .nils := by rw [← hM]; simp
  have c11 : M.cell 1 1 = some (.int .i64 0) := by rw [← hM]; simp
  clear hM
  obtain ⟨M2, q1, q2, q3, q4, q5⟩ := c50 k (by omega) l ⟨l1, by omega⟩ M hF
  rw [nM] at q1 q2 q5
  obtain ⟨u1, u2, _⟩ := q5 0 (by omega)
  obtain ⟨v1, v2, _⟩ := q5 1 (by omega)
  rw [← u2] at m0
  rw [← v2] at m1'
  rw [← u1] at c00 c01
  rw [← v1] at c10 c11
  have hA := q2
  rcases q2 with ⟨h, _⟩ | ⟨id, e, r2, r3, r4, r5, r6⟩
  · rw [h] at l1; simp at l1
  cases e
  have hle : (i + 1) * 5 ≤ l.length * 5 := Nat.mul_le_mul_right _ hi
  have hg' : ∀ o, o < 5 → M2.cell 36 (i * 5 + o) = (eAR l[i])[o]? := fun o ho => by
    rw [r6 _ (by omega), flatMap_at eAR_len l ho, List.getElem?_eq_getElem hi]
    rfl
  have x0 := hg' 0 (by omega)
  have x1 := hg' 1 (by omega)
  have x2 := hg' 2 (by omega)
  simp [eAR] at x0 x1 x2
  have w2 : IntKind.i64.wrap (l[i].tries + 1) = l[i].tries + 1 := IntWalk.i64_in _ (by omega)
  have w3 : IntKind.i64.wrap (l[i].good + g) = l[i].good + g := IntWalk.i64_in _ (by omega)
  have hlt : ¬ (10000 : Int) < l[i].tries + 1 := by omega
  have hix : indexAddrA Try.prog 41 (.own 36 0 l.length 5) (.int .i64 i) = some (.ptr 36 (i * 5)) := by simp [indexAddrA, hi]
  simp [q1, m0, m1', c00, c01, c10, c11, hix, r4, x1, x2, w2, w3, hlt]
  generalize hM3 : Mem.mk _ _ _ _ = M3
  have hA3 : App eAR 5 (.own 36 0 l.length 5) (l.set i (tryF l[i] g)) 31 M3 := by
    refine App.setAt eAR_len (by omega) hA hi (by rw [← hM3]; simp) (by rw [← hM3]) (by rw [← hM3]) (fun o ho => ?_) (fun o ho => ?_)
    · have h5 : o = 0 ∨ o = 1 ∨ o = 2 ∨ o = 3 ∨ o = 4 := by omega
      have y := hg' o ho
      rw [← hM3]
      rcases h5 with rfl | rfl | rfl | rfl | rfl
      · have e1 : ¬ (i * 5 + 2 ≤ i * 5 + 0 ∧ i * 5 + 0 < i * 5 + 3) := by omega
        have e2 : ¬ (i * 5 + 1 ≤ i * 5 + 0 ∧ i * 5 + 0 < i * 5 + 2) := by omega
        simp [eAR] at y
        simp [eAR, tryF, y]
        rw [if_neg (by omega), if_neg (by omega)]
      · simp [eAR, tryF]
      · simp [eAR, tryF]
      · simp [eAR] at y
        simp [eAR, tryF, y]
      · simp [eAR] at y
        simp [eAR, tryF, y]
    · rw [← hM3]
      have e1 : ¬ (i * 5 + 2 ≤ o ∧ o < i * 5 + 3) := by omega
      have e2 : ¬ (i * 5 + 1 ≤ o ∧ o < i * 5 + 2) := by omega
      simp [e1, e2]
  have hf6 := App.fzd 4 hA3 eAR_len (fun x _ a ha m => eAR_in x a ha 4 m) (by simp; omega) M3 (Kept.refl hA3)
  rw [List.length_set] at hf6
  simp [hf6]
end Go.Proofs.Ytmfdjipijifabab
end
section
/- Distances and losses. -/
set_option linter.unusedVariables false
set_option linter.unusedSimpArgs false
set_option linter.unnecessarySimpa false
set_option maxRecDepth 100000
namespace Go.Proofs.Ytmfdjipijifabab
open Go.Ab

theorem sqrt_ex (s : Nat) : ∃ d, d * d ≤ s ∧ s < (d + 1) * (d + 1) := by
  induction s with
  | zero => exact ⟨0, by omega, by omega⟩
  | succ s ih =>
    obtain ⟨d, h1, h2⟩ := ih
    by_cases h : s + 1 < (d + 1) * (d + 1)
    · exact ⟨d, by omega, h⟩
    · refine ⟨d + 1, by omega, ?_⟩
      have : (d + 1 + 1) * (d + 1 + 1) = (d + 1) * (d + 1) + 2 * d + 3 := by
        rw [Nat.add_mul, Nat.mul_add]; omega
      omega
theorem sq_lt {a b : Nat} (h : a < b) : (a + 1) * (a + 1) ≤ b * b := Nat.mul_le_mul h h
theorem sq_le {a b : Nat} (h : a ≤ b) : a * a ≤ b * b := Nat.mul_le_mul h h

theorem c74 (k : Nat) (hk : 1 ≤ k) (x : Nat) (hx : x ≤ 30000) (s : Nat) (id : Nat) (m : Mem) (h2 : m.mode id = .rw) (h3 : m.cell id 0 = some (.int .i64 s)) :
    cCall C T k 74 [.int .i64 x, .ptr id 0] m = some (.bool (decide (s < (x + 1) * (x + 1))), { cell := m.cell, mode := m.mode, siz := m.siz, next := m.next + 9 }) := by
  obtain ⟨k, rfl⟩ : ∃ j, k = j + 1 := ⟨k - 1, by omega⟩
  simp only [cCall, kd74]
  rw [body74]
  have w1 : IntKind.i64.wrap ((x : Int) + 1) = (x : Int) + 1 := IntWalk.i64_in _ (by omega)
  have hm : (x + 1) * (x + 1) ≤ 30001 * 30001 := sq_le (by omega)
  have hc : ((x : Int) + 1) * ((x : Int) + 1) = (((x + 1) * (x + 1) : Nat) : Int) := by rw [Int.natCast_mul]; rfl
  have w2 : IntKind.i64.wrap (((x : Int) + 1) * ((x : Int) + 1)) = ((x : Int) + 1) * ((x : Int) + 1) := IntWalk.i64_in _ (by omega)
  have hd : (s : Int) < ((x : Int) + 1) * ((x : Int) + 1) ↔ s < (x + 1) * (x + 1) := by rw [hc]; omega
  simp [codeOf, Try.f74, h2, h3, w1, w2, hd]

theorem c73 (k : Nat) (hk : 30010 ≤ k) (s d : Nat) (hd : d * d ≤ s) (hd2 : s < (d + 1) * (d + 1)) (hd3 : d < 30000) (id : Nat) (m : Mem) (h1 : id < m.next) (h2 : m.mode id = .rw) (h3 : m.cell id 0 = some (.int .i64 s)) :
    ∃ m', cCall C T k 73 [.int .i64 30000, .fn 74 [] [.ptr id 0]] m = some (.int .i64 d, m') ∧ Grow m m' := by
  obtain ⟨k, rfl⟩ : ∃ j, k = j + 1 := ⟨k - 1, by omega⟩
  simp only [cCall, kd73]
  rw [body73]
  simp [codeOf, Try.f73]
  generalize hl : cCode C _ _ _ (.loop _) _ = r
  obtain ⟨e, s', rfl, he, hp⟩ := loop_rule hl (fun q s => s.env 1 = .fn 74 [] [.ptr id 0] ∧ Grow m s.mem ∧ ∃ lo hi : Nat, lo ≤ d ∧ d ≤ hi ∧ hi ≤ 30000 ∧ hi ≤ lo + q ∧ s.env 5 = .int .i64 lo ∧ s.env 6 = .int .i64 hi)
    (fun e s => e = .exit 0 ∧ Grow m s.mem ∧ s.env 5 = .int .i64 d) 30000 (by omega) (by
      exact ⟨by simp, Grow.bump _ _, 0, 30000, by omega, by omega, by omega, by omega, by simp, by simp⟩) (by
      rintro q st ⟨e1, hg, lo, hi, a1, a2, a3, a4, e5, e6⟩
      by_cases hlt : lo < hi
      · have hm1 : st.mem.mode id = .rw := (hg.mode id h1).trans h2
        have hm2 : st.mem.cell id 0 = some (.int .i64 s) := by rw [hg.cell id h1]; exact h3
        obtain ⟨mid, hmid⟩ : ∃ mid, mid = (lo + hi) / 2 := ⟨_, rfl⟩
        have w1 : IntKind.i64.wrap ((lo : Int) + hi) = (lo : Int) + hi := IntWalk.i64_in _ (by omega)
        have w2 : IntKind.u64.wrap ((lo : Int) + hi) = (lo : Int) + hi := by
          show ((lo : Int) + hi) % (2 ^ 64 : Int) = _
          exact Int.emod_eq_of_lt (by omega) (by omega)
        have hb : (2 : Int) ^ min 1 IntKind.u64.bits = 2 := by decide
        have w3 : ((lo : Int) + hi).fdiv 2 = (mid : Int) := by
          rw [Int.fdiv_eq_ediv_of_nonneg _ (by omega), hmid]
          omega
        have w4 : IntKind.i64.wrap (mid : Int) = mid := IntWalk.i64_in _ (by omega)
        have w5 : IntKind.i64.wrap ((mid : Int) + 1) = (mid : Int) + 1 := IntWalk.i64_in _ (by omega)
        have g := fun n => c74 k (by omega) mid (by omega) s id { cell := st.mem.cell, mode := st.mem.mode, siz := st.mem.siz, next := n } hm1 hm2
        have hlt' : (lo : Int) < hi := by omega
        by_cases hs : s < (mid + 1) * (mid + 1)
        · have hdm : d ≤ mid := by
            rcases Nat.lt_or_ge mid d with h | h
            · have := sq_lt h; omega
            · exact h
          simp [e1, e5, e6, hlt', w1, w2, hb, w3, w4, g, hs]
          exact ⟨by omega, hg.trans (Grow.bump _ _), lo, a1, mid, hdm, by omega, by omega, rfl, rfl⟩
        · have hdm : mid < d := by
            rcases Nat.lt_or_ge mid d with h | h
            · exact h
            · have := sq_le (show d + 1 ≤ mid + 1 by omega); omega
          simp [e1, e5, e6, hlt', w1, w2, hb, w3, w4, w5, g, hs]
          exact ⟨by omega, hg.trans (Grow.bump _ _), mid + 1, by omega, hi, a2, a3, by omega, by simp, rfl⟩
      · have : lo = d := by omega
        subst this
        have hlt' : ¬ (lo : Int) < hi := by omega
        simp [e1, e5, e6, hlt']
        exact hg.trans (Grow.bump _ _))
  obtain ⟨rfl, hg, e5⟩ := hp
  simp [e5]
  exact hg.trans (Grow.bump _ _)

theorem c59 (k : Nat) (hk : 30012 ≤ k) (s d : Nat) (hd : d * d ≤ s) (hd2 : s < (d + 1) * (d + 1)) (hd3 : d < 30000) (m : Mem) : cCall C T k 59 [.int .i64 s] m = some (.int .i64 d, m) := by
  refine pure_call kd59 30011 hk (by simp; rfl) fun k hk => ?_
  rw [body59]
  obtain ⟨mm, hmm⟩ := skolem (fun m (hm : 0 < m.next ∧ m.mode 0 = .rw ∧ m.cell 0 0 = some (.int .i64 s)) => c73 k (by omega) s d hd hd2 hd3 0 m hm.1 hm.2.1 hm.2.2)
  have f1 : ∀ m, _ → cCall C T k 73 _ m = some _ := fun m h => (hmm m h).1
  simp [codeOf, Try.f59, f1]

theorem c37 (k : Nat) (hk : 30012 ≤ k) (s d : Nat) (hd : d * d ≤ s) (hd2 : s < (d + 1) * (d + 1)) (hd3 : d < 30000) (m : Mem) : cCall C T k 37 [.int .i64 s] m = some (.int .i64 d, m) := by
  refine pure_call kd37 30011 hk (by simp; rfl) fun k hk => ?_
  rw [body37]
  simp [codeOf, Try.f37]
  generalize hl : cCode C _ _ _ (.loop _) _ = r
  obtain ⟨e, s', rfl, he, hp⟩ := loop_rule hl (fun q st => st.env 0 = .int .i64 s ∧ ∃ lo hi : Nat, lo ≤ d ∧ d ≤ hi ∧ hi ≤ 30000 ∧ hi ≤ lo + q ∧ st.env 3 = .int .i64 lo ∧ st.env 4 = .int .i64 hi)
    (fun e st => e = .exit 0 ∧ st.env 3 = .int .i64 d) 30000 (by omega) (by
      exact ⟨by simp, 0, 30000, by omega, by omega, by omega, by omega, by simp, by simp⟩) (by
      rintro q st ⟨e0, lo, hi, a1, a2, a3, a4, e3, e4⟩
      by_cases hlt : lo < hi
      · obtain ⟨mid, hmid⟩ : ∃ mid, mid = (lo + hi + 1) / 2 := ⟨_, rfl⟩
        have w1 : IntKind.i64.wrap ((lo : Int) + hi) = (lo : Int) + hi := IntWalk.i64_in _ (by omega)
        have w2 : IntKind.i64.wrap ((lo : Int) + hi + 1) = (lo : Int) + hi + 1 := IntWalk.i64_in _ (by omega)
        have w2' : IntKind.i64.wrap ((lo : Int) + (hi + 1)) = (lo : Int) + (hi + 1) := IntWalk.i64_in _ (by omega)
        have w3 : ((lo : Int) + hi + 1).tdiv 2 = (mid : Int) := by
          rw [Int.tdiv_eq_ediv_of_nonneg (by omega), hmid]
          omega
        have w3' : ((lo : Int) + (hi + 1)).tdiv 2 = (mid : Int) := by
          rw [← Int.add_assoc]; exact w3
        have w4 : IntKind.i64.wrap (mid : Int) = mid := IntWalk.i64_in _ (by omega)
        have w5 : IntKind.i64.wrap ((mid : Int) - 1) = (mid : Int) - 1 := IntWalk.i64_in _ (by omega)
        have hm : mid * mid ≤ 30001 * 30001 := sq_le (by omega)
        have hc : (mid : Int) * (mid : Int) = ((mid * mid : Nat) : Int) := by rw [Int.natCast_mul]
        have w6 : IntKind.i64.wrap ((mid : Int) * (mid : Int)) = (mid : Int) * (mid : Int) := IntWalk.i64_in _ (by omega)
        have hlt' : (lo : Int) < hi := by omega
        by_cases hs : mid * mid ≤ s
        · have hs' : (mid : Int) * (mid : Int) ≤ s := by rw [hc]; omega
          have hdm : mid ≤ d := by
            rcases Nat.lt_or_ge d mid with h | h
            · have := sq_lt h; omega
            · exact h
          simp [e0, e3, e4, hlt', w1, w2, w2', w3, w3', w4, w6, hs']
          exact ⟨by omega, mid, hdm, hi, a2, a3, by omega, rfl, rfl⟩
        · have hs' : ¬ (mid : Int) * (mid : Int) ≤ s := by rw [hc]; omega
          have hdm : d < mid := by
            rcases Nat.lt_or_ge d mid with h | h
            · exact h
            · have := sq_le h; omega
          simp [e0, e3, e4, hlt', w1, w2, w2', w3, w3', w4, w5, w6, hs']
          exact ⟨by omega, lo, a1, mid - 1, by omega, by omega, by omega, rfl, by omega⟩
      · have : lo = d := by omega
        subst this
        have hlt' : ¬ (lo : Int) < hi := by omega
        simp [e0, e3, e4, hlt'])
  obtain ⟨rfl, e3⟩ := hp
  simp [e3]

theorem log2_shift (k : Nat) : ∀ x, 2 ^ k ≤ x → Nat.log2 x = Nat.log2 (x / 2 ^ k) + k := by
  induction k with
  | zero => intro x _; simp
  | succ k ih =>
    intro x hx
    have h0 : 0 < 2 ^ k := Nat.pow_pos (by omega)
    have hp : 2 ^ (k + 1) = 2 * 2 ^ k := by rw [Nat.pow_succ, Nat.mul_comm]
    have h2 : 2 ≤ x := by omega
    have h3 : 2 ^ k ≤ x / 2 := by omega
    rw [Nat.log2_def, if_pos h2, ih _ h3, Nat.div_div_eq_div_mul, ← hp]
    omega

theorem c18 (k : Nat) (hk : 80 ≤ k) (d : Nat) (hd : d < 30000) (m : Mem) : cCall C T k 18 [.int .i64 d] m = some (.int .i64 (400 + 15 * (Nat.log2 (max d 1 * max d 1 * max d 1 * max d 1) : Nat)), m) := by
  refine pure_call kd18 79 hk (by simp; rfl) fun k hk => ?_
  rw [body18]
  obtain ⟨e, he⟩ : ∃ e, e = max d 1 := ⟨_, rfl⟩
  have he1 : (if (1 : Int) > d then (1 : Int) else d) = e := by
    rw [he]
    split <;> omega
  have he3 : e ≤ 30000 ∧ 1 ≤ e := by omega
  rw [← he]
  have b2 : e * e ≤ 30000 * 30000 := Nat.mul_le_mul he3.1 he3.1
  have b3 : e * e * e ≤ 30000 * 30000 * 30000 := Nat.mul_le_mul b2 he3.1
  have b4 : e * e * e * e ≤ 30000 * 30000 * 30000 * 30000 := Nat.mul_le_mul b3 he3.1
  have w2 : IntKind.i64.wrap ((e : Int) * e) = ((e * e : Nat) : Int) := by rw [← Int.natCast_mul]; exact IntWalk.i64_in _ (by omega)
  have w3 : IntKind.i64.wrap (((e * e : Nat) : Int) * e) = ((e * e * e : Nat) : Int) := by rw [← Int.natCast_mul]; exact IntWalk.i64_in _ (by omega)
  have w4 : IntKind.i64.wrap (((e * e * e : Nat) : Int) * e) = ((e * e * e * e : Nat) : Int) := by rw [← Int.natCast_mul]; exact IntWalk.i64_in _ (by omega)
  obtain ⟨x2, hx2⟩ : ∃ x, x = e * e := ⟨_, rfl⟩
  obtain ⟨x3, hx3⟩ : ∃ x, x = x2 * e := ⟨_, rfl⟩
  obtain ⟨x4, hx4⟩ : ∃ x, x = x3 * e := ⟨_, rfl⟩
  rw [← hx2, ← hx3, ← hx4] at w4
  rw [← hx2, ← hx3] at w3
  rw [← hx2] at w2
  rw [← hx2, ← hx3, ← hx4] at b4 ⊢
  have hpos : 1 ≤ x4 := by
    rw [hx4, hx3, hx2]
    have : 1 * 1 * 1 * 1 ≤ e * e * e * e := Nat.mul_le_mul (Nat.mul_le_mul (Nat.mul_le_mul he3.2 he3.2) he3.2) he3.2
    omega
  simp [codeOf, Try.f18, he1, w2, w3, w4]
  generalize hl : cCode C _ _ _ (.loop _) _ = r
  obtain ⟨e', s', rfl, he', hp⟩ := loop_rule hl (fun q st => ∃ left n : Nat, 1 ≤ left ∧ left < 2 ^ q ∧ q ≤ 60 ∧ n + Nat.log2 left = Nat.log2 x4 ∧ n + q = 60 ∧ st.env 4 = .int .i64 left ∧ st.env 5 = .int .i64 n)
    (fun e st => e = .exit 0 ∧ st.env 5 = .int .i64 (Nat.log2 x4 : Nat)) 60 (by omega) (by
      exact ⟨x4, 0, hpos, by omega, by omega, by omega, by omega, by simp, by simp⟩) (by
      rintro q st ⟨left, n, a1, a2, a3, a4, a5, e4, e5⟩
      by_cases h2 : 2 ≤ left
      · have h2' : (2 : Int) ≤ left := by omega
        have w1 : ((left : Int)).tdiv 2 = ((left / 2 : Nat) : Int) := by rw [Int.tdiv_eq_ediv_of_nonneg (by omega)]; omega
        have hb : left < 2 ^ 60 := Nat.lt_of_lt_of_le a2 (Nat.pow_le_pow_right (by omega) a3)
        have w5 : IntKind.i64.wrap ((left / 2 : Nat) : Int) = ((left / 2 : Nat) : Int) := IntWalk.i64_in _ (by omega)
        have w6 : IntKind.i64.wrap ((n : Int) + 1) = (n : Int) + 1 := IntWalk.i64_in _ (by omega)
        have hq : 0 < q := by
          rcases Nat.eq_zero_or_pos q with h | h
          · subst h; simp at a2; omega
          · exact h
        obtain ⟨q, rfl⟩ : ∃ j, q = j + 1 := ⟨q - 1, by omega⟩
        have hlg := Nat.log2_def left
        rw [if_pos h2] at hlg
        obtain ⟨hf, hhf⟩ : ∃ hf, hf = left / 2 := ⟨_, rfl⟩
        rw [← hhf] at w1 w5 hlg
        simp [e4, e5, h2', w1, w5, w6]
        exact ⟨hf, by omega, by rw [Nat.pow_succ] at a2; omega, by omega, n + 1, by omega, by omega, rfl, by simp⟩
      · have h1 : left = 1 := by omega
        subst h1
        have : Nat.log2 1 = 0 := by decide
        simp [e4, e5]
        omega)
  obtain ⟨rfl, e5⟩ := hp
  have hlt : Nat.log2 x4 < 60 := (Nat.log2_lt (by omega)).2 (by omega)
  have w7 : IntKind.i64.wrap (15 * ((Nat.log2 x4 : Nat) : Int)) = 15 * ((Nat.log2 x4 : Nat) : Int) := IntWalk.i64_in _ (by omega)
  have w8 : IntKind.i64.wrap (400 + 15 * ((Nat.log2 x4 : Nat) : Int)) = 400 + 15 * ((Nat.log2 x4 : Nat) : Int) := IntWalk.i64_in _ (by omega)
  simp [e5, w7, w8]

/-- The number of bits. -/
def blF (v : Nat) : Nat := if v = 0 then 0 else Nat.log2 v + 1
def okTab (S : ByteArray) : Bool := (List.range 256).all fun v => match S[v]? with
  | some b => b.toNat == blF v
  | none => false
theorem idx_eq {S : ByteArray} (hS : okTab S = true) {v : Nat} (hv : v < 256) : indexA Try.prog 9 (.str S) (.int .u8 v) = some (.int .u8 (blF v : Nat)) := by
  have h := List.all_eq_true.1 hS v (List.mem_range.2 hv)
  cases hs : S[v]? with
  | none => simp [hs] at h
  | some b =>
    simp [hs] at h
    simp [indexA, hs, h]
theorem bl_of {v : Nat} (h : 1 ≤ v) : blF v = Nat.log2 v + 1 := if_neg (by omega)

/-- One step of the search: whether the upper part is empty. -/
theorem len_step (k : Nat) (x : Nat) (hx : 1 ≤ x) : ∃ y n, (2 ^ k ≤ x → y = x / 2 ^ k ∧ n = k) ∧ (¬ 2 ^ k ≤ x → y = x ∧ n = 0) ∧ 1 ≤ y ∧ Nat.log2 y + n = Nat.log2 x ∧ (∀ j, x < 2 ^ (j + k) → k ≤ j → y < 2 ^ j) := by
  have h0 : 0 < 2 ^ k := Nat.pow_pos (by omega)
  by_cases h : 2 ^ k ≤ x
  · refine ⟨x / 2 ^ k, k, fun _ => ⟨rfl, rfl⟩, fun h' => absurd h h', (Nat.le_div_iff_mul_le h0).2 (by omega), (log2_shift k x h).symm, fun j hj _ => ?_⟩
    rw [Nat.div_lt_iff_lt_mul h0, ← Nat.pow_add]
    exact hj
  · exact ⟨x, 0, fun h' => absurd h' h, fun _ => ⟨rfl, rfl⟩, hx, rfl, fun j _ hkj => Nat.lt_of_lt_of_le (Nat.lt_of_not_le h) (Nat.pow_le_pow_right (by omega) hkj)⟩

theorem c60 (k : Nat) (hk : 1 ≤ k) (x : Nat) (hx : 1 ≤ x) (hx2 : x < 2 ^ 62) (m : Mem) : cCall C T k 60 [.int .u64 x] m = some (.int .i64 (Nat.log2 x + 1 : Nat), m) := by
  refine pure_call kd60 0 hk (by simp; rfl) fun k hk => ?_
  rw [body60]
  obtain ⟨y1, n1, a1, a2, a3, a4, a5⟩ := len_step 32 x hx
  obtain ⟨y2, n2, b1, b2, b3, b4, b5⟩ := len_step 16 y1 a3
  obtain ⟨y3, n3, d1, d2, d3, d4, d5⟩ := len_step 8 y2 b3
  have l1 : y1 < 2 ^ 32 := a5 32 (Nat.lt_of_lt_of_le hx2 (Nat.pow_le_pow_right (by omega) (by omega))) (by omega)
  have l2 : y2 < 2 ^ 16 := b5 16 l1 (by omega)
  have l3 : y3 < 2 ^ 8 := d5 8 l2 (by omega)
  have e32 : (2 : Int) ^ min 32 IntKind.u64.bits = 4294967296 := by decide
  have e16 : (2 : Int) ^ min 16 IntKind.u64.bits = 65536 := by decide
  have e8 : (2 : Int) ^ min 8 IntKind.u64.bits = 256 := by decide
  have f1 : (4294967296 : Int) ≤ x → ((x : Int)).fdiv 4294967296 = y1 ∧ n1 = 32 := fun h => by
    have := a1 (by omega)
    rw [Int.fdiv_eq_ediv_of_nonneg _ (by omega)]
    omega
  have f1' : ¬ (4294967296 : Int) ≤ x → y1 = x ∧ n1 = 0 := fun h => a2 (by omega)
  have f2 : (65536 : Int) ≤ y1 → ((y1 : Int)).fdiv 65536 = y2 ∧ n2 = 16 := fun h => by
    have := b1 (by omega)
    rw [Int.fdiv_eq_ediv_of_nonneg _ (by omega)]
    omega
  have f2' : ¬ (65536 : Int) ≤ y1 → y2 = y1 ∧ n2 = 0 := fun h => b2 (by omega)
  have f3 : (256 : Int) ≤ y2 → ((y2 : Int)).fdiv 256 = y3 ∧ n3 = 8 := fun h => by
    have := d1 (by omega)
    rw [Int.fdiv_eq_ediv_of_nonneg _ (by omega)]
    omega
  have f3' : ¬ (256 : Int) ≤ y2 → y3 = y2 ∧ n3 = 0 := fun h => d2 (by omega)
  have w8 : IntKind.u8.wrap (y3 : Int) = y3 := by
    show ((y3 : Int)) % (2 ^ 8 : Int) = _
    exact Int.emod_eq_of_lt (by omega) (by omega)
  have hbl := bl_of d3
  have hlg : Nat.log2 x < 62 := (Nat.log2_lt (by omega)).2 hx2
  have w9 : IntKind.i64.wrap ((blF y3 : Nat) : Int) = ((blF y3 : Nat) : Int) := IntWalk.i64_in _ (by omega)
  have hres : (blF y3 + n3 + n2 + n1 : Nat) = Nat.log2 x + 1 := by omega
  rw [← hres]
  clear hres a1 a2 b1 b2 d1 d2 a5 b5 d5
  have w48 : IntKind.i64.wrap 48 = 48 := by kernel_rfl
  have w56 : IntKind.i64.wrap 56 = 56 := by kernel_rfl
  have w40 : IntKind.i64.wrap 40 = 40 := by kernel_rfl
  have w24 : IntKind.i64.wrap 24 = 24 := by kernel_rfl
  have w16 : IntKind.i64.wrap 16 = 16 := by kernel_rfl
  have w08 : IntKind.i64.wrap 8 = 8 := by kernel_rfl
  have v56 : IntKind.i64.wrap (56 + ((blF y3 : Nat) : Int)) = 56 + ((blF y3 : Nat) : Int) := IntWalk.i64_in _ (by omega)
  have v48 : IntKind.i64.wrap (48 + ((blF y3 : Nat) : Int)) = 48 + ((blF y3 : Nat) : Int) := IntWalk.i64_in _ (by omega)
  have v40 : IntKind.i64.wrap (40 + ((blF y3 : Nat) : Int)) = 40 + ((blF y3 : Nat) : Int) := IntWalk.i64_in _ (by omega)
  have v32 : IntKind.i64.wrap (32 + ((blF y3 : Nat) : Int)) = 32 + ((blF y3 : Nat) : Int) := IntWalk.i64_in _ (by omega)
  have v24 : IntKind.i64.wrap (24 + ((blF y3 : Nat) : Int)) = 24 + ((blF y3 : Nat) : Int) := IntWalk.i64_in _ (by omega)
  have v16 : IntKind.i64.wrap (16 + ((blF y3 : Nat) : Int)) = 16 + ((blF y3 : Nat) : Int) := IntWalk.i64_in _ (by omega)
  have v8 : IntKind.i64.wrap (8 + ((blF y3 : Nat) : Int)) = 8 + ((blF y3 : Nat) : Int) := IntWalk.i64_in _ (by omega)
  by_cases h1 : (4294967296 : Int) ≤ x
  · obtain ⟨g1, rfl⟩ := f1 h1
    by_cases h2 : (65536 : Int) ≤ y1
    · obtain ⟨g2, rfl⟩ := f2 h2
      by_cases h3 : (256 : Int) ≤ y2
      · obtain ⟨g3, rfl⟩ := f3 h3
        simp [codeOf, Try.f60, h1, h2, h3, e32, e16, e8, g1, g2, g3, w48, w56, w40, w24, w16, w08, w8, w9, v56, v48, v40, v32, v24, v16, v8]
        rw [idx_eq (by kernel_rfl) l3]
        simp [w48, w56, w40, w24, w16, w08, w8, w9, v56, v48, v40, v32, v24, v16, v8]
        try omega
      · obtain ⟨rfl, rfl⟩ := f3' h3
        simp [codeOf, Try.f60, h1, h2, h3, e32, e16, e8, g1, g2, w48, w56, w40, w24, w16, w08, w8, w9, v56, v48, v40, v32, v24, v16, v8]
        rw [idx_eq (by kernel_rfl) l3]
        simp [w48, w56, w40, w24, w16, w08, w8, w9, v56, v48, v40, v32, v24, v16, v8]
        try omega
    · obtain ⟨rfl, rfl⟩ := f2' h2
      by_cases h3 : (256 : Int) ≤ y2
      · obtain ⟨g3, rfl⟩ := f3 h3
        simp [codeOf, Try.f60, h1, h2, h3, e32, e16, e8, g1, g3, w48, w56, w40, w24, w16, w08, w8, w9, v56, v48, v40, v32, v24, v16, v8]
        rw [idx_eq (by kernel_rfl) l3]
        simp [w48, w56, w40, w24, w16, w08, w8, w9, v56, v48, v40, v32, v24, v16, v8]
        try omega
      · obtain ⟨rfl, rfl⟩ := f3' h3
        simp [codeOf, Try.f60, h1, h2, h3, e32, e16, e8, g1, w48, w56, w40, w24, w16, w08, w8, w9, v56, v48, v40, v32, v24, v16, v8]
        rw [idx_eq (by kernel_rfl) l3]
        simp [w48, w56, w40, w24, w16, w08, w8, w9, v56, v48, v40, v32, v24, v16, v8]
        try omega
  · obtain ⟨rfl, rfl⟩ := f1' h1
    by_cases h2 : (65536 : Int) ≤ y1
    · obtain ⟨g2, rfl⟩ := f2 h2
      by_cases h3 : (256 : Int) ≤ y2
      · obtain ⟨g3, rfl⟩ := f3 h3
        simp [codeOf, Try.f60, h1, h2, h3, e32, e16, e8, g2, g3, w48, w56, w40, w24, w16, w08, w8, w9, v56, v48, v40, v32, v24, v16, v8]
        rw [idx_eq (by kernel_rfl) l3]
        simp [w48, w56, w40, w24, w16, w08, w8, w9, v56, v48, v40, v32, v24, v16, v8]
        try omega
      · obtain ⟨rfl, rfl⟩ := f3' h3
        simp [codeOf, Try.f60, h1, h2, h3, e32, e16, e8, g2, w48, w56, w40, w24, w16, w08, w8, w9, v56, v48, v40, v32, v24, v16, v8]
        rw [idx_eq (by kernel_rfl) l3]
        simp [w48, w56, w40, w24, w16, w08, w8, w9, v56, v48, v40, v32, v24, v16, v8]
        try omega
    · obtain ⟨rfl, rfl⟩ := f2' h2
      by_cases h3 : (256 : Int) ≤ y2
      · obtain ⟨g3, rfl⟩ := f3 h3
        simp [codeOf, Try.f60, h1, h2, h3, e32, e16, e8, g3, w48, w56, w40, w24, w16, w08, w8, w9, v56, v48, v40, v32, v24, v16, v8]
        rw [idx_eq (by kernel_rfl) l3]
        simp [w48, w56, w40, w24, w16, w08, w8, w9, v56, v48, v40, v32, v24, v16, v8]
        try omega
      · obtain ⟨rfl, rfl⟩ := f3' h3
        simp [codeOf, Try.f60, h1, h2, h3, e32, e16, e8, w48, w56, w40, w24, w16, w08, w8, w9, v56, v48, v40, v32, v24, v16, v8]
        rw [idx_eq (by kernel_rfl) l3]
        simp [w48, w56, w40, w24, w16, w08, w8, w9, v56, v48, v40, v32, v24, v16, v8]
        try omega
end Go.Proofs.Ytmfdjipijifabab
end
section
/- Radios: positions, levels. -/
set_option linter.unusedVariables false
set_option linter.unusedSimpArgs false
set_option linter.unnecessarySimpa false
set_option maxRecDepth 100000
namespace Go.Proofs.Ytmfdjipijifabab
open Go.Ab

structure Rad where
  (x y p c : Int)
  deriving DecidableEq
def eRad (r : Rad) : List AVal := [.int .i64 r.x, .int .i64 r.y, .int .i64 r.p, .int .i64 r.c]
theorem eRad_len (x : Rad) : (eRad x).length = 4 := rfl

theorem c72 {a : AVal} {l : List Int} (ha : SL eInt a l) (hll : l.length < 2 ^ 62) (p : Int → Bool) (g : FuncId) (fs cs : List AVal) (K : Nat) (Q : Mem → Prop) (hQ : ∀ m m', Q m → Grow m m' → Q m')
    (hf : ∀ k, K ≤ k → ∀ x ∈ l, ∀ m, Q m → ∃ m', cCall C T k g (fs ++ [.int .i64 x] ++ cs) m = some (.bool (p x), m') ∧ Grow m m') :
    ∀ k, K + l.length + 2 ≤ k → ∀ m, Q m → ∃ m', cCall C T k 72 [a, .fn g fs cs] m = some (.int .i64 (match l.findIdx? p with | some i => (i : Int) | none => -1), m') ∧ Grow m m' := by
  intro k hk m hq
  obtain ⟨k, rfl⟩ : ∃ j, k = j + 1 := ⟨k - 1, by omega⟩
  have hla := ha.len (P := Try.prog) Try.underlying29
  simp only [cCall, kd72]
  rw [body72]
  simp [codeOf, Try.f72, hla]
  generalize hl : cCode C _ _ _ (.loop _) _ = r
  obtain ⟨e, s', rfl, he, hp⟩ := loop_rule hl (fun j s => s.env 0 = a ∧ s.env 1 = .fn g fs cs ∧ s.env 7 = .int .i64 l.length ∧ Grow m s.mem ∧ ∃ i, i + j = l.length ∧ s.env 8 = .int .i64 (i : Nat) ∧ ∀ x ∈ l.take i, p x = false)
    (fun e s => Grow m s.mem ∧ ((e = .exit 0 ∧ l.findIdx? p = none) ∨ (e = .ret ∧ ∃ i : Nat, s.env 4 = .int .i64 (i : Nat) ∧ l.findIdx? p = some i))) l.length (by omega) (by
      refine ⟨by simp, by simp, by simp, ⟨by simp, fun _ _ => rfl, fun _ _ => rfl, fun _ _ => rfl, fun h id hid => h id (by simp at hid; omega)⟩, 0, by simp, by simp, by simp⟩) (by
      rintro j s ⟨h0, h1, h7, hgr, i, hij, h8, ht⟩
      by_cases hi : i < l.length
      · have hax := ha.indexAddr (P := Try.prog) Try.underlying29 sz3 eInt_len (k := .i64) hi
        have hw : IntKind.i64.wrap ((i : Int) + 1) = ((i + 1 : Nat) : Int) := IntWalk.i64_in _ (by omega)
        obtain ⟨mm, hmm⟩ := skolem (fun m hm => hf k (by omega) l[i] (List.getElem_mem hi) m hm)
        have hcall : ∀ m, Q m → cCall C T k g (fs ++ .int .i64 l[i] :: cs) m = some (.bool (p l[i]), mm m) := fun m hm => by simpa using (hmm m hm).1
        have hqs : ∀ n, Q { cell := s.mem.cell, mode := s.mem.mode, siz := s.mem.siz, next := s.mem.next + n } := fun n => hQ m _ hq (hgr.trans (Grow.bump _ _))
        have hgs : ∀ n n', Grow m { cell := (mm { cell := s.mem.cell, mode := s.mem.mode, siz := s.mem.siz, next := s.mem.next + n }).cell, mode := (mm { cell := s.mem.cell, mode := s.mem.mode, siz := s.mem.siz, next := s.mem.next + n }).mode, siz := (mm { cell := s.mem.cell, mode := s.mem.mode, siz := s.mem.siz, next := s.mem.next + n }).siz, next := (mm { cell := s.mem.cell, mode := s.mem.mode, siz := s.mem.siz, next := s.mem.next + n }).next + n' } :=
          fun n n' => (hgr.trans (Grow.bump _ n)).trans ((hmm _ (hqs n)).2.trans (Grow.bump _ n'))
        cases hpx : p l[i] with
        | false =>
          simp [h0, h1, h7, h8, hi, hax, load_iptr_one ag3 sz3, eInt, hcall, hqs, hpx, hw]
          refine ⟨by omega, hgs _ _, i + 1, by omega, by simp, fun x hx => ?_⟩
          rw [List.take_succ_eq_append_getElem hi] at hx
          rcases List.mem_append.1 hx with hx | hx
          · exact ht x hx
          · rw [List.mem_singleton.1 hx]; exact hpx
        | true =>
          simp [h0, h1, h7, h8, hi, hax, load_iptr_one ag3 sz3, eInt, hcall, hqs, hpx, hw]
          refine ⟨hgs _ _, i, rfl, ?_⟩
          rw [List.findIdx?_eq_some_iff_getElem]
          refine ⟨hi, hpx, fun j' hj' => ?_⟩
          rw [Bool.not_eq_true]
          refine ht _ ?_
          rw [List.mem_take_iff_getElem]
          exact ⟨j', by omega, rfl⟩
      · simp [h0, h1, h7, h8, hi]
        refine ⟨hgr.trans (Grow.bump _ _), ?_⟩
        rw [List.take_of_length_le (by omega)] at ht
        exact ht)
  obtain ⟨hg, ⟨rfl, h2⟩ | ⟨rfl, i, h1, h2⟩⟩ := hp
  · simp [h2]
    exact hg.trans (Grow.bump _ _)
  · simp [h1, h2]
    exact hg

theorem c57 {a : AVal} {l : List Int} (ha : SL eInt a l) (hll : l.length < 2 ^ 62) (p : Int → Bool) (g : FuncId) (fs cs : List AVal) (K : Nat) (Q : Mem → Prop) (hQ : ∀ m m', Q m → Grow m m' → Q m')
    (hf : ∀ k, K ≤ k → ∀ x ∈ l, ∀ m, Q m → ∃ m', cCall C T k g (fs ++ [.int .i64 x] ++ cs) m = some (.bool (p x), m') ∧ Grow m m') :
    ∀ k, K + l.length + 3 ≤ k → ∀ m, Q m → ∃ m', cCall C T k 57 [a, .fn g fs cs] m = some (.bool (l.any p), m') ∧ Grow m m' := by
  intro k hk m hq
  obtain ⟨k, rfl⟩ : ∃ j, k = j + 1 := ⟨k - 1, by omega⟩
  obtain ⟨mm, hmm⟩ := skolem (c72 ha hll p g fs cs K Q hQ hf k (by omega))
  have hcall : ∀ m, Q m → cCall C T k 72 [a, .fn g fs cs] m = some _ := fun m hm => (hmm m hm).1
  have hq' : ∀ n, Q { cell := m.cell, mode := m.mode, siz := m.siz, next := m.next + n } := fun n => hQ m _ hq (Grow.bump _ _)
  simp only [cCall, kd57]
  rw [body57]
  cases hfi : l.findIdx? p with
  | none =>
    have : l.any p = false := by
      rw [List.findIdx?_eq_none_iff] at hfi
      simpa using hfi
    simp [codeOf, Try.f57, hcall, hq', hfi, this]
    exact (Grow.bump _ _).trans (hmm _ (hq' _)).2
  | some i =>
    have : l.any p = true := by
      obtain ⟨h1, h2, _⟩ := List.findIdx?_eq_some_iff_getElem.1 hfi
      exact List.any_eq_true.2 ⟨_, List.getElem_mem h1, h2⟩
    have hi : (0 : Int) ≤ i := by omega
    simp [codeOf, Try.f57, hcall, hq', hfi, this, hi]
    exact (Grow.bump _ _).trans (hmm _ (hq' _)).2


theorem c71 {a : AVal} {l : List Rad} (ha : SL eRad a l) (hll : l.length < 2 ^ 62) (p : Rad → Bool) (g : FuncId) (fs cs : List AVal) (K : Nat) (Q : Mem → Prop) (hQ : ∀ m m', Q m → Grow m m' → Q m')
    (hf : ∀ k, K ≤ k → ∀ x ∈ l, ∀ m, Q m → ∃ m', cCall C T k g (fs ++ [.agg (eRad x)] ++ cs) m = some (.bool (p x), m') ∧ Grow m m') :
    ∀ k, K + l.length + 2 ≤ k → ∀ m, Q m → ∃ m', cCall C T k 71 [a, .fn g fs cs] m = some (.int .i64 (match l.findIdx? p with | some i => (i : Int) | none => -1), m') ∧ Grow m m' := by
  intro k hk m hq
  obtain ⟨k, rfl⟩ : ∃ j, k = j + 1 := ⟨k - 1, by omega⟩
  have hla := ha.len (P := Try.prog) Try.underlying25
  simp only [cCall, kd71]
  rw [body71]
  simp [codeOf, Try.f71, hla]
  generalize hl : cCode C _ _ _ (.loop _) _ = r
  obtain ⟨e, s', rfl, he, hp⟩ := loop_rule hl (fun j s => s.env 0 = a ∧ s.env 1 = .fn g fs cs ∧ s.env 7 = .int .i64 l.length ∧ Grow m s.mem ∧ ∃ i, i + j = l.length ∧ s.env 8 = .int .i64 (i : Nat) ∧ ∀ x ∈ l.take i, p x = false)
    (fun e s => Grow m s.mem ∧ ((e = .exit 0 ∧ l.findIdx? p = none) ∨ (e = .ret ∧ ∃ i : Nat, s.env 4 = .int .i64 (i : Nat) ∧ l.findIdx? p = some i))) l.length (by omega) (by
      refine ⟨by simp, by simp, by simp, ⟨by simp, fun _ _ => rfl, fun _ _ => rfl, fun _ _ => rfl, fun h id hid => h id (by simp at hid; omega)⟩, 0, by simp, by simp, by simp⟩) (by
      rintro j s ⟨h0, h1, h7, hgr, i, hij, h8, ht⟩
      by_cases hi : i < l.length
      · have hax := ha.indexAddr (P := Try.prog) Try.underlying25 sz24 eRad_len (k := .i64) hi
        have hw : IntKind.i64.wrap ((i : Int) + 1) = ((i + 1 : Nat) : Int) := IntWalk.i64_in _ (by omega)
        obtain ⟨mm, hmm⟩ := skolem (fun m hm => hf k (by omega) l[i] (List.getElem_mem hi) m hm)
        have hcall : ∀ m, Q m → cCall C T k g (fs ++ .agg (eRad l[i]) :: cs) m = some (.bool (p l[i]), mm m) := fun m hm => by simpa using (hmm m hm).1
        have hqs : ∀ n, Q { cell := s.mem.cell, mode := s.mem.mode, siz := s.mem.siz, next := s.mem.next + n } := fun n => hQ m _ hq (hgr.trans (Grow.bump _ _))
        have hgs : ∀ n n', Grow m { cell := (mm { cell := s.mem.cell, mode := s.mem.mode, siz := s.mem.siz, next := s.mem.next + n }).cell, mode := (mm { cell := s.mem.cell, mode := s.mem.mode, siz := s.mem.siz, next := s.mem.next + n }).mode, siz := (mm { cell := s.mem.cell, mode := s.mem.mode, siz := s.mem.siz, next := s.mem.next + n }).siz, next := (mm { cell := s.mem.cell, mode := s.mem.mode, siz := s.mem.siz, next := s.mem.next + n }).next + n' } :=
          fun n n' => (hgr.trans (Grow.bump _ n)).trans ((hmm _ (hqs n)).2.trans (Grow.bump _ n'))
        cases hpx : p l[i] with
        | false =>
          simp [h0, h1, h7, h8, hi, hax, load_iptr_agg ag24 sz24 (eRad_len _), hcall, hqs, hpx, hw]
          refine ⟨by omega, hgs _ _, i + 1, by omega, by simp, fun x hx => ?_⟩
          rw [List.take_succ_eq_append_getElem hi] at hx
          rcases List.mem_append.1 hx with hx | hx
          · exact ht x hx
          · rw [List.mem_singleton.1 hx]; exact hpx
        | true =>
          simp [h0, h1, h7, h8, hi, hax, load_iptr_agg ag24 sz24 (eRad_len _), hcall, hqs, hpx, hw]
          refine ⟨hgs _ _, i, rfl, ?_⟩
          rw [List.findIdx?_eq_some_iff_getElem]
          refine ⟨hi, hpx, fun j' hj' => ?_⟩
          rw [Bool.not_eq_true]
          refine ht _ ?_
          rw [List.mem_take_iff_getElem]
          exact ⟨j', by omega, rfl⟩
      · simp [h0, h1, h7, h8, hi]
        refine ⟨hgr.trans (Grow.bump _ _), ?_⟩
        rw [List.take_of_length_le (by omega)] at ht
        exact ht)
  obtain ⟨hg, ⟨rfl, h2⟩ | ⟨rfl, i, h1, h2⟩⟩ := hp
  · simp [h2]
    exact hg.trans (Grow.bump _ _)
  · simp [h1, h2]
    exact hg

theorem c52 {a : AVal} {l : List Rad} (ha : SL eRad a l) (hll : l.length < 2 ^ 62) (p : Rad → Bool) (g : FuncId) (fs cs : List AVal) (K : Nat) (Q : Mem → Prop) (hQ : ∀ m m', Q m → Grow m m' → Q m')
    (hf : ∀ k, K ≤ k → ∀ x ∈ l, ∀ m, Q m → ∃ m', cCall C T k g (fs ++ [.agg (eRad x)] ++ cs) m = some (.bool (p x), m') ∧ Grow m m') :
    ∀ k, K + l.length + 3 ≤ k → ∀ m, Q m → ∃ m', cCall C T k 52 [a, .fn g fs cs] m = some (.bool (l.any p), m') ∧ Grow m m' := by
  intro k hk m hq
  obtain ⟨k, rfl⟩ : ∃ j, k = j + 1 := ⟨k - 1, by omega⟩
  obtain ⟨mm, hmm⟩ := skolem (c71 ha hll p g fs cs K Q hQ hf k (by omega))
  have hcall : ∀ m, Q m → cCall C T k 71 [a, .fn g fs cs] m = some _ := fun m hm => (hmm m hm).1
  have hq' : ∀ n, Q { cell := m.cell, mode := m.mode, siz := m.siz, next := m.next + n } := fun n => hQ m _ hq (Grow.bump _ _)
  simp only [cCall, kd52]
  rw [body52]
  cases hfi : l.findIdx? p with
  | none =>
    have : l.any p = false := by
      rw [List.findIdx?_eq_none_iff] at hfi
      simpa using hfi
    simp [codeOf, Try.f52, hcall, hq', hfi, this]
    exact (Grow.bump _ _).trans (hmm _ (hq' _)).2
  | some i =>
    have : l.any p = true := by
      obtain ⟨h1, h2, _⟩ := List.findIdx?_eq_some_iff_getElem.1 hfi
      exact List.any_eq_true.2 ⟨_, List.getElem_mem h1, h2⟩
    have hi : (0 : Int) ≤ i := by omega
    simp [codeOf, Try.f52, hcall, hq', hfi, this, hi]
    exact (Grow.bump _ _).trans (hmm _ (hq' _)).2


theorem c35 (k : Nat) (hk : 10 ≤ k) (d : Nat) (hd : d < 30000) (m : Mem) : cCall C T k 35 [.int .i64 d] m = some (.tup [.int .i64 (400 + 15 * (Nat.log2 (max d 1 * max d 1 * max d 1 * max d 1) : Nat)), .int .i64 0], m) := by
  refine pure_call kd35 9 hk (by simp; rfl) fun k hk => ?_
  rw [body35]
  obtain ⟨e, he⟩ : ∃ e, e = max d 1 := ⟨_, rfl⟩
  have he1 : (if (1 : Int) > d then (1 : Int) else d) = e := by
    rw [he]
    split <;> omega
  have he3 : e ≤ 30000 ∧ 1 ≤ e := by omega
  rw [← he]
  have b2 : e * e ≤ 30000 * 30000 := Nat.mul_le_mul he3.1 he3.1
  have b3 : e * e * e ≤ 30000 * 30000 * 30000 := Nat.mul_le_mul b2 he3.1
  have b4 : e * e * e * e ≤ 30000 * 30000 * 30000 * 30000 := Nat.mul_le_mul b3 he3.1
  have u : ∀ n : Nat, n < 2 ^ 62 → IntKind.u64.wrap (n : Int) = n := fun n hn => by
    show ((n : Int)) % (2 ^ 64 : Int) = _
    exact Int.emod_eq_of_lt (by omega) (by omega)
  have w1 := u e (by omega)
  have w2 : IntKind.u64.wrap ((e : Int) * e) = ((e * e : Nat) : Int) := by rw [← Int.natCast_mul]; exact u _ (by omega)
  have w3 : IntKind.u64.wrap (((e * e : Nat) : Int) * e) = ((e * e * e : Nat) : Int) := by rw [← Int.natCast_mul]; exact u _ (by omega)
  have w4 : IntKind.u64.wrap (((e * e * e : Nat) : Int) * e) = ((e * e * e * e : Nat) : Int) := by rw [← Int.natCast_mul]; exact u _ (by omega)
  obtain ⟨x2, hx2⟩ : ∃ x, x = e * e := ⟨_, rfl⟩
  obtain ⟨x3, hx3⟩ : ∃ x, x = x2 * e := ⟨_, rfl⟩
  obtain ⟨x4, hx4⟩ : ∃ x, x = x3 * e := ⟨_, rfl⟩
  rw [← hx2, ← hx3, ← hx4] at w4
  rw [← hx2, ← hx3] at w3
  rw [← hx2] at w2
  rw [← hx2, ← hx3, ← hx4] at b4 ⊢
  have hpos : 1 ≤ x4 := by
    rw [hx4, hx3, hx2]
    have : 1 * 1 * 1 * 1 ≤ e * e * e * e := Nat.mul_le_mul (Nat.mul_le_mul (Nat.mul_le_mul he3.2 he3.2) he3.2) he3.2
    omega
  have hlt : Nat.log2 x4 < 60 := (Nat.log2_lt (by omega)).2 (by omega)
  have g60 := c60 k (by omega) x4 hpos (by omega)
  have g56 := fun x lo hi => c56 k (by omega) x lo hi
  have hdd : (d : Int) ≤ 30000 := by omega
  have w5 : IntKind.i64.wrap (((Nat.log2 x4 : Nat) : Int) + 1 - 1) = ((Nat.log2 x4 : Nat) : Int) := by rw [Int.add_sub_cancel]; exact IntWalk.i64_in _ (by omega)
  have w6 : IntKind.i64.wrap ((Nat.log2 x4 : Nat) : Int) = ((Nat.log2 x4 : Nat) : Int) := IntWalk.i64_in _ (by omega)
  have w7 : IntKind.i64.wrap (15 * ((Nat.log2 x4 : Nat) : Int)) = 15 * ((Nat.log2 x4 : Nat) : Int) := IntWalk.i64_in _ (by omega)
  have w8 : IntKind.i64.wrap (400 + 15 * ((Nat.log2 x4 : Nat) : Int)) = 400 + 15 * ((Nat.log2 x4 : Nat) : Int) := IntWalk.i64_in _ (by omega)
  simp at g60
  simp [codeOf, Try.f35, g56, hdd, he1, w1, w2, w3, w4, g60, w5, w6, w7, w8]

noncomputable def isq (s : Nat) : Nat := (sqrt_ex s).choose
theorem isq_le (s : Nat) : isq s * isq s ≤ s := (sqrt_ex s).choose_spec.1
theorem isq_lt (s : Nat) : s < (isq s + 1) * (isq s + 1) := (sqrt_ex s).choose_spec.2
theorem isq_bound {s : Nat} (h : s ≤ 800000000) : isq s < 30000 := by
  rcases Nat.lt_or_ge (isq s) 30000 with h1 | h1
  · exact h1
  · have := sq_le h1
    have := isq_le s
    omega
def sqN (a b : Int) : Nat := ((a - b) * (a - b)).toNat
theorem sqN_cast (a b : Int) : ((sqN a b : Nat) : Int) = (a - b) * (a - b) := by
  unfold sqN
  have : 0 ≤ (a - b) * (a - b) := by
    rcases Int.le_total 0 (a - b) with h | h
    · exact Int.mul_nonneg h h
    · have := Int.mul_nonneg (show 0 ≤ -(a - b) by omega) (show 0 ≤ -(a - b) by omega)
      rwa [Int.neg_mul_neg] at this
  omega
theorem sqN_le {a b : Int} (ha : -10000 ≤ a ∧ a ≤ 10000) (hb : -10000 ≤ b ∧ b ≤ 10000) : sqN a b ≤ 400000000 := by
  have h1 := sqN_cast a b
  have h2 : (a - b).natAbs ≤ 20000 := by omega
  have h3 : (a - b).natAbs * (a - b).natAbs ≤ 20000 * 20000 := Nat.mul_le_mul h2 h2
  have h4 : (((a - b).natAbs * (a - b).natAbs : Nat) : Int) = (a - b) * (a - b) := by rw [Int.natCast_mul]; exact Int.natAbs_mul_self' _
  omega

structure Pos (a : Int) : Prop where
  p : -10000 ≤ a ∧ a ≤ 10000

theorem c17 (k : Nat) (hk : 30020 ≤ k) (x y u v : Int) (hx : Pos x) (hy : Pos y) (hu : Pos u) (hv : Pos v) (m : Mem) :
    cCall C T k 17 [.int .i64 x, .int .i64 y, .int .i64 u, .int .i64 v] m = some (.tup [.int .i64 (isq (sqN x u + sqN y v) : Nat), .int .i64 0], m) := by
  refine pure_call kd17 30019 hk (by simp; rfl) fun k hk => ?_
  rw [body17]
  have g36 := fun x lo hi => c36 k (by omega) x lo hi
  obtain ⟨a1, a2⟩ := hx.p
  obtain ⟨b1, b2⟩ := hy.p
  obtain ⟨d1, d2⟩ := hu.p
  obtain ⟨e1, e2⟩ := hv.p
  have s1 := sqN_le hx.p hu.p
  have s2 := sqN_le hy.p hv.p
  have q1 := sqN_cast x u
  have q2 := sqN_cast y v
  have w1 : IntKind.i64.wrap (x - u) = x - u := IntWalk.i64_in _ (by omega)
  have w2 : IntKind.i64.wrap (y - v) = y - v := IntWalk.i64_in _ (by omega)
  have w3 : IntKind.i64.wrap ((x - u) * (x - u)) = ((sqN x u : Nat) : Int) := by rw [← q1]; exact IntWalk.i64_in _ (by omega)
  have w4 : IntKind.i64.wrap ((y - v) * (y - v)) = ((sqN y v : Nat) : Int) := by rw [← q2]; exact IntWalk.i64_in _ (by omega)
  have w5 : IntKind.i64.wrap (((sqN x u : Nat) : Int) + ((sqN y v : Nat) : Int)) = ((sqN x u : Nat) : Int) + ((sqN y v : Nat) : Int) := IntWalk.i64_in _ (by omega)
  have g37 := c37 k (by omega) (sqN x u + sqN y v) _ (isq_le _) (isq_lt _) (isq_bound (by omega))
  simp at g37
  simp [codeOf, Try.f17, g36, a1, a2, b1, b2, d1, d2, e1, e2, w1, w2, w3, w4, w5, g37]

theorem c34 (k : Nat) (hk : 30020 ≤ k) (x y u v : Int) (hx : Pos x) (hy : Pos y) (hu : Pos u) (hv : Pos v) (m : Mem) :
    cCall C T k 34 [.int .i64 x, .int .i64 y, .int .i64 u, .int .i64 v] m = some (.tup [.int .i64 (isq (sqN x u + sqN y v) : Nat), .int .i64 0], m) := by
  refine pure_call kd34 30019 hk (by simp; rfl) fun k hk => ?_
  rw [body34]
  have g56 := fun x lo hi => c56 k (by omega) x lo hi
  obtain ⟨a1, a2⟩ := hx.p
  obtain ⟨b1, b2⟩ := hy.p
  obtain ⟨d1, d2⟩ := hu.p
  obtain ⟨e1, e2⟩ := hv.p
  have s1 := sqN_le hx.p hu.p
  have s2 := sqN_le hy.p hv.p
  have q1 := sqN_cast x u
  have q2 := sqN_cast y v
  have w1 : IntKind.i64.wrap (x - u) = x - u := IntWalk.i64_in _ (by omega)
  have w2 : IntKind.i64.wrap (y - v) = y - v := IntWalk.i64_in _ (by omega)
  have w3 : IntKind.i64.wrap ((x - u) * (x - u)) = ((sqN x u : Nat) : Int) := by rw [← q1]; exact IntWalk.i64_in _ (by omega)
  have w4 : IntKind.i64.wrap ((y - v) * (y - v)) = ((sqN y v : Nat) : Int) := by rw [← q2]; exact IntWalk.i64_in _ (by omega)
  have w5 : IntKind.i64.wrap (((sqN x u : Nat) : Int) + ((sqN y v : Nat) : Int)) = ((sqN x u : Nat) : Int) + ((sqN y v : Nat) : Int) := IntWalk.i64_in _ (by omega)
  have g59 := c59 k (by omega) (sqN x u + sqN y v) _ (isq_le _) (isq_lt _) (isq_bound (by omega))
  simp at g59
  simp [codeOf, Try.f34, lenA, buildSliceA, zeros, List.range, List.range.loop]
  generalize hl : cCode C _ _ _ (.loop _) _ = r
  obtain ⟨e, s', rfl, he, hp⟩ := loop_rule hl (fun q s => s.env 0 = .int .i64 x ∧ s.env 1 = .int .i64 y ∧ s.env 2 = .int .i64 u ∧ s.env 3 = .int .i64 v ∧ s.env 16 = .own 6 0 4 1 ∧ s.env 17 = .int .i64 4 ∧ s.mem.mode 6 = .rw ∧ s.mem.cell 6 0 = some (.int .i64 x) ∧ s.mem.cell 6 1 = some (.int .i64 y) ∧ s.mem.cell 6 2 = some (.int .i64 u) ∧ s.mem.cell 6 3 = some (.int .i64 v) ∧ ∃ i : Nat, i + q = 4 ∧ s.env 18 = .int .i64 (i : Nat))
    (fun e s => e = .exit 0 ∧ s.env 0 = .int .i64 x ∧ s.env 1 = .int .i64 y ∧ s.env 2 = .int .i64 u ∧ s.env 3 = .int .i64 v) 4 (by omega) (by
      exact ⟨by simp, by simp, by simp, by simp, by simp, by simp, by simp [upd], by simp, by simp, by simp, by simp, 0, by simp, by simp⟩) (by
      rintro q s ⟨e0, e1', e2', e3, e16, e17, m6, c0, c1, c2, c3, i, hiq, e18⟩
      have ix : ∀ j : Int, 0 ≤ j ∧ j < 4 → indexAddrA Try.prog 29 (.own 6 0 4 1) (.int .i64 j) = some (.ptr 6 j.toNat) := fun j hj => by simp [indexAddrA, hj]
      have wi : IntKind.i64.wrap ((i : Int) + 1) = (i : Int) + 1 := IntWalk.i64_in _ (by omega)
      have h5 : i = 0 ∨ i = 1 ∨ i = 2 ∨ i = 3 ∨ i = 4 := by omega
      rcases h5 with rfl | rfl | rfl | rfl | rfl
      · simp at wi
        simp [e0, e1', e2', e3, e16, e17, e18, ix, m6, c0, c1, c2, c3, g56, a1, a2, wi]
        exact ⟨by omega, 1, by omega, by simp⟩
      · simp at wi
        simp [e0, e1', e2', e3, e16, e17, e18, ix, m6, c0, c1, c2, c3, g56, b1, b2, wi]
        exact ⟨by omega, 2, by omega, by simp⟩
      · simp at wi
        simp [e0, e1', e2', e3, e16, e17, e18, ix, m6, c0, c1, c2, c3, g56, d1, d2, wi]
        exact ⟨by omega, 3, by omega, by simp⟩
      · simp at wi
        simp [e0, e1', e2', e3, e16, e17, e18, ix, m6, c0, c1, c2, c3, g56, e1, e2, wi]
        exact ⟨by omega, 4, by omega, by simp⟩
      · simp [e0, e1', e2', e3, e16, e17, e18])
  obtain ⟨rfl, e0, e1', e2', e3⟩ := hp
  simp [e0, e1', e2', e3, w1, w2, w3, w4, w5, g59]

/-- A world without shadows. -/
structure Air.ok (w : List Rad) : Prop where
  pos : 0 < w.length
  most : w.length ≤ 32
  x : ∀ r ∈ w, Pos r.x
  y : ∀ r ∈ w, Pos r.y
  p : ∀ r ∈ w, 0 ≤ r.p ∧ r.p ≤ 300
  c : ∀ r ∈ w, r.c = 1
def eAir (w : List Rad) : List AVal := [.imm w.length (w.flatMap eRad), .nils]

theorem c54 (k : Nat) (hk : 2 ≤ k) (r : Rad) (h1 : -10000 ≤ r.x ∧ r.x ≤ 10000) (h2 : -10000 ≤ r.y ∧ r.y ≤ 10000) (h3 : 0 ≤ r.p ∧ r.p ≤ 300) (h4 : 1 ≤ r.c ∧ r.c ≤ 64) (m : Mem) :
    cCall C T k 54 [.agg (eRad r)] m = some (.bool true, m) := by
  refine pure_call kd54 1 hk (by simp [eRad]; rfl) fun k hk => ?_
  rw [body54]
  simp [codeOf, Try.f54, c56 k hk, h1, h2, h3, h4]
theorem c53 (k : Nat) (hk : 3 ≤ k) (r : Rad) (h1 : -10000 ≤ r.x ∧ r.x ≤ 10000) (h2 : -10000 ≤ r.y ∧ r.y ≤ 10000) (h3 : 0 ≤ r.p ∧ r.p ≤ 300) (h4 : 1 ≤ r.c ∧ r.c ≤ 64) (m : Mem) :
    cCall C T k 53 [.agg (eRad r)] m = some (.bool false, m) := by
  refine pure_call kd53 2 hk (by simp [eRad]; rfl) fun k hk => ?_
  rw [body53]
  have h5 := c54 k hk r h1 h2 h3 h4
  simp only [eRad] at h5
  simp [codeOf, Try.f53, h5]

theorem c32 (k : Nat) (w : List Rad) (hw : Air.ok w) (hk : w.length + 10 ≤ k) (m : Mem) :
    cCall C T k 32 [.agg (eAir w)] m = some (.int .i64 0, m) := by
  refine pure_call kd32 (w.length + 9) hk (by simp [eAir]; rfl) fun k hk => ?_
  rw [body32]
  obtain ⟨mm, hmm⟩ := skolem (c52 (sl_imm eRad w) (by have := hw.most; omega) (fun _ => false) 53 [] [] 3 (fun _ => True) (fun _ _ _ _ => trivial)
    (fun k hk x hx m _ => ⟨m, by
      have h1 := hw.x x hx
      have h2 := hw.y x hx
      have h3 := hw.p x hx
      have h4 := hw.c x hx
      simpa using c53 k hk x h1.p h2.p (by omega) (by omega) m, Grow.refl m⟩) k (by omega))
  have g1 : ∀ m, cCall C T k 52 _ m = some _ := fun m => (hmm m trivial).1
  have g2 : ∀ m, Grow m (mm m) := fun m => (hmm m trivial).2
  have h1 : ¬ (w.length : Int) < 1 := by have := hw.pos; omega
  have h2 : ¬ (32 : Int) < w.length := by have := hw.most; omega
  have g3 : ∀ m id, id < m.next → (mm m).cell id = m.cell id := fun m id h => (g2 m).cell id h
  have g4 : ∀ m id, id < m.next → (mm m).mode id = m.mode id := fun m id h => (g2 m).mode id h
  simp [codeOf, Try.f32, eAir, lenA, g1, g3, g4, h1, h2]
  obtain ⟨k, rfl⟩ : ∃ j, k = j + 1 := ⟨k - 1, by omega⟩
  generalize hl : cCode C _ _ _ (.loop _) _ = r
  obtain ⟨e, s', rfl, he, hp⟩ := loop_rule hl (fun j s => s.env 35 = .int .i64 0 ∧ s.env 34 = .int .i64 0)
    (fun e s => e = .exit 0) 0 (by omega) (by simp) (by
      rintro j s ⟨e35, e34⟩
      simp [e35, e34])
  subst hp
  simp
end Go.Proofs.Ytmfdjipijifabab
end
section
/- Levels, and who hears whom. -/
set_option linter.unusedVariables false
set_option linter.unusedSimpArgs false
set_option linter.unnecessarySimpa false
set_option maxRecDepth 100000
namespace Go.Proofs.Ytmfdjipijifabab
open Go.Ab

theorem c33 (k : Nat) (w : List Rad) (hw : Air.ok w) (a : AVal) (l : List Int) (ha : SL eInt a l) (hl : ∀ x ∈ l, 0 ≤ x ∧ x < w.length) (hll : l.length < 2 ^ 62) (hk : l.length + 10 ≤ k) (args : List AVal) (m m1 : Mem)
    (hz : freezeL (freezeV 8) args m = some ([.agg (eAir w), a], m1)) :
    cCall C T k 33 args m = some (.bool true, m1) := by
  refine pure_call kd33 (l.length + 9) hk hz fun k hk => ?_
  rw [body33]
  have hm := hw.most
  obtain ⟨mm, hmm⟩ := skolem (c57 ha hll (fun _ => false) 58 [] [.ptr 0 0] 2 (fun m => 0 < m.next ∧ m.mode 0 = .rw ∧ m.cell 0 0 = some (.imm w.length (w.flatMap eRad)))
    (fun m m' h g => ⟨Nat.lt_of_lt_of_le h.1 g.next, (g.mode 0 h.1).trans h.2.1, by rw [g.cell 0 h.1]; exact h.2.2⟩)
    (fun k hk x hx m hm => by
      obtain ⟨k, rfl⟩ : ∃ j, k = j + 1 := ⟨k - 1, by omega⟩
      refine ⟨{ cell := m.cell, mode := m.mode, siz := m.siz, next := m.next + 9 }, ?_, Grow.bump _ _⟩
      have h1 : IntKind.i64.wrap ((w.length : Int) - 1) = (w.length : Int) - 1 := IntWalk.i64_in _ (by omega)
      have h2 : 0 ≤ x := (hl x hx).1
      have h3 : x ≤ (w.length : Int) - 1 := by have := (hl x hx).2; omega
      simp only [cCall, kd58]
      simp only [List.nil_append, List.cons_append]
      rw [body58]
      simp [codeOf, Try.f58, hm.1, hm.2.1, hm.2.2, lenA, c56 k (by omega), h1, h2, h3]) k (by omega))
  have f1 : ∀ m, _ → cCall C T k 57 _ m = some _ := fun m h => (hmm m h).1
  simp [codeOf, Try.f33, eAir, f1]

theorem c14 (k : Nat) (w : List Rad) (hw : Air.ok w) (a : AVal) (l : List Int) (ha : SL eInt a l) (hl : ∀ x ∈ l, 0 ≤ x ∧ x < w.length) (hll : l.length < 2 ^ 62) (hk : w.length + l.length + 12 ≤ k) (args : List AVal) (m m1 : Mem)
    (hz : freezeL (freezeV 8) args m = some ([.agg (eAir w), a], m1)) (hza : ∀ m, freezeV 8 a m = some (a, m)) :
    cCall C T k 14 args m = some (.int .i64 0, m1) := by
  refine pure_call kd14 (w.length + l.length + 11) hk hz fun k hk => ?_
  rw [body14]
  have h1 := c32 k w hw (by omega)
  have h2 : ∀ m, cCall C T k 33 [.agg (eAir w), a] m = some _ := fun m => c33 k w hw a l ha hl hll (by omega) _ m m (by simp [eAir, hza])
  simp only [eAir] at h1 h2
  simp [codeOf, Try.f14, eAir, h1, h2]

theorem ld24 (a b c d : AVal) (r : List AVal) (m : Mem) : loadA Try.prog 24 (.iptr (a :: b :: c :: d :: r)) m = some (.agg [a, b, c, d]) := load_iptr_agg (cs := [a, b, c, d]) ag24 sz24 rfl

/-- The loss over a distance, the level of one radio at another. -/
def lossF (d : Nat) : Int := 400 + 15 * (Nat.log2 (max d 1 * max d 1 * max d 1 * max d 1) : Nat)
theorem lossF_range {d : Nat} (h : d < 30000) : 400 ≤ lossF d ∧ lossF d ≤ 1300 := by
  obtain ⟨e, he⟩ : ∃ e, e = max d 1 := ⟨_, rfl⟩
  have he3 : e ≤ 30000 ∧ 1 ≤ e := by omega
  have b2 : e * e ≤ 30000 * 30000 := Nat.mul_le_mul he3.1 he3.1
  have b3 : e * e * e ≤ 30000 * 30000 * 30000 := Nat.mul_le_mul b2 he3.1
  have b4 : e * e * e * e ≤ 30000 * 30000 * 30000 * 30000 := Nat.mul_le_mul b3 he3.1
  have b1 : 1 * 1 * 1 * 1 ≤ e * e * e * e := Nat.mul_le_mul (Nat.mul_le_mul (Nat.mul_le_mul he3.2 he3.2) he3.2) he3.2
  unfold lossF
  rw [← he]
  have : Nat.log2 (e * e * e * e) < 60 := (Nat.log2_lt (by omega)).2 (by omega)
  omega
noncomputable def levF (a b : Rad) : Int := a.p - lossF (isq (sqN a.x b.x + sqN a.y b.y))
theorem levF_range {a b : Rad} (ha : 0 ≤ a.p ∧ a.p ≤ 300) (h1 : Pos a.x) (h2 : Pos a.y) (h3 : Pos b.x) (h4 : Pos b.y) : -1300 ≤ levF a b ∧ levF a b ≤ -100 ∧ isq (sqN a.x b.x + sqN a.y b.y) < 30000 := by
  have s1 := sqN_le h1.p h3.p
  have s2 := sqN_le h2.p h4.p
  have hb := isq_bound (s := sqN a.x b.x + sqN a.y b.y) (by omega)
  have := lossF_range hb
  unfold levF
  omega

theorem c15 (k : Nat) (w : List Rad) (hw : Air.ok w) (i j : Nat) (hi : i < w.length) (hj : j < w.length) (hk : 30030 ≤ k) (m : Mem) :
    cCall C T k 15 [.agg (eAir w), .int .i64 i, .int .i64 j] m = some (.int .i64 (levF w[i] w[j]), m) := by
  refine pure_call kd15 30029 hk (by simp [eAir]; rfl) fun k hk => ?_
  rw [body15]
  have mi := List.getElem_mem hi
  have mj := List.getElem_mem hj
  obtain ⟨r1, r2, r3⟩ := levF_range (hw.p _ mi) (hw.x _ mi) (hw.y _ mi) (hw.x _ mj) (hw.y _ mj)
  have h1 := (sl_imm eRad w).indexAddr (P := Try.prog) Try.underlying25 sz24 eRad_len (k := .i64) hi
  have h2 := (sl_imm eRad w).indexAddr (P := Try.prog) Try.underlying25 sz24 eRad_len (k := .i64) hj
  have g34 := c34 k (by omega) w[i].x w[i].y w[j].x w[j].y (hw.x _ mi) (hw.y _ mi) (hw.x _ mj) (hw.y _ mj)
  have g35 := c35 k (by omega) _ r3
  rw [← lossF] at g35
  have h7 : IntKind.i64.wrap (w[i].p - lossF (isq (sqN w[i].x w[j].x + sqN w[i].y w[j].y))) = levF w[i] w[j] := IntWalk.i64_in _ (by unfold levF at r1 r2; omega)
  simp [codeOf, Try.f15, eAir, lenA, h1, h2, h7, ld24, ld3, eRad, g34, g35]

theorem c5 (k : Nat) (w : List Rad) (hw : Air.ok w) (i j : Nat) (hi : i < w.length) (hj : j < w.length) (hk : 30040 ≤ k) (args : List AVal) (m m1 : Mem) (hz : freezeL (freezeV 8) args m = some ([.agg (eAir w), .int .i64 i, .int .i64 j], m1)) :
    cCall C T k 5 args m = some (.tup [.int .i64 (levF w[i] w[j]), .int .i64 0], m1) := by
  refine pure_call kd5 30039 hk hz fun k hk => ?_
  rw [body5]
  have hm := hw.most
  have h1 : ∀ m m' : Mem, ∀ id, m'.mode id ≠ .dead → m'.cell id 0 = some (.int .i64 i) → m'.cell id 1 = some (.int .i64 j) →
      cCall C T k 14 [.agg (eAir w), .own id 0 2 1] m' = some (.int .i64 0, { cell := m'.cell, mode := upd m'.mode id .ro, siz := m'.siz, next := m'.next }) := by
    intro m m' id h1 h2 h3
    refine c14 k w hw _ [(i : Int), (j : Int)] (.inr rfl) ?_ (by simp) (by simp; omega) _ _ _ ?_ (fun _ => rfl)
    · intro x hx
      simp at hx
      rcases hx with rfl | rfl <;> omega
    · simp [eAir, freezeV, h1, h2, h3, eInt]
  have h2 := c15 k w hw i j hi hj (by omega)
  simp only [eAir] at h1 h2
  simp [codeOf, Try.f5, eAir, h1 C.m0, h2, buildSliceA, zeros]

/-- j hears i. -/
noncomputable def hearF (a b : Rad) : Bool := decide (-820 ≤ levF a b)

theorem c16 (k : Nat) (w : List Rad) (hw : Air.ok w) (i j : Nat) (hi : i < w.length) (hj : j < w.length) (hij : i ≠ j) (hk : 30040 ≤ k) (m : Mem) :
    cCall C T k 16 [.agg (eAir w), .int .i64 j, .int .i64 i] m = some (.bool (decide (-820 ≤ levF w[i] w[j])), m) := by
  refine pure_call kd16 30039 hk (by simp [eAir]; rfl) fun k hk => ?_
  rw [body16]
  have ri := hw.c _ (List.getElem_mem hi)
  have rj := hw.c _ (List.getElem_mem hj)
  have h1 := (sl_imm eRad w).indexAddr (P := Try.prog) Try.underlying25 sz24 eRad_len (k := .i64) hi
  have h2 := (sl_imm eRad w).indexAddr (P := Try.prog) Try.underlying25 sz24 eRad_len (k := .i64) hj
  have h3 := c15 k w hw i j hi hj (by omega)
  simp only [eAir] at h3
  have hij' : ¬ (i : Int) = j := by omega
  have hb : ((i : Int) != j) = true := by simp [hij']
  by_cases hl : -820 ≤ levF w[i] w[j] <;> simp [codeOf, Try.f16, eAir, h1, h2, h3, eRad, ld3, hij, hij', hb, ri, rj, hl]

theorem c6 (k : Nat) (w : List Rad) (hw : Air.ok w) (i j : Nat) (hi : i < w.length) (hj : j < w.length) (hij : i ≠ j) (hk : 30050 ≤ k) (args : List AVal) (m m1 : Mem) (hz : freezeL (freezeV 8) args m = some ([.agg (eAir w), .int .i64 j, .int .i64 i], m1)) :
    cCall C T k 6 args m = some (.tup [.bool (decide (-820 ≤ levF w[i] w[j])), .int .i64 0], m1) := by
  refine pure_call kd6 30049 hk hz fun k hk => ?_
  rw [body6]
  have hm := hw.most
  have h1 : ∀ m m' : Mem, ∀ id, m'.mode id ≠ .dead → m'.cell id 0 = some (.int .i64 i) → m'.cell id 1 = some (.int .i64 j) →
      cCall C T k 14 [.agg (eAir w), .own id 0 2 1] m' = some (.int .i64 0, { cell := m'.cell, mode := upd m'.mode id .ro, siz := m'.siz, next := m'.next }) := by
    intro m m' id h1 h2 h3
    refine c14 k w hw _ [(i : Int), (j : Int)] (.inr rfl) ?_ (by simp) (by simp; omega) _ _ _ ?_ (fun _ => rfl)
    · intro x hx
      simp at hx
      rcases hx with rfl | rfl <;> omega
    · simp [eAir, freezeV, h1, h2, h3, eInt]
  have h2 := c16 k w hw i j hi hj hij (by omega)
  simp only [eAir] at h1 h2
  simp [codeOf, Try.f6, eAir, h1 C.m0, h2, buildSliceA, zeros]

theorem c7 (k : Nat) (w : List Rad) (hw : Air.ok w) (i j : Nat) (hi : i < w.length) (hj : j < w.length) (hk : 30050 ≤ k) (args : List AVal) (m m1 : Mem) (hz : freezeL (freezeV 8) args m = some ([.agg (eAir w), .int .i64 i, .int .i64 j], m1)) :
    cCall C T k 7 args m = some (.int .i64 (levF w[i] w[j]), m1) := by
  refine pure_call kd7 30049 hk hz fun k hk => ?_
  rw [body7]
  have mi := List.getElem_mem hi
  have mj := List.getElem_mem hj
  obtain ⟨r1, r2, r3⟩ := levF_range (hw.p _ mi) (hw.x _ mi) (hw.y _ mi) (hw.x _ mj) (hw.y _ mj)
  have h1 := (sl_imm eRad w).indexAddr (P := Try.prog) Try.underlying25 sz24 eRad_len (k := .i64) hi
  have h2 := (sl_imm eRad w).indexAddr (P := Try.prog) Try.underlying25 sz24 eRad_len (k := .i64) hj
  have g17 := c17 k (by omega) w[i].x w[i].y w[j].x w[j].y (hw.x _ mi) (hw.y _ mi) (hw.x _ mj) (hw.y _ mj)
  have g18 := c18 k (by omega) _ r3
  rw [← lossF] at g18
  have h7 : IntKind.i64.wrap (w[i].p - lossF (isq (sqN w[i].x w[j].x + sqN w[i].y w[j].y))) = levF w[i] w[j] := IntWalk.i64_in _ (by unfold levF at r1 r2; omega)
  simp [codeOf, Try.f7, eAir, lenA, h1, h2, h7, ld24, ld3, eRad, g17, g18]
end Go.Proofs.Ytmfdjipijifabab
end
