/- The contracts of the methods of a flow, as the interpreter finds them. Conditions: none. -/
import Derived.Test.YtdojnnlhaiennaaGreatKf
import Derived.Test.YtdojnnlhaiennaaGreatKe
import Derived.Laws.Externs
import Derived.Deep.LoopGhost
namespace Go.Proofs.YtdojnnlhaiennaaGreat.Fx
open Go Go.Proofs.YtdojnnlhaiennaaGreat.Ae

section
variable (sz sb : Int → Int) (mh : Int → Int → Int) (qt rm : Int → Int → Int → Int)

/-! ### ratio -/
def giveRaw (n : Int) (bad : Bool) : Option (AV × Bool) :=
  bif (bif decide (n > 4611686018427387904) then true else decide (n < -4611686018427387904)) then some (.int .i64 0, true) else some (.int .i64 n, bad)
def ratioRaw (a b c : Int) (bad : Bool) : Option (AV × Bool) :=
  let x := sz a
  let y := sz b
  let z := sz c
  let h := mh x y
  let l := wr .u64 (x * y)
  bif (bif z == 0 then true else decide (h ≥ z)) then some (.int .i64 0, true) else
  bif divC [.int .u64 h, .int .u64 l, .int .u64 z] then
    let n := qt h l z
    let left := rm h l z
    bif decide (n > 4611686018427387904) then some (.int .i64 0, true) else
    let n' := bif decide (left ≥ wr .u64 (z - left)) then wr .u64 (n + 1) else n
    bif bxor .u64 (bxor .u64 (sb a) (sb b)) (sb c) == 1 then giveRaw (wr .i64 (0 - wr .i64 n')) bad else giveRaw (wr .i64 n') bad
  else none
def envQ : Env := [(175, .pure anyArgs (sizeF sz sb)), (176, .pure anyArgs (mulF mh)), (177, .pure divC (divF qt rm)), (120, .text)]
theorem ratio_raw (a b c : Int) (bad : Bool) : acall Tryz.prog (envQ sz sb mh qt rm) 60 119 [.ptr 0 0, .int .i64 a, .int .i64 b, .int .i64 c] [.cells [.bool bad] 112] (flowK 112) =
    ratioRaw sz sb mh qt rm a b c bad := by kernel_rfl

/-! ### The methods -/
variable (rr : Int → Int → Int → Bool → Int × Bool) (ad : Int → Int → Bool → Int × Bool) (rt : Int → Int → Int) (asu aca : Int → Int → Int → Int)
def int3 (rr : Int → Int → Int → Bool → Int × Bool) : List AV → Option (Bool → AV × Bool)
  | [.int .i64 a, .int .i64 b, .int .i64 c] => some fun bad => (.int .i64 (rr a b c bad).1, (rr a b c bad).2)
  | _ => none
def int2 (ad : Int → Int → Bool → Int × Bool) : List AV → Option (Bool → AV × Bool)
  | [.int .i64 a, .int .i64 b] => some fun bad => (.int .i64 (ad a b bad).1, (ad a b bad).2)
  | _ => none
def int1 (ad : Int → Bool → Int × Bool) : List AV → Option (Bool → AV × Bool)
  | [.int .i64 a] => some fun bad => (.int .i64 (ad a bad).1, (ad a bad).2)
  | _ => none
def rng (n : Int) : Bool := decide (-9223372036854775808 ≤ n) && decide (n < 9223372036854775808)
def ratC : List AV → Bool
  | [.int .i64 a, .int .i64 b, .int .i64 c] => rng a && rng b && rng c
  | _ => false
def rootF (rt : Int → Int → Int) : List AV → Option AV
  | [.int .u64 a, .int .u64 b] => some (.int .u64 (rt a b))
  | _ => none
def addC : List AV → Bool
  | [.int .u64 x, .int .u64 y, .int .u64 c] => decide (0 ≤ x) && decide (0 ≤ y) && decide (0 ≤ c) && decide (c ≤ 1)
  | _ => false
def addF (asu aca : Int → Int → Int → Int) : List AV → Option AV
  | [.int .u64 x, .int .u64 y, .int .u64 c] => some (.tup [.int .u64 (asu x y c), .int .u64 (aca x y c)])
  | _ => none
def envM : Env := [(118, .text), (119, .eff (fun l => ratC l.tail) (flowSpec 112 (int3 rr))), (120, .text), (123, .text),
  (179, .pure anyArgs (rootF rt)), (175, .pure anyArgs (sizeF sz sb)), (176, .pure anyArgs (mulF mh)), (178, .ext addC (addF asu aca)), (76, .eff (fun _ => true) (flowSpec 112 (int2 ad)))]
/-- Is it still well, behind these numbers? -/
def takeB : Bool → List Int → Bool
  | bad, [] => bad
  | bad, n :: l => takeB (bif (bif bad then true else decide (n > 4611686018427387904)) then true else decide (n < -4611686018427387904)) l
def opRaw (bad : Bool) (l : List Int) (k : Bool → Option (AV × Bool)) : Option (AV × Bool) :=
  bif !(!takeB bad l) then some (.int .i64 0, takeB bad l) else k (takeB bad l)
def rrRaw (a b c : Int) (bad : Bool) : Option (AV × Bool) :=
  bif ratC [.int .i64 a, .int .i64 b, .int .i64 c] then some (.int .i64 (rr a b c bad).1, (rr a b c bad).2) else none
theorem mul_raw (a b : Int) (bad : Bool) : acall Tryz.prog (envM sz sb mh rr ad rt asu aca) 60 127 [.ptr 0 0, .int .i64 a, .int .i64 b] [.cells [.bool bad] 112] (flowK 112) =
    opRaw bad [a, b] (rrRaw rr a b 1099511627776) := by kernel_rfl
theorem div_raw2 (a b : Int) (bad : Bool) : acall Tryz.prog (envM sz sb mh rr ad rt asu aca) 60 125 [.ptr 0 0, .int .i64 a, .int .i64 b] [.cells [.bool bad] 112] (flowK 112) =
    opRaw bad [a, b] (rrRaw rr a 1099511627776 b) := by kernel_rfl
theorem part_raw (a b c : Int) (bad : Bool) : acall Tryz.prog (envM sz sb mh rr ad rt asu aca) 60 74 [.ptr 0 0, .int .i64 a, .int .i64 b, .int .i64 c] [.cells [.bool bad] 112] (flowK 112) =
    opRaw bad [a, b, c] (rrRaw rr a b c) := by kernel_rfl
def normStep (n hi lo : Int) (k : Int → Int → Option (AV × Bool)) : Option (AV × Bool) :=
  let h := mh (sz n) (sz n)
  let l := wr .u64 (sz n * sz n)
  bif addC [.int .u64 lo, .int .u64 l, .int .u64 0] then
    bif addC [.int .u64 hi, .int .u64 h, .int .u64 (aca lo l 0)] then k (asu hi h (aca lo l 0)) (asu lo l 0) else none
  else none
theorem norm_raw (a b c : Int) (bad : Bool) : acall Tryz.prog (envM sz sb mh rr ad rt asu aca) 60 121 [.ptr 0 0, .int .i64 a, .int .i64 b, .int .i64 c] [.cells [.bool bad] 112] (flowK 112) =
    opRaw bad [a, b, c] fun bad =>
    normStep sz mh asu aca a 0 0 fun hi lo => normStep sz mh asu aca b hi lo fun hi lo => normStep sz mh asu aca c hi lo fun hi lo =>
    bif (bif (bif !(decide (rt hi lo ≤ 4611686018427387904)) then true else decide (wr .i64 (rt hi lo) > 4611686018427387904)) then true else decide (wr .i64 (rt hi lo) < -4611686018427387904)) then some (.int .i64 0, true) else some (.int .i64 (wr .i64 (rt hi lo)), bad) := by kernel_rfl
theorem sub_raw (a b : Int) (bad : Bool) : acall Tryz.prog (envM sz sb mh rr ad rt asu aca) 60 75 [.ptr 0 0, .int .i64 a, .int .i64 b] [.cells [.bool bad] 112] (flowK 112) =
    opRaw bad [a, b] fun bad => some (.int .i64 (ad a (wr .i64 (0 - b)) bad).1, (ad a (wr .i64 (0 - b)) bad).2) := by kernel_rfl
theorem sqrt_raw (a : Int) (bad : Bool) : acall Tryz.prog (envM sz sb mh rr ad rt asu aca) 60 126 [.ptr 0 0, .int .i64 a] [.cells [.bool bad] 112] (flowK 112) =
    bif (bif !(!takeB bad [a]) then true else decide (a < 0)) then some (.int .i64 0, true) else giveRaw (wr .i64 (rt (wr .u64 a / 16777216) (wr .u64 (wr .u64 a * 1099511627776)))) (takeB bad [a]) := by kernel_rfl
theorem mod_raw (a m : Int) (bad : Bool) : acall Tryz.prog (envM sz sb mh rr ad rt asu aca) 60 131 [.ptr 0 0, .int .i64 a, .int .i64 m] [.cells [.bool bad] 112] (flowK 112) =
    bif (bif !(!takeB bad [a, m]) then true else decide (m ≤ 0)) then some (.int .i64 0, true) else
    bif m == 0 then none else bif m == 0 then none else some (.int .i64 ((wr .i64 (a.tmod m + m)).tmod m), takeB bad [a, m]) := by kernel_rfl
end
end Go.Proofs.YtdojnnlhaiennaaGreat.Fx

/- What the methods of a flow come to, in plain numbers. Conditions: none. -/
namespace Go.Proofs.YtdojnnlhaiennaaGreat.Fx
open Go Go.Proofs.YtdojnnlhaiennaaGreat.Ae

/-- Choices that are made (not by rfl: so that the kernel need not compare the ways). -/
theorem bt {α : Type} (a b : α) : (bif true then a else b) = a := by simp only [cond_true]
theorem bf {α : Type} (a b : α) : (bif false then a else b) = b := by simp only [cond_false]

/-- A number of the flow. -/
def okn (n : Int) : Bool := decide (-4611686018427387904 ≤ n) && decide (n ≤ 4611686018427387904)

/-- An answer, or nothing and a bad flow. -/
def resB (bad : Bool) : Option Int → Int × Bool
  | some r => (r, bad)
  | none => (0, true)
/-- What a method comes to: nothing where the flow is bad or something is no number, or where o is none. -/
def lift (bad : Bool) (l : List Int) (o : Option Int) : Int × Bool :=
  if bad || l.any (fun n => !okn n) then (0, true) else resB false o

/-- Is a b / c below 0 (or a nothing with a sign)? -/
def sgn3 (a b c : Int) : Bool := Bool.xor (decide (a < 0)) (Bool.xor (decide (b < 0)) (decide (c < 0)))
/-- a b / c, to the nearest, halves away from 0. -/
def rat (a b c : Int) : Option Int :=
  if c = 0 then none else
  let r : Nat := (2 * (a.natAbs * b.natAbs) + c.natAbs) / (2 * c.natAbs)
  if r > 4611686018427387904 then none else
  if sgn3 a b c then some (-(r : Int)) else some r

/-- The greatest whose square isn't above, bit by bit. -/
def isqB (N : Nat) : Nat → Nat → Nat
  | 0, r => r
  | k + 1, r => isqB N k (if (r + 2 ^ k) * (r + 2 ^ k) ≤ N then r + 2 ^ k else r)
def isq (N : Nat) : Nat := isqB N 64 0

/-- A size, where it is a number. -/
def upTo (r : Nat) : Option Int := if r > 4611686018427387904 then none else some r
def add (a b : Int) (bad : Bool) : Int × Bool := lift bad [a, b] (if okn (a + b) then some (a + b) else none)
def sub (a b : Int) (bad : Bool) : Int × Bool := lift bad [a, b] (if okn (a - b) then some (a - b) else none)
def mul (a b : Int) (bad : Bool) : Int × Bool := lift bad [a, b] (rat a b 1099511627776)
def div (a b : Int) (bad : Bool) : Int × Bool := lift bad [a, b] (rat a 1099511627776 b)
def part (a p q : Int) (bad : Bool) : Int × Bool := lift bad [a, p, q] (rat a p q)
def sqrt (a : Int) (bad : Bool) : Int × Bool := lift bad [a] (if a < 0 then none else some (isq (a.toNat * 1099511627776)))
def norm (a b c : Int) (bad : Bool) : Int × Bool := lift bad [a, b, c] (upTo (isq (a.natAbs * a.natAbs + b.natAbs * b.natAbs + c.natAbs * c.natAbs)))
def mod (a m : Int) (bad : Bool) : Int × Bool := lift bad [a, m] (if m ≤ 0 then none else some (a % m))

/-! ### Roots -/
theorem isqB_ok (N : Nat) : ∀ (k r : Nat), r * r ≤ N → N < (r + 2 ^ k) * (r + 2 ^ k) → isqB N k r * isqB N k r ≤ N ∧ N < (isqB N k r + 1) * (isqB N k r + 1)
  | 0, r, h1, h2 => by simpa [isqB] using ⟨h1, h2⟩
  | k + 1, r, h1, h2 => by
    unfold isqB
    split
    · rename_i h
      refine isqB_ok N k _ h ?_
      have e : r + 2 ^ k + 2 ^ k = r + 2 ^ (k + 1) := by rw [Nat.pow_succ]; omega
      rw [e]; exact h2
    · rename_i h
      exact isqB_ok N k r h1 (by omega)
theorem isq_ok {N : Nat} (h : N < 2 ^ 128) : isq N * isq N ≤ N ∧ N < (isq N + 1) * (isq N + 1) := by
  refine isqB_ok N 64 0 (by simp) ?_
  have : (0 + 2 ^ 64) * (0 + 2 ^ 64) = 2 ^ 128 := by rw [Nat.zero_add, ← Nat.pow_add]
  rw [this]; exact h
theorem isq_unique {N r s : Nat} (h1 : r * r ≤ N) (h2 : N < (r + 1) * (r + 1)) (h3 : s * s ≤ N) (h4 : N < (s + 1) * (s + 1)) : r = s := by
  rcases Nat.lt_trichotomy r s with h | h | h
  · have : (r + 1) * (r + 1) ≤ s * s := Nat.mul_self_le_mul_self h
    omega
  · exact h
  · have : (s + 1) * (s + 1) ≤ r * r := Nat.mul_self_le_mul_self h
    omega
/-- A search bit by bit, from any bit on that is high enough, comes to the root. -/
theorem isqB_isq {N k r : Nat} (h : N < 2 ^ 128) (h1 : r * r ≤ N) (h2 : N < (r + 2 ^ k) * (r + 2 ^ k)) : isqB N k r = isq N := by
  obtain ⟨a1, a2⟩ := isqB_ok N k r h1 h2
  obtain ⟨b1, b2⟩ := isq_ok h
  exact isq_unique a1 a2 b1 b2

end Go.Proofs.YtdojnnlhaiennaaGreat.Fx

/- The methods of the program's flow come to what the plain functions say. Conditions: none. -/
namespace Go.Proofs.YtdojnnlhaiennaaGreat.Fx
open Go Go.Proofs.YtdojnnlhaiennaaGreat.Ae

theorem sz_eq {n : Int} (h : rng n = true) : sz n = (n.natAbs : Int) ∧ (n.natAbs : Int) ≤ 9223372036854775808 := by
  unfold rng at h
  simp only [Bool.and_eq_true, decide_eq_true_eq] at h
  unfold sz
  by_cases c : n < 0
  · rw [decide_eq_true c]; simp only [bt]
    rw [wr_u64, wr_i64]; omega
  · rw [decide_eq_false c]; simp only [bf]
    rw [wr_u64]; omega
theorem sb_eq (n : Int) : sb n = if n < 0 then 1 else 0 := by
  unfold sb
  by_cases c : n < 0
  · rw [decide_eq_true c, if_pos c]; rfl
  · rw [decide_eq_false c, if_neg c]; rfl

/-- The sign of a product of three. -/
theorem signs (a b c : Int) : (bxor .u64 (bxor .u64 (sb a) (sb b)) (sb c) == 1) = sgn3 a b c := by
  unfold sgn3
  rw [sb_eq, sb_eq, sb_eq]
  by_cases ha : a < 0 <;> by_cases hb : b < 0 <;> by_cases hc : c < 0 <;> simp only [ha, hb, hc, if_true, if_false, decide_true, decide_false] <;> decide

theorem mulHi_low {x y : Int} (hx : 0 ≤ x) (hx1 : x < 18446744073709551616) (hy : 0 ≤ y) (hy1 : y < 18446744073709551616) :
    0 ≤ mulHi x y ∧ 0 ≤ wr .u64 (x * y) ∧ wr .u64 (x * y) < 18446744073709551616 ∧ mulHi x y * 18446744073709551616 + wr .u64 (x * y) = x * y := by
  rw [mulHi_eq hx hx1 hy hy1, wr_u64]
  have := Int.mul_nonneg hx hy
  generalize x * y = p at *
  omega

def ratF (a b c : Int) (bad : Bool) : Int × Bool := resB bad (rat a b c)

theorem give_big {n : Int} (h : n > 4611686018427387904 ∨ n < -4611686018427387904) (bad : Bool) : giveRaw n bad = some (.int .i64 0, true) := by
  unfold giveRaw
  rcases h with h | h
  · rw [decide_eq_true h]; rfl
  · rw [decide_eq_true h]; cases decide (n > 4611686018427387904) <;> rfl
theorem give_in {n : Int} (h : n ≤ 4611686018427387904) (h' : -4611686018427387904 ≤ n) (bad : Bool) : giveRaw n bad = some (.int .i64 n, bad) := by
  unfold giveRaw
  rw [decide_eq_false (by omega), decide_eq_false (by omega)]; rfl

/-- A rounded quotient. -/
theorem round_eq {p z n left : Nat} (hz : 0 < z) (h : z * n + left = p) (hl : left < z) : (2 * p + z) / (2 * z) = if z ≤ 2 * left then n + 1 else n := by
  have e : 2 * p + z = 2 * z * n + (2 * left + z) := by rw [← h, Nat.mul_add, ← Nat.mul_assoc]; omega
  rw [e, Nat.mul_add_div (by omega)]
  split
  · rw [Nat.div_eq_of_lt_le (k := 1)] <;> omega
  · rw [Nat.div_eq_of_lt] <;> omega

theorem ratio_eq {a b c : Int} (ha : rng a = true) (hb : rng b = true) (hc : rng c = true) (bad : Bool) :
    ratioRaw sz sb mulHi qtI rmI a b c bad = some (.int .i64 (ratF a b c bad).1, (ratF a b c bad).2) := by
  obtain ⟨ea, ua⟩ := sz_eq ha
  obtain ⟨eb, ub⟩ := sz_eq hb
  obtain ⟨ec, uc⟩ := sz_eq hc
  unfold ratioRaw
  rw [ea, eb, ec]
  obtain ⟨m1, m2, m3, m4⟩ := mulHi_low (x := (a.natAbs : Int)) (y := (b.natAbs : Int)) (by omega) (by omega) (by omega) (by omega)
  have hp : (a.natAbs : Int) * (b.natAbs : Int) = ((a.natAbs * b.natAbs : Nat) : Int) := by rw [Int.natCast_mul]
  rw [signs]
  dsimp only
  rw [hp] at m2 m3 m4 ⊢
  unfold ratF rat
  have hcz : c = 0 ↔ c.natAbs = 0 := by omega
  generalize sgn3 a b c = sg at *
  generalize a.natAbs * b.natAbs = p at *
  generalize c.natAbs = z at *
  generalize mulHi (a.natAbs : Int) (b.natAbs : Int) = h at *
  generalize wr .u64 (p : Int) = l at *
  by_cases z0 : z = 0
  · rw [if_pos (hcz.2 z0)]
    have : ((z : Int) == 0) = true := by simp; exact z0
    rw [this]; simp only [bt, resB]
  · rw [if_neg (fun e => z0 (hcz.1 e))]
    have e0 : ((z : Int) == 0) = false := by simp; exact z0
    rw [e0]
    simp only [bf]
    by_cases hz : h ≥ (z : Int)
    · rw [decide_eq_true hz]
      have hbig : (2 * p + z) / (2 * z) > 4611686018427387904 := by
        have : 18446744073709551616 ≤ (2 * p + z) / (2 * z) := by
          rw [Nat.le_div_iff_mul_le (by omega)]
          omega
        omega
      rw [if_pos hbig]; simp only [bt, bf, resB]
    · rw [decide_eq_false hz]
      have hC : divC [.int .u64 h, .int .u64 l, .int .u64 (z : Int)] = true := by
        simp only [divC, in64, Bool.and_eq_true, decide_eq_true_eq]; omega
      rw [hC]
      simp only [bt, bf]
      have hq : qtI h l (z : Int) = ((p / z : Nat) : Int) := by unfold qtI; rw [m4]; exact (Int.natCast_ediv _ _).symm
      have hr : rmI h l (z : Int) = ((p % z : Nat) : Int) := by unfold rmI; rw [m4]; exact (Int.natCast_emod _ _).symm
      rw [hq, hr]
      have hdm := Nat.div_add_mod p z
      have hml := Nat.mod_lt p (show z > 0 by omega)
      have hround := round_eq (show 0 < z by omega) hdm hml
      generalize p / z = n at *
      generalize p % z = left at *
      rw [hround]
      by_cases hn : (n : Int) > 4611686018427387904
      · rw [decide_eq_true hn]
        have : (if z ≤ 2 * left then n + 1 else n) > 4611686018427387904 := by split <;> omega
        rw [if_pos this]; simp only [bt, resB]
      · rw [decide_eq_false hn]
        simp only [bf]
        have hw : wr .u64 ((z : Int) - (left : Int)) = (z : Int) - left := wu64_in (by omega) (by omega)
        have hn0 : (n : Int) ≤ 4611686018427387904 := by omega
        rw [hw, wu64_in (n := (n : Int) + 1) (by omega) (by omega)]
        have hn' : (bif decide ((left : Int) ≥ (z : Int) - left) then (n : Int) + 1 else (n : Int)) = ((if z ≤ 2 * left then n + 1 else n : Nat) : Int) := by
          by_cases hh : z ≤ 2 * left
          · rw [decide_eq_true (by omega), if_pos hh]; rfl
          · rw [decide_eq_false (by omega), if_neg hh]; rfl
        rw [hn']
        have hle : (if z ≤ 2 * left then n + 1 else n) ≤ 4611686018427387905 := by split <;> omega
        generalize (if z ≤ 2 * left then n + 1 else n) = r at *
        rw [w64_in (n := (r : Int)) (by omega) (by omega), w64_in (n := 0 - (r : Int)) (by omega) (by omega)]
        by_cases hbig : r > 4611686018427387904
        · rw [if_pos hbig, give_big (n := 0 - (r : Int)) (.inr (by omega)), give_big (n := (r : Int)) (.inl (by omega))]
          cases sg <;> simp only [bt, bf, resB]
        · rw [if_neg hbig, give_in (n := 0 - (r : Int)) (by omega) (by omega), give_in (n := (r : Int)) (by omega) (by omega)]
          cases sg
          · simp only [bf, Bool.false_eq_true, if_false, resB]
          · simp only [bt, if_true, Int.zero_sub, resB]

/-! ### Roots -/
theorem rootRaw_eq {hi lo : Int} (h0 : 0 ≤ hi) (l0 : 0 ≤ lo) (l1 : lo < 18446744073709551616) : ∀ (k r : Nat), k ≤ 63 → (∃ q, r = 2 ^ k * q) → r < 2 ^ 63 →
    rootRaw mulHi hi lo k (r : Int) (((2 ^ k : Nat) : Int) / 2) = (isqB (hi.toNat * 18446744073709551616 + lo.toNat) k r : Int)
  | 0, r, _, _, _ => rfl
  | k + 1, r, hk, ⟨q, hq⟩, hr => by
    have hpk : 2 ^ (k + 1) = 2 * 2 ^ k := by rw [Nat.pow_succ]; omega
    have hbit : ((2 ^ (k + 1) : Nat) : Int) / 2 = ((2 ^ k : Nat) : Int) := by rw [hpk]; omega
    have hpos : 0 < 2 ^ k := Nat.two_pow_pos k
    have hk63 : 2 ^ (k + 1) ≤ 2 ^ 63 := Nat.pow_le_pow_right (by omega) hk
    have h63 : (2 : Nat) ^ 63 = 9223372036854775808 := by kernel_rfl
    -- what is left above
    have hroom : r + 2 ^ (k + 1) ≤ 2 ^ 63 := by
      have e : (2 : Nat) ^ 63 = 2 ^ (k + 1) * 2 ^ (62 - k) := by rw [← Nat.pow_add]; congr 1; omega
      rw [e, hq] at hr ⊢
      have hql := Nat.lt_of_mul_lt_mul_left hr
      have := Nat.mul_le_mul_left (2 ^ (k + 1)) (show q + 1 ≤ 2 ^ (62 - k) from hql)
      rw [Nat.mul_add, Nat.mul_one] at this
      exact this
    rw [hbit]
    unfold rootRaw isqB
    dsimp only
    have ht : bor .u64 (r : Int) ((2 ^ k : Nat) : Int) = ((r + 2 ^ k : Nat) : Int) := by
      rw [bor_eq (by omega) (by omega) (by omega) (by omega), Int.toNat_natCast, Int.toNat_natCast, hq, or_add (by omega)]
    rw [ht]
    have hrec : ((2 ^ k : Nat) : Int) / 2 = ((2 ^ k : Nat) : Int) / 2 := rfl
    generalize hte : r + 2 ^ k = t at *
    obtain ⟨m1, m2, m3, m4⟩ := mulHi_low (x := (t : Int)) (y := (t : Int)) (by omega) (by omega) (by omega) (by omega)
    have hc : (bif decide (mulHi (t : Int) t < hi) then true else bif mulHi (t : Int) t == hi then decide (wr .u64 ((t : Int) * t) ≤ lo) else false) = decide (t * t ≤ hi.toNat * 18446744073709551616 + lo.toNat) := by
      have e : (t : Int) * t = ((t * t : Nat) : Int) := by rw [Int.natCast_mul]
      rw [e] at m2 m3 m4 ⊢
      generalize mulHi (t : Int) t = h at *
      generalize wr .u64 ((t * t : Nat) : Int) = l at *
      generalize t * t = tt at *
      by_cases c1 : h < hi
      · rw [decide_eq_true c1, decide_eq_true (show tt ≤ hi.toNat * 18446744073709551616 + lo.toNat by omega)]; rfl
      · rw [decide_eq_false c1]
        simp only [bf]
        by_cases c2 : h = hi
        · have : (h == hi) = true := by simp; exact c2
          rw [this]
          simp only [bt]
          by_cases c3 : l ≤ lo
          · rw [decide_eq_true c3, decide_eq_true (show tt ≤ hi.toNat * 18446744073709551616 + lo.toNat by omega)]
          · rw [decide_eq_false c3, decide_eq_false (show ¬ tt ≤ hi.toNat * 18446744073709551616 + lo.toNat by omega)]
        · have : (h == hi) = false := by simp; exact c2
          rw [this]
          simp only [bf]
          rw [decide_eq_false (show ¬ tt ≤ hi.toNat * 18446744073709551616 + lo.toNat by omega)]
    rw [hc]
    have hd1 : ∃ q', r = 2 ^ k * q' := ⟨2 * q, by rw [hq, hpk, Nat.mul_comm 2, Nat.mul_assoc]⟩
    have hd2 : ∃ q', t = 2 ^ k * q' := ⟨2 * q + 1, by rw [← hte, Nat.mul_add, Nat.mul_one, hq, hpk, Nat.mul_comm 2, Nat.mul_assoc]⟩
    by_cases c : t * t ≤ hi.toNat * 18446744073709551616 + lo.toNat
    · rw [decide_eq_true c, if_pos c]
      exact rootRaw_eq h0 l0 l1 k t (by omega) hd2 (by omega)
    · rw [decide_eq_false c, if_neg c]
      exact rootRaw_eq h0 l0 l1 k r (by omega) hd1 hr

def rootI (hi lo : Int) : Int := rootRaw mulHi hi lo 63 0 4611686018427387904
theorem rootI_eq {hi lo : Int} (h0 : 0 ≤ hi) (h1 : hi < 4611686018427387904) (l0 : 0 ≤ lo) (l1 : lo < 18446744073709551616) : rootI hi lo = (isq (hi.toNat * 18446744073709551616 + lo.toNat) : Int) := by
  have h := rootRaw_eq h0 l0 l1 63 0 (by omega) ⟨0, by simp⟩ (Nat.two_pow_pos 63)
  have h63 : (2 : Nat) ^ 63 = 9223372036854775808 := by kernel_rfl
  have h128 : (2 : Nat) ^ 128 = 340282366920938463463374607431768211456 := by kernel_rfl
  have e : (((2 ^ 63 : Nat) : Int) / 2) = 4611686018427387904 := by rw [h63]; omega
  rw [e] at h
  unfold rootI
  refine Eq.trans h ?_
  rw [isqB_isq (by rw [h128]; omega) (by simp) (by rw [h63]; omega)]

end Go.Proofs.YtdojnnlhaiennaaGreat.Fx

/- The contracts of the methods of the program's flow, in plain numbers. Conditions: none. -/
namespace Go.Proofs.YtdojnnlhaiennaaGreat.Fx
open Go Go.Proofs.YtdojnnlhaiennaaGreat.Ae

theorem EnvOk.t {P : Program} {env : Env} (t : EnvOk P env) {f : FuncId} (h : EnterOk P f) : EnvOk P ((f, .text) :: env) := EnvOk.cons (s := .text) h t
theorem EnvOk.p {P : Program} {env : Env} (t : EnvOk P env) {f : FuncId} (h : EnterOk P f) {C : List AV → Bool} {F : List AV → Option AV} (k : PureOk P f C F) : EnvOk P ((f, .pure C F) :: env) := EnvOk.cons (s := .pure C F) ⟨h, k⟩ t
theorem EnvOk.e {P : Program} {env : Env} (t : EnvOk P env) {f : FuncId} (h : EnterOk P f) {C : List AV → Bool} {F : List AV → List AB → Option (AV × List AB)} (k : EffOk P f C F) : EnvOk P ((f, .eff C F) :: env) := EnvOk.cons (s := .eff C F) ⟨h, k⟩ t
theorem EnvOk.x {P : Program} {env : Env} (t : EnvOk P env) {f : FuncId} {C : List AV → Bool} {F : List AV → Option AV} (k : ExtOk P f C F) : EnvOk P ((f, .ext C F) :: env) := EnvOk.cons (s := .ext C F) k t

theorem en_size : EnterOk Tryz.prog 175 := enter_of Tryz.func175 (by kernel_rfl) rfl
theorem en_mul64 : EnterOk Tryz.prog 176 := enter_of Tryz.func176 (by kernel_rfl) rfl
theorem en_len : EnterOk Tryz.prog 206 := enter_of Tryz.func206 (by kernel_rfl) rfl
theorem en_lz : EnterOk Tryz.prog 201 := enter_of Tryz.func201 (by kernel_rfl) rfl
theorem en_div64 : EnterOk Tryz.prog 177 := enter_of Tryz.func177 (by kernel_rfl) rfl
theorem en_give : EnterOk Tryz.prog 120 := enter_of Tryz.func120 (by kernel_rfl) rfl
theorem en_take : EnterOk Tryz.prog 118 := enter_of Tryz.func118 (by kernel_rfl) rfl
theorem en_fail : EnterOk Tryz.prog 123 := enter_of Tryz.func123 (by kernel_rfl) rfl
theorem en_root : EnterOk Tryz.prog 179 := enter_of Tryz.func179 (by kernel_rfl) rfl
theorem en_ratio : EnterOk Tryz.prog 119 := enter_of Tryz.func119 (by kernel_rfl) rfl
theorem en_add : EnterOk Tryz.prog 76 := enter_of Tryz.func76 (by kernel_rfl) rfl
theorem en_sub : EnterOk Tryz.prog 75 := enter_of Tryz.func75 (by kernel_rfl) rfl
theorem en_mul : EnterOk Tryz.prog 127 := enter_of Tryz.func127 (by kernel_rfl) rfl
theorem en_div : EnterOk Tryz.prog 125 := enter_of Tryz.func125 (by kernel_rfl) rfl
theorem en_part : EnterOk Tryz.prog 74 := enter_of Tryz.func74 (by kernel_rfl) rfl
theorem en_mod : EnterOk Tryz.prog 131 := enter_of Tryz.func131 (by kernel_rfl) rfl
theorem ok_nil : EnvOk Tryz.prog [] := EnvOk.nil _
theorem lz_con : PureOk Tryz.prog 201 anyArgs (lzF lzI) := lz_ok (EnvOk.p ok_nil en_len len_ok)
theorem lz_con' : PureOk Tryz.prog 201 lzC (lzF lzI) := fun args v _ h => lz_con args v rfl h
theorem div_con : PureOk Tryz.prog 177 divC (divF qtI rmI) := div_ok (EnvOk.p ok_nil en_lz lz_con')

theorem ratio_con : EffOk Tryz.prog 119 (fun l => ratC l.tail) (flowSpec 112 (int3 ratF)) := by
  have hE : EnvOk Tryz.prog (envQ sz sb mulHi qtI rmI) :=
    EnvOk.p (EnvOk.p (EnvOk.p (EnvOk.t ok_nil en_give) en_div64 div_con) en_mul64 mul_ok) en_size size_ok
  refine flow_of hE 60 _ _ _ _ ?_
  intro args g hC h b
  unfold int3 at h
  split at h <;> cases h
  simp only [ratC, Bool.and_eq_true] at hC
  rw [ratio_raw, ratio_eq hC.1.1 hC.1.2 hC.2]

theorem root_con : PureOk Tryz.prog 179 anyArgs (rootF rootI) := by
  refine pure_of (EnvOk.p ok_nil en_mul64 mul_ok : EnvOk Tryz.prog (envR mulHi)) 120 _ _ _ ?_
  rintro args v - h
  unfold rootF at h
  split at h <;> cases h
  exact ⟨rfl, rfl, root_raw _ _ _⟩

def aduI (x y c : Int) : Int := (x + y + c) % 18446744073709551616
def adcI (x y c : Int) : Int := (x + y + c) / 18446744073709551616
theorem add64_con : ExtOk Tryz.prog 178 addC (addF aduI adcI) := by
  intro args v hC h m Args hA
  unfold addF at h
  split at h <;> cases h
  rename_i x y c
  simp only [addC, Bool.and_eq_true, decide_eq_true_eq] at hC
  obtain ⟨X, _, e1, hx, h2⟩ := RL_cons.1 hA
  obtain ⟨Y, _, rfl, hy, h3⟩ := RL_cons.1 h2
  obtain ⟨Z, _, rfl, hz, h4⟩ := RL_cons.1 h3
  rw [RL_nil.1 h4] at e1
  simp only [R] at hx hy hz
  have hArgs : Args = #[.int .u64 x, .int .u64 y, .int .u64 c] := Array.toList_inj.1 (by rw [e1, hx, hy, hz])
  refine ⟨.tuple #[.int .u64 (aduI x y c), .int .u64 (adcI x y c)], ?_, fun w => ?_⟩
  · simp only [R]
    exact ⟨_, rfl, RL.cons (R_int _ _ _) (RL.cons (R_int _ _ _) (RL_nil.2 rfl))⟩
  · rw [hArgs]
    have hfind : Extern.find Tryz.f178 = some add64Entry := by kernel_rfl
    have hnext : Extern.findNext Tryz.f178 = none := by kernel_rfl
    have hname : (Tryz.f178.name == "runtime.NumGoroutine") = false := by kernel_rfl
    have hbody : Tryz.f178.body.isNone = true := by kernel_rfl
    simp only [callFunc, Sem.run_bind, run_program, Result.andThen_ok, Tryz.func178, hname, hbody, Bool.false_eq_true, if_false, if_true, hnext, hfind]
    have := run_add64 (P := Tryz.prog) x y c hC.1.1.1 hC.1.1.2 hC.1.2 hC.2 w
    simp only [mark, Sem.run, Result.andThen_ok, this]
    rfl

/-! ### The methods -/
theorem takeB_eq : ∀ (l : List Int) (bad : Bool), takeB bad l = (bad || l.any (fun n => !okn n))
  | [], bad => by simp [takeB]
  | n :: l, bad => by
    unfold takeB
    rw [takeB_eq l]
    have : (bif (bif bad then true else decide (n > 4611686018427387904)) then true else decide (n < -4611686018427387904)) = (bad || !okn n) := by
      unfold okn
      by_cases h1 : n > 4611686018427387904 <;> by_cases h2 : n < -4611686018427387904 <;> cases bad <;> simp [h1, h2] <;> omega
    rw [this, List.any_cons, Bool.or_assoc]

theorem opRaw_bad {bad : Bool} {l : List Int} (h : (bad || l.any (fun n => !okn n)) = true) (k : Bool → Option (AV × Bool)) : opRaw bad l k = some (.int .i64 0, true) := by
  unfold opRaw
  rw [takeB_eq, h]; rfl
theorem opRaw_ok {bad : Bool} {l : List Int} (h : (bad || l.any (fun n => !okn n)) = false) (k : Bool → Option (AV × Bool)) : opRaw bad l k = k false := by
  unfold opRaw
  rw [takeB_eq, h]; rfl
theorem lift_bad {bad : Bool} {l : List Int} (h : (bad || l.any (fun n => !okn n)) = true) (o : Option Int) : lift bad l o = (0, true) := by
  unfold lift; rw [if_pos h]
theorem lift_ok {bad : Bool} {l : List Int} (h : (bad || l.any (fun n => !okn n)) = false) (o : Option Int) : lift bad l o = resB false o := by
  unfold lift; rw [if_neg (by simp [h])]

theorem okn_iff {n : Int} : okn n = true ↔ -4611686018427387904 ≤ n ∧ n ≤ 4611686018427387904 := by simp [okn]
theorem rng_of {n : Int} (h : okn n = true) : rng n = true := by
  have := okn_iff.1 h
  simp [rng]; omega
theorem rng_one : rng 1099511627776 = true := by decide

/-- The pair that a method's answer is. -/
def av (p : Int × Bool) : Option (AV × Bool) := some (.int .i64 p.1, p.2)

theorem rrRaw_eq {a b c : Int} (ha : rng a = true) (hb : rng b = true) (hc : rng c = true) : rrRaw ratF a b c false = av (resB false (rat a b c)) := by
  unfold rrRaw
  have hC : ratC [.int .i64 a, .int .i64 b, .int .i64 c] = true := by simp only [ratC, ha, hb, hc, Bool.and_self]
  rw [hC, bt]
  rfl

theorem all_ok2 {bad : Bool} {a b : Int} (h : (bad || [a, b].any (fun n => !okn n)) = false) : bad = false ∧ okn a = true ∧ okn b = true := by
  simp at h; exact h
theorem all_ok3 {bad : Bool} {a b c : Int} (h : (bad || [a, b, c].any (fun n => !okn n)) = false) : bad = false ∧ okn a = true ∧ okn b = true ∧ okn c = true := by
  simp at h; exact h
theorem all_ok1 {bad : Bool} {a : Int} (h : (bad || [a].any (fun n => !okn n)) = false) : bad = false ∧ okn a = true := by
  simp at h; exact h

theorem mul_plain (a b : Int) (bad : Bool) : opRaw bad [a, b] (rrRaw ratF a b 1099511627776) = av (mul a b bad) := by
  unfold mul
  cases h : (bad || [a, b].any (fun n => !okn n)) with
  | true => rw [opRaw_bad h, lift_bad h]; rfl
  | false =>
    obtain ⟨_, h1, h2⟩ := all_ok2 h
    rw [opRaw_ok h, lift_ok h, rrRaw_eq (rng_of h1) (rng_of h2) rng_one]
theorem div_plain (a b : Int) (bad : Bool) : opRaw bad [a, b] (rrRaw ratF a 1099511627776 b) = av (div a b bad) := by
  unfold div
  cases h : (bad || [a, b].any (fun n => !okn n)) with
  | true => rw [opRaw_bad h, lift_bad h]; rfl
  | false =>
    obtain ⟨_, h1, h2⟩ := all_ok2 h
    rw [opRaw_ok h, lift_ok h, rrRaw_eq (rng_of h1) rng_one (rng_of h2)]
theorem part_plain (a b c : Int) (bad : Bool) : opRaw bad [a, b, c] (rrRaw ratF a b c) = av (part a b c bad) := by
  unfold part
  cases h : (bad || [a, b, c].any (fun n => !okn n)) with
  | true => rw [opRaw_bad h, lift_bad h]; rfl
  | false =>
    obtain ⟨_, h1, h2, h3⟩ := all_ok3 h
    rw [opRaw_ok h, lift_ok h, rrRaw_eq (rng_of h1) (rng_of h2) (rng_of h3)]
/-- Does a sum not fit? -/
def addBig (a b : Int) : Bool := bif (bif !(!(bif a == 4611686018427387904 then b == 4611686018427387904 else false)) then true else decide (wr .i64 (a + b) > 4611686018427387904)) then true else decide (wr .i64 (a + b) < -4611686018427387904)
theorem addBig_no {a b : Int} (h1 : -4611686018427387904 ≤ a + b) (h2 : a + b ≤ 4611686018427387904) : addBig a b = false := by
  unfold addBig
  rw [w64_in (by omega) (by omega), decide_eq_false (show ¬ a + b > 4611686018427387904 by omega), decide_eq_false (show ¬ a + b < -4611686018427387904 by omega)]
  by_cases ea : a = 4611686018427387904
  · have e : (b == 4611686018427387904) = false := by simp; omega
    rw [e]; cases (a == 4611686018427387904) <;> rfl
  · have e : (a == 4611686018427387904) = false := by simp; exact ea
    rw [e]; rfl
theorem addBig_yes {a b : Int} (ha : -4611686018427387904 ≤ a ∧ a ≤ 4611686018427387904) (hb : -4611686018427387904 ≤ b ∧ b ≤ 4611686018427387904) (h : ¬ (-4611686018427387904 ≤ a + b ∧ a + b ≤ 4611686018427387904)) : addBig a b = true := by
  unfold addBig
  by_cases ea : a = 4611686018427387904 ∧ b = 4611686018427387904
  · obtain ⟨rfl, rfl⟩ := ea
    have e : ((4611686018427387904 : Int) == 4611686018427387904) = true := by simp
    rw [e]; simp only [bt, Bool.not_true, Bool.not_false]
  · rw [w64_in (n := a + b) (by omega) (by omega)]
    by_cases hgt : a + b > 4611686018427387904
    · rw [decide_eq_true hgt]; cases (bif a == 4611686018427387904 then b == 4611686018427387904 else false) <;> simp only [bt, bf, Bool.not_true, Bool.not_false]
    · rw [decide_eq_true (show a + b < -4611686018427387904 by omega)]
      cases (bif !(!(bif a == 4611686018427387904 then b == 4611686018427387904 else false)) then true else decide (a + b > 4611686018427387904)) <;> simp only [bt, bf]
theorem add_plain (a b : Int) (bad : Bool) : (opRaw bad [a, b] fun bad => bif (bif (bif !(!(bif a == 4611686018427387904 then b == 4611686018427387904 else false)) then true else decide (wr .i64 (a + b) > 4611686018427387904)) then true else decide (wr .i64 (a + b) < -4611686018427387904)) then some (.int .i64 0, true) else some (.int .i64 (wr .i64 (a + b)), bad)) = av (add a b bad) := by
  unfold add
  cases h : (bad || [a, b].any (fun n => !okn n)) with
  | true => rw [opRaw_bad h, lift_bad h]; rfl
  | false =>
    obtain ⟨_, h1, h2⟩ := all_ok2 h
    rw [opRaw_ok h, lift_ok h]
    have i1 := okn_iff.1 h1
    have i2 := okn_iff.1 h2
    change (bif addBig a b then some (AV.int .i64 0, true) else some (AV.int .i64 (wr .i64 (a + b)), false)) = _
    by_cases hs : okn (a + b) = true
    · have i3 := okn_iff.1 hs
      rw [if_pos hs, addBig_no i3.1 i3.2, bf, w64_in (by omega) (by omega)]; rfl
    · rw [if_neg hs, addBig_yes i1 i2 (fun e => hs (okn_iff.2 e)), bt]; rfl
theorem sub_plain (a b : Int) (bad : Bool) : (opRaw bad [a, b] fun bad => some (.int .i64 (add a (wr .i64 (0 - b)) bad).1, (add a (wr .i64 (0 - b)) bad).2)) = av (sub a b bad) := by
  unfold sub
  cases h : (bad || [a, b].any (fun n => !okn n)) with
  | true => rw [opRaw_bad h, lift_bad h]; rfl
  | false =>
    obtain ⟨_, h1, h2⟩ := all_ok2 h
    rw [opRaw_ok h, lift_ok h]
    have i1 := okn_iff.1 h1
    have i2 := okn_iff.1 h2
    have hb : wr .i64 (0 - b) = -b := by rw [w64_in (by omega) (by omega)]; omega
    have h3 : okn (-b) = true := okn_iff.2 (by omega)
    rw [hb]
    unfold add
    rw [lift_ok (l := [a, -b]) (by simp [h1, h3])]
    rfl
theorem sqrt_plain (a : Int) (bad : Bool) : (bif (bif !(!takeB bad [a]) then true else decide (a < 0)) then some (.int .i64 0, true) else giveRaw (wr .i64 (rootI (wr .u64 a / 16777216) (wr .u64 (wr .u64 a * 1099511627776)))) (takeB bad [a])) = av (sqrt a bad) := by
  unfold sqrt
  rw [takeB_eq]
  cases h : (bad || [a].any (fun n => !okn n)) with
  | true => rw [lift_bad h]; rfl
  | false =>
    obtain ⟨_, h1⟩ := all_ok1 h
    rw [lift_ok h]
    have i1 := okn_iff.1 h1
    by_cases hn : a < 0
    · rw [decide_eq_true hn, if_pos hn]; rfl
    · rw [decide_eq_false hn, if_neg hn]
      simp only [Bool.not_false, Bool.not_true, bt, bf]
      rw [wu64_in (n := a) (by omega) (by omega), wr_u64]
      rw [rootI_eq (by omega) (by omega) (by omega) (by omega)]
      have hN : (a / 16777216).toNat * 18446744073709551616 + (a * 1099511627776 % 18446744073709551616).toNat = a.toNat * 1099511627776 := by omega
      rw [hN]
      have hr := (isq_ok (N := a.toNat * 1099511627776) (by
        have : (2 : Nat) ^ 128 = 340282366920938463463374607431768211456 := by kernel_rfl
        rw [this]; omega)).1
      have hle : isq (a.toNat * 1099511627776) ≤ 4611686018427387904 := by
        apply Nat.le_of_not_lt
        intro hlt
        have := Nat.mul_self_le_mul_self (show 4611686018427387904 ≤ isq (a.toNat * 1099511627776) by omega)
        omega
      generalize isq (a.toNat * 1099511627776) = r at *
      rw [w64_in (by omega) (by omega), give_in (by omega) (by omega)]
      rfl
theorem mod_plain (a m : Int) (bad : Bool) : (bif (bif !(!takeB bad [a, m]) then true else decide (m ≤ 0)) then some (.int .i64 0, true) else
    bif m == 0 then none else bif m == 0 then none else some (.int .i64 ((wr .i64 (a.tmod m + m)).tmod m), takeB bad [a, m])) = av (mod a m bad) := by
  unfold mod
  rw [takeB_eq]
  cases h : (bad || [a, m].any (fun n => !okn n)) with
  | true => rw [lift_bad h]; rfl
  | false =>
    obtain ⟨_, h1, h2⟩ := all_ok2 h
    rw [lift_ok h]
    have i1 := okn_iff.1 h1
    have i2 := okn_iff.1 h2
    by_cases hn : m ≤ 0
    · rw [decide_eq_true hn, if_pos hn]; rfl
    · rw [decide_eq_false hn, if_neg hn]
      have e0 : (m == 0) = false := by simp; omega
      rw [e0]
      simp only [Bool.not_false, Bool.not_true, bt, bf]
      have hm : 0 < m := by omega
      have t1 : -m < a.tmod m ∧ a.tmod m < m := ⟨by have := Int.tmod_lt_of_pos (-a) hm; rw [Int.neg_tmod] at this; omega, Int.tmod_lt_of_pos a hm⟩
      rw [w64_in (by omega) (by omega), Int.tmod_eq_emod_of_nonneg (by omega)]
      have e1 : (a.tmod m + m) % m = a % m := by
        rw [Int.add_emod_right]
        have := Int.tmod_add_mul_tdiv a m
        conv => rhs; rw [← this]
        rw [Int.add_mul_emod_self_left]
      rw [e1]; rfl
theorem normStep_eq {n hi lo : Int} (hn : rng n = true) (h0 : 0 ≤ hi) (l0 : 0 ≤ lo) (l1 : lo < 18446744073709551616) (k : Int → Int → Option (AV × Bool)) (hh : hi < 9223372036854775808) :
    ∃ hi' lo', normStep sz mulHi aduI adcI n hi lo k = k hi' lo' ∧ 0 ≤ hi' ∧ 0 ≤ lo' ∧ lo' < 18446744073709551616 ∧ hi' * 18446744073709551616 + lo' = hi * 18446744073709551616 + lo + (n.natAbs * n.natAbs : Nat) := by
  obtain ⟨e, u⟩ := sz_eq hn
  obtain ⟨m1, m2, m3, m4⟩ := mulHi_low (x := (n.natAbs : Int)) (y := (n.natAbs : Int)) (by omega) (by omega) (by omega) (by omega)
  have hsq : (n.natAbs : Int) * n.natAbs ≤ 85070591730234615865843651857942052864 := by
    have := Int.mul_le_mul u u (by omega) (by omega)
    omega
  have hp : (n.natAbs : Int) * (n.natAbs : Int) = ((n.natAbs * n.natAbs : Nat) : Int) := by rw [Int.natCast_mul]
  unfold normStep
  dsimp only
  rw [e]
  rw [hp] at m2 m3 m4 hsq ⊢
  generalize n.natAbs * n.natAbs = p at *
  generalize mulHi (n.natAbs : Int) (n.natAbs : Int) = h at *
  generalize wr .u64 (p : Int) = l at *
  have c1 : addC [.int .u64 lo, .int .u64 l, .int .u64 0] = true := by
    simp only [addC, Bool.and_eq_true, decide_eq_true_eq]; omega
  have hc : 0 ≤ adcI lo l 0 ∧ adcI lo l 0 ≤ 1 := by unfold adcI; omega
  have c2 : addC [.int .u64 hi, .int .u64 h, .int .u64 (adcI lo l 0)] = true := by
    simp only [addC, Bool.and_eq_true, decide_eq_true_eq]; omega
  rw [c1, c2]
  simp only [bt]
  refine ⟨_, _, rfl, ?_, ?_, ?_, ?_⟩ <;> simp only [aduI, adcI] <;> omega
def normK (hi lo : Int) (bad : Bool) : Option (AV × Bool) :=
  bif (bif (bif !(decide (rootI hi lo ≤ 4611686018427387904)) then true else decide (wr .i64 (rootI hi lo) > 4611686018427387904)) then true else decide (wr .i64 (rootI hi lo) < -4611686018427387904)) then some (.int .i64 0, true) else some (.int .i64 (wr .i64 (rootI hi lo)), bad)
theorem normK_eq {hi lo : Int} {r : Nat} (h : rootI hi lo = (r : Int)) (hr : r ≤ 9223372036854775807) (bad : Bool) : normK hi lo bad = if r > 4611686018427387904 then some (.int .i64 0, true) else some (.int .i64 (r : Int), bad) := by
  unfold normK
  rw [h, w64_in (by omega) (by omega)]
  by_cases hb : r > 4611686018427387904
  · rw [if_pos hb, decide_eq_false (show ¬ (r : Int) ≤ 4611686018427387904 by omega)]; simp only [Bool.not_false, bt]
  · rw [if_neg hb, decide_eq_true (show (r : Int) ≤ 4611686018427387904 by omega), decide_eq_false (show ¬ (r : Int) > 4611686018427387904 by omega), decide_eq_false (show ¬ (r : Int) < -4611686018427387904 by omega)]
    simp only [Bool.not_true, bf]
theorem norm_end (r : Nat) : (if r > 4611686018427387904 then some (AV.int .i64 0, true) else some (AV.int .i64 (r : Int), false)) = av (resB false (upTo r)) := by
  unfold upTo
  by_cases hb : r > 4611686018427387904
  · rw [if_pos hb, if_pos hb]; rfl
  · rw [if_neg hb, if_neg hb]; rfl
theorem norm_plain (a b c : Int) (bad : Bool) : (opRaw bad [a, b, c] fun bad =>
    normStep sz mulHi aduI adcI a 0 0 fun hi lo => normStep sz mulHi aduI adcI b hi lo fun hi lo => normStep sz mulHi aduI adcI c hi lo fun hi lo => normK hi lo bad) = av (norm a b c bad) := by
  unfold norm
  cases h : (bad || [a, b, c].any (fun n => !okn n)) with
  | true => rw [opRaw_bad h, lift_bad h]; rfl
  | false =>
    obtain ⟨_, h1, h2, h3⟩ := all_ok3 h
    rw [opRaw_ok h, lift_ok h]
    have sq : ∀ n : Int, okn n = true → n.natAbs * n.natAbs ≤ 21267647932558653966460912964485513216 := fun n hn => by
      have i := okn_iff.1 hn
      have := Nat.mul_le_mul (show n.natAbs ≤ 4611686018427387904 by omega) (show n.natAbs ≤ 4611686018427387904 by omega)
      omega
    have s1 := sq a h1
    have s2 := sq b h2
    have s3 := sq c h3
    obtain ⟨x1, y1, e1, p1, q1, r1, t1⟩ := normStep_eq (n := a) (hi := 0) (lo := 0) (rng_of h1) (by omega) (by omega) (by omega) (fun hi lo => normStep sz mulHi aduI adcI b hi lo fun hi lo => normStep sz mulHi aduI adcI c hi lo fun hi lo => normK hi lo false) (by omega)
    obtain ⟨x2, y2, e2, p2, q2, r2, t2⟩ := normStep_eq (n := b) (hi := x1) (lo := y1) (rng_of h2) p1 q1 r1 (fun hi lo => normStep sz mulHi aduI adcI c hi lo fun hi lo => normK hi lo false) (by omega)
    obtain ⟨x3, y3, e3, p3, q3, r3, t3⟩ := normStep_eq (n := c) (hi := x2) (lo := y2) (rng_of h3) p2 q2 r2 (fun hi lo => normK hi lo false) (by omega)
    refine Eq.trans (e1.trans (e2.trans e3)) ?_
    have hroot := rootI_eq p3 (by omega) q3 r3
    have hN : x3.toNat * 18446744073709551616 + y3.toNat = a.natAbs * a.natAbs + b.natAbs * b.natAbs + c.natAbs * c.natAbs := by omega
    rw [hN] at hroot
    have hr := (isq_ok (N := a.natAbs * a.natAbs + b.natAbs * b.natAbs + c.natAbs * c.natAbs) (by
      have : (2 : Nat) ^ 128 = 340282366920938463463374607431768211456 := by kernel_rfl
      rw [this]; omega)).1
    have hle : isq (a.natAbs * a.natAbs + b.natAbs * b.natAbs + c.natAbs * c.natAbs) ≤ 9223372036854775807 := by
      apply Nat.le_of_not_lt
      intro hlt
      have := Nat.mul_self_le_mul_self (show 9223372036854775808 ≤ isq (a.natAbs * a.natAbs + b.natAbs * b.natAbs + c.natAbs * c.natAbs) by omega)
      omega
    exact (normK_eq hroot hle false).trans (norm_end _)

/-! ### The contracts -/
theorem int2_some {f : Int → Int → Bool → Int × Bool} {args : List AV} {g : Bool → AV × Bool} (h : int2 f args = some g) : ∃ a b, args = [.int .i64 a, .int .i64 b] ∧ ∀ bad, some (g bad) = av (f a b bad) := by
  unfold int2 at h
  split at h <;> cases h
  exact ⟨_, _, rfl, fun _ => rfl⟩
theorem int3_some {f : Int → Int → Int → Bool → Int × Bool} {args : List AV} {g : Bool → AV × Bool} (h : int3 f args = some g) : ∃ a b c, args = [.int .i64 a, .int .i64 b, .int .i64 c] ∧ ∀ bad, some (g bad) = av (f a b c bad) := by
  unfold int3 at h
  split at h <;> cases h
  exact ⟨_, _, _, rfl, fun _ => rfl⟩
theorem int1_some {f : Int → Bool → Int × Bool} {args : List AV} {g : Bool → AV × Bool} (h : int1 f args = some g) : ∃ a, args = [.int .i64 a] ∧ ∀ bad, some (g bad) = av (f a bad) := by
  unfold int1 at h
  split at h <;> cases h
  exact ⟨_, rfl, fun _ => rfl⟩

/-- A method's contract. -/
abbrev Meth (f : FuncId) (F : List AV → Option (Bool → AV × Bool)) : Prop := EffOk Tryz.prog f (fun _ => true) (flowSpec 112 F)

theorem base_ok {ad : Int → Int → Bool → Int × Bool} (hA : Meth 76 (int2 ad)) : EnvOk Tryz.prog (envM sz sb mulHi ratF ad rootI aduI adcI) :=
  EnvOk.t (EnvOk.e (EnvOk.t (EnvOk.t (EnvOk.p (EnvOk.p (EnvOk.p (EnvOk.x (EnvOk.e ok_nil en_add hA) add64_con) en_mul64 mul_ok) en_size size_ok) en_root root_con) en_fail) en_give) en_ratio ratio_con) en_take

/-- The part of the list that the sum's own text is read with. -/
def envA : Env := [(118, .text), (120, .text)]
theorem add_raw' (a b : Int) (bad : Bool) : acall Tryz.prog envA 60 76 [.ptr 0 0, .int .i64 a, .int .i64 b] [.cells [.bool bad] 112] (flowK 112) =
    opRaw bad [a, b] fun bad => bif (bif (bif !(!(bif a == 4611686018427387904 then b == 4611686018427387904 else false)) then true else decide (wr .i64 (a + b) > 4611686018427387904)) then true else decide (wr .i64 (a + b) < -4611686018427387904)) then some (.int .i64 0, true) else some (.int .i64 (wr .i64 (a + b)), bad) := by kernel_rfl
theorem add_con : Meth 76 (int2 add) := by
  have hE : EnvOk Tryz.prog envA := EnvOk.t (EnvOk.t ok_nil en_give) en_take
  refine flow_of hE 60 _ _ (fun _ => true) _ ?_
  intro args g _ h bad
  obtain ⟨a, b, rfl, hg⟩ := int2_some h
  rw [add_raw', add_plain, hg]
theorem sub_con : Meth 75 (int2 sub) := by
  refine flow_of (base_ok add_con) 60 _ _ (fun _ => true) _ ?_
  intro args g _ h bad
  obtain ⟨a, b, rfl, hg⟩ := int2_some h
  rw [sub_raw, sub_plain, hg]
theorem mul_con : Meth 127 (int2 mul) := by
  refine flow_of (base_ok add_con) 60 _ _ (fun _ => true) _ ?_
  intro args g _ h bad
  obtain ⟨a, b, rfl, hg⟩ := int2_some h
  rw [mul_raw, mul_plain, hg]
theorem div_meth : Meth 125 (int2 div) := by
  refine flow_of (base_ok add_con) 60 _ _ (fun _ => true) _ ?_
  intro args g _ h bad
  obtain ⟨a, b, rfl, hg⟩ := int2_some h
  rw [div_raw2, div_plain, hg]
theorem mod_con : Meth 131 (int2 mod) := by
  refine flow_of (base_ok add_con) 60 _ _ (fun _ => true) _ ?_
  intro args g _ h bad
  obtain ⟨a, b, rfl, hg⟩ := int2_some h
  rw [mod_raw, mod_plain, hg]
theorem part_con : Meth 74 (int3 part) := by
  refine flow_of (base_ok add_con) 60 _ _ (fun _ => true) _ ?_
  intro args g _ h bad
  obtain ⟨a, b, c, rfl, hg⟩ := int3_some h
  rw [part_raw, part_plain, hg]
theorem norm_con : Meth 121 (int3 norm) := by
  refine flow_of (base_ok add_con) 60 _ _ (fun _ => true) _ ?_
  intro args g _ h bad
  obtain ⟨a, b, c, rfl, hg⟩ := int3_some h
  rw [norm_raw]
  refine Eq.trans (norm_plain a b c bad) (hg bad).symm
theorem sqrt_con : Meth 126 (int1 sqrt) := by
  refine flow_of (base_ok add_con) 60 _ _ (fun _ => true) _ ?_
  intro args g _ h bad
  obtain ⟨a, rfl, hg⟩ := int1_some h
  rw [sqrt_raw, sqrt_plain, hg]

end Go.Proofs.YtdojnnlhaiennaaGreat.Fx

/- Counts of the mode, and where faults lead: contracts. Conditions: none. -/
namespace Go.Proofs.YtdojnnlhaiennaaGreat.Md
open Go Go.Proofs.YtdojnnlhaiennaaGreat.Ae Go.Proofs.YtdojnnlhaiennaaGreat.Fx

abbrev J (n : Int) : AV := .int .i64 n
/-- A count, one on or begun anew. -/
def agn (n : Int) (so : Bool) : Int := bif so then (bif decide (n < 100) then wr .i64 (n + 1) else 100) else 0
def agF (args : List AV) (H : List AB) : Option (AV × AB) :=
  match args with
  | [.ptr w o, .bool so, .int .i64 most] =>
    match H[w]? with
    | some (.cells [.int .i64 a, .int .i64 b, .int .i64 c, .int .i64 d, .int .i64 e, .int .i64 f] t) =>
      bif Nat.beq t 28 then
        match o with
        | 1 => some (.bool (decide (agn b so ≥ most)), .cells [J a, J (agn b so), J c, J d, J e, J f] 28)
        | 2 => some (.bool (decide (agn c so ≥ most)), .cells [J a, J b, J (agn c so), J d, J e, J f] 28)
        | 3 => some (.bool (decide (agn d so ≥ most)), .cells [J a, J b, J c, J (agn d so), J e, J f] 28)
        | 4 => some (.bool (decide (agn e so ≥ most)), .cells [J a, J b, J c, J d, J (agn e so), J f] 28)
        | _ => none
      else none
    | _ => none
  | _ => none
theorem ag_1 (so : Bool) (most a b c d e f : Int) : acall Tryz.prog [] 100 159 [.ptr 0 1, .bool so, J most] [AB.cells [J a, J b, J c, J d, J e, J f] 28] locK = some (.bool (decide (agn b so ≥ most)), AB.cells [J a, J (agn b so), J c, J d, J e, J f] 28) := by
  have h : acall Tryz.prog [] 100 159 [.ptr 0 1, .bool so, J most] [AB.cells [J a, J b, J c, J d, J e, J f] 28] locK = (bif !so then some (.bool (decide ((0 : Int) ≥ most)), AB.cells [J a, J 0, J c, J d, J e, J f] 28) else some (.bool (decide ((bif decide (b < 100) then wr .i64 (b + 1) else 100) ≥ most)), AB.cells [J (bif decide (b < 100) then a else a), J (bif decide (b < 100) then wr .i64 (b + 1) else 100), J (bif decide (b < 100) then c else c), J (bif decide (b < 100) then d else d), J (bif decide (b < 100) then e else e), J (bif decide (b < 100) then f else f)] 28)) := by kernel_rfl
  rw [h]
  unfold agn
  cases so
  · rfl
  · cases decide (b < 100) <;> rfl
theorem ag_2 (so : Bool) (most a b c d e f : Int) : acall Tryz.prog [] 100 159 [.ptr 0 2, .bool so, J most] [AB.cells [J a, J b, J c, J d, J e, J f] 28] locK = some (.bool (decide (agn c so ≥ most)), AB.cells [J a, J b, J (agn c so), J d, J e, J f] 28) := by
  have h : acall Tryz.prog [] 100 159 [.ptr 0 2, .bool so, J most] [AB.cells [J a, J b, J c, J d, J e, J f] 28] locK = (bif !so then some (.bool (decide ((0 : Int) ≥ most)), AB.cells [J a, J b, J 0, J d, J e, J f] 28) else some (.bool (decide ((bif decide (c < 100) then wr .i64 (c + 1) else 100) ≥ most)), AB.cells [J (bif decide (c < 100) then a else a), J (bif decide (c < 100) then b else b), J (bif decide (c < 100) then wr .i64 (c + 1) else 100), J (bif decide (c < 100) then d else d), J (bif decide (c < 100) then e else e), J (bif decide (c < 100) then f else f)] 28)) := by kernel_rfl
  rw [h]
  unfold agn
  cases so
  · rfl
  · cases decide (c < 100) <;> rfl
theorem ag_3 (so : Bool) (most a b c d e f : Int) : acall Tryz.prog [] 100 159 [.ptr 0 3, .bool so, J most] [AB.cells [J a, J b, J c, J d, J e, J f] 28] locK = some (.bool (decide (agn d so ≥ most)), AB.cells [J a, J b, J c, J (agn d so), J e, J f] 28) := by
  have h : acall Tryz.prog [] 100 159 [.ptr 0 3, .bool so, J most] [AB.cells [J a, J b, J c, J d, J e, J f] 28] locK = (bif !so then some (.bool (decide ((0 : Int) ≥ most)), AB.cells [J a, J b, J c, J 0, J e, J f] 28) else some (.bool (decide ((bif decide (d < 100) then wr .i64 (d + 1) else 100) ≥ most)), AB.cells [J (bif decide (d < 100) then a else a), J (bif decide (d < 100) then b else b), J (bif decide (d < 100) then c else c), J (bif decide (d < 100) then wr .i64 (d + 1) else 100), J (bif decide (d < 100) then e else e), J (bif decide (d < 100) then f else f)] 28)) := by kernel_rfl
  rw [h]
  unfold agn
  cases so
  · rfl
  · cases decide (d < 100) <;> rfl
theorem ag_4 (so : Bool) (most a b c d e f : Int) : acall Tryz.prog [] 100 159 [.ptr 0 4, .bool so, J most] [AB.cells [J a, J b, J c, J d, J e, J f] 28] locK = some (.bool (decide (agn e so ≥ most)), AB.cells [J a, J b, J c, J d, J (agn e so), J f] 28) := by
  have h : acall Tryz.prog [] 100 159 [.ptr 0 4, .bool so, J most] [AB.cells [J a, J b, J c, J d, J e, J f] 28] locK = (bif !so then some (.bool (decide ((0 : Int) ≥ most)), AB.cells [J a, J b, J c, J d, J 0, J f] 28) else some (.bool (decide ((bif decide (e < 100) then wr .i64 (e + 1) else 100) ≥ most)), AB.cells [J (bif decide (e < 100) then a else a), J (bif decide (e < 100) then b else b), J (bif decide (e < 100) then c else c), J (bif decide (e < 100) then d else d), J (bif decide (e < 100) then wr .i64 (e + 1) else 100), J (bif decide (e < 100) then f else f)] 28)) := by kernel_rfl
  rw [h]
  unfold agn
  cases so
  · rfl
  · cases decide (e < 100) <;> rfl
theorem again_con : EffOk Tryz.prog 159 (fun _ => true) (seeSpec agF) := by
  refine loc_of ok_nil 100 _ agF ?_
  intro w o rest H v B1 hF
  unfold agF at hF
  split at hF
  · rename_i w' o' so most heq
    cases heq
    split at hF
    · rename_i a b c d e f t hH
      cases hb : Nat.beq t 28 with
      | false => rw [hb] at hF; cases hF
      | true =>
        rw [hb] at hF
        obtain rfl := Nat.eq_of_beq_eq_true hb
        simp only [cond_true] at hF
        refine ⟨_, hH, rfl, ?_⟩
        split at hF
        · cases hF; exact ⟨rfl, rfl, rfl, ag_1 so most a b c d e f⟩
        · cases hF; exact ⟨rfl, rfl, rfl, ag_2 so most a b c d e f⟩
        · cases hF; exact ⟨rfl, rfl, rfl, ag_3 so most a b c d e f⟩
        · cases hF; exact ⟨rfl, rfl, rfl, ag_4 so most a b c d e f⟩
        · cases hF
    · cases hF
  · cases hF

/-! ### A map that is made -/
def mkK (v : AV) (H : List AB) : Option AB :=
  match v, H with
  | .map 0, [B] => some B
  | _, _ => none
def flatE : List (MK × AV) → Bool
  | [] => true
  | e :: l => e.2.noPtr && flatE l
theorem RE_flat {m m' : List Nat} {two : Bool} : ∀ {l : List (MK × AV)} {es : List MapEntry}, flatE l = true → RE m two l es → RE m' two l es
  | [], _, _, h => h
  | (k, v) :: l, _, hf, ⟨e, es', h1, h2, h3, h4⟩ => by
    simp only [flatE, Bool.and_eq_true] at hf
    exact ⟨e, es', h1, h2, R_noPtr v hf.1 h3, RE_flat hf.2 h4⟩
theorem flatE_mem : ∀ {l : List (MK × AV)}, (∀ e ∈ l, e.2.noPtr = true) → flatE l = true
  | [], _ => rfl
  | e :: l, h => by simp only [flatE, Bool.and_eq_true]; exact ⟨h e (by simp), flatE_mem fun e' he => h e' (by simp [he])⟩
theorem flatE_all : ∀ {l : List (MK × AV)}, flatE l = true → ∀ e ∈ l, e.2.noPtr = true
  | [], _, e, he => by cases he
  | a :: l, h, e, he => by
    simp only [flatE, Bool.and_eq_true] at h
    rcases List.mem_cons.1 he with rfl | he
    · exact h.1
    · exact flatE_all h.2 e he
def mkF (B : AB) : List AV → Option (Nat → AV × AB)
  | [] => some fun n => (.map n, B)
  | _ => none
theorem mk_of {P : Program} {env : Env} (hE : EnvOk P env) (fuel : Nat) (f : FuncId) (two : Bool) (es : List (MK × AV)) (hf : flatE es = true) (h : acall P env fuel f [] [] mkK = some (.map two es)) : EffOk P f (fun _ => true) (mkSpec (mkF (.map two es))) := by
  intro args H v H' _ hv m Args w hA hH
  unfold mkSpec mkF at hv
  split at hv
  · rename_i g hg
    split at hg
    · cases hg
      cases hv
      have hH0 : HR [] [] w := ⟨rfl, by simp, fun i B hB _ => by simp at hB⟩
      have hA0 : RL [] [] Args.toList := RL_nil.2 (RL_nil.1 hA)
      refine (acall_ok hE h hA0 hH0).mono fun e w' ⟨v, V, m', H3, e1, e2, e3, e4, e5⟩ => ?_
      unfold mkK at e5
      split at e5
      · rename_i B
        cases e5
        obtain ⟨b, o, h1, h2, h3, _⟩ := e3.all 0 _ rfl rfl
        have hm' : m' = [b] := by
          have hl := e3.len
          match m', hl, h1 with
          | [c], _, h1 => simp at h1; rw [h1]
        subst hm'
        obtain ⟨x, hx, hxs⟩ := e4.pre
        rw [List.nil_append] at hx
        subst hx
        have hb : w.heap.size ≤ b := by
          rcases hxs b (by simp) with h | h
          · exact h
          · cases h
        have hlt : ∀ {i c : Nat} {B : AB}, m[i]? = some c → H[i]? = some B → B.live = true → c < w.heap.size := by
          intro i c B hc hB hl
          obtain ⟨b', o', h1', h2', _⟩ := hH.all i B hB hl
          rw [hc] at h1'
          cases h1'
          exact (Array.getElem?_eq_some_iff.1 h2').1
        have hml := hH.len
        have split_ : ∀ {i : Nat} {D : AB} {c : Nat}, (H ++ [.map two es])[i]? = some D → (m ++ [b])[i]? = some c → (i < H.length ∧ H[i]? = some D ∧ m[i]? = some c) ∨ (i = H.length ∧ D = .map two es ∧ c = b) := by
          intro i D c hD hc
          rcases Nat.lt_or_ge i H.length with hi | hi
          · rw [List.getElem?_append_left hi] at hD
            rw [List.getElem?_append_left (by omega)] at hc
            exact .inl ⟨hi, hD, hc⟩
          · rw [List.getElem?_append_right hi] at hD
            rw [List.getElem?_append_right (by omega)] at hc
            have : i = H.length := by
              have := (List.getElem?_eq_some_iff.1 hD).1
              simp at this; omega
            subst this
            simp at hD
            rw [hml] at hc
            simp at hc
            exact .inr ⟨rfl, hD.symm, hc.symm⟩
        refine ⟨V, m ++ [b], e1, ?_, ⟨by simp [hml], ?_, ?_⟩, ⟨⟨[b], rfl, fun c hc => by simp at hc; subst hc; exact .inl hb⟩, e4.os, e4.tape, e4.output, e4.size, fun k hk _ => e4.block k hk (by simp)⟩⟩
        · simp only [R] at e2 ⊢
          obtain ⟨c, hc, hV⟩ := e2
          simp at hc
          subst hc
          exact ⟨b, by rw [← hml]; simp, hV⟩
        · intro i j c B C h1 h2 h3 h4 h5 h6
          rcases split_ h3 h1 with ⟨a1, a2, a3⟩ | ⟨a1, a2, a3⟩ <;> rcases split_ h4 h2 with ⟨b1, b2, b3⟩ | ⟨b1, b2, b3⟩
          · exact hH.nodup i j c B C a3 b3 a2 b2 h5 h6
          · have := hlt a3 a2 h5; omega
          · have := hlt b3 b2 h6; omega
          · omega
        · intro i D hD hl
          have hi : i < (m ++ [b]).length := by
            have := (List.getElem?_eq_some_iff.1 hD).1
            simp at this ⊢; omega
          rcases split_ hD (List.getElem?_eq_getElem hi) with ⟨a1, a2, a3⟩ | ⟨a1, a2, a3⟩
          · obtain ⟨c, o', g1, g2, g3, g4⟩ := hH.all i D a2 hl
            refine ⟨c, o', get_mono [b] g1, ?_, RB_mono [b] g3, capAt_mono [b] g4⟩
            rw [e4.block c (Array.getElem?_eq_some_iff.1 g2).1 (by simp)]
            exact g2
          · subst a1; subst a2
            refine ⟨b, o, by rw [← hml]; simp, h2, ?_, trivial⟩
            obtain ⟨ess, clock, es', q1, q2, q3, q4, q5⟩ := h3
            exact ⟨ess, clock, es', q1, q2, RE_flat (flatE_mem fun e he => flatE_all hf e (q2.mem_iff.1 he)) q3, q4, q5⟩
      · cases e5
    · cases hg
  · cases hv
def leadsE : List (MK × AV) := [((1, 1), J 1), ((2, 1), J 1), ((2, 2), J 1), ((2, 4), J 1), ((2, 8), J 1)]
theorem leads_raw : acall Tryz.prog [] 100 158 [] [] mkK = some (.map true leadsE) := by kernel_rfl
theorem leads_con : EffOk Tryz.prog 158 (fun _ => true) (mkSpec (mkF (.map true leadsE))) := mk_of ok_nil 100 _ true leadsE rfl leads_raw
end Go.Proofs.YtdojnnlhaiennaaGreat.Md

/- The next plan: a contract. Conditions: none. -/
namespace Go.Proofs.YtdojnnlhaiennaaGreat.Md
open Go Go.Proofs.YtdojnnlhaiennaaGreat.Ae Go.Proofs.YtdojnnlhaiennaaGreat.Fx

def agFv (ag : Int → Bool → Int) (args : List AV) (H : List AB) : Option (AV × AB) :=
  match args with
  | [.ptr w o, .bool so, .int .i64 most] =>
    match H[w]? with
    | some (.cells [.int .i64 a, .int .i64 b, .int .i64 c, .int .i64 d, .int .i64 e, .int .i64 f] t) =>
      bif Nat.beq t 28 then
        match o with
        | 1 => some (.bool (decide (ag b so ≥ most)), .cells [J a, J (ag b so), J c, J d, J e, J f] 28)
        | 2 => some (.bool (decide (ag c so ≥ most)), .cells [J a, J b, J (ag c so), J d, J e, J f] 28)
        | 3 => some (.bool (decide (ag d so ≥ most)), .cells [J a, J b, J c, J (ag d so), J e, J f] 28)
        | 4 => some (.bool (decide (ag e so ≥ most)), .cells [J a, J b, J c, J d, J (ag e so), J f] 28)
        | _ => none
      else none
    | _ => none
  | _ => none
theorem agFv_eq : agFv agn = agF := by
  funext args H
  unfold agFv agF
  rfl
structure Pl where
  (mode calm good miss lost faults : Int)
def Pl.av (p : Pl) : List AV := [J p.mode, J p.calm, J p.good, J p.miss, J p.lost, J p.faults]
def Pl.gone (p : Pl) (m : Int) : Pl := ⟨m, 0, 0, 0, 0, p.faults⟩
def Pl.fail (p : Pl) (x : Int) : Pl := ⟨1, 0, 0, 0, 0, bor .i64 p.faults x⟩
structure Sn where
  (gp gy sl pr li bd ps : Bool)
  order : Int
def Sn.av (s : Sn) : List AV := [.bool s.gp, .bool s.gy, .bool s.sl, .bool s.pr, .bool s.li, .bool s.bd, .bool s.ps, J s.order]
def goneF : List AV → Option AV
  | [.agg [.int .i64 _, .int .i64 _, .int .i64 _, .int .i64 _, .int .i64 _, .int .i64 f], .int .i64 m] => some (.agg [J m, J 0, J 0, J 0, J 0, J f])
  | [.agg [.intF .i64 _ _ _ _, .int .i64 _, .int .i64 _, .int .i64 _, .int .i64 _, .int .i64 f], .int .i64 m] => some (.agg [J m, J 0, J 0, J 0, J 0, J f])
  | _ => none
theorem gone_raw (a b c d e f m : Int) : acall Tryz.prog [] 100 156 [.agg [J a, J b, J c, J d, J e, J f], J m] [] (fun v _ => bif v.noPtr then some v else none) = some (.agg [J m, J 0, J 0, J 0, J 0, J f]) := by kernel_rfl
theorem gone_rawF (a b c d e f m : Int) (lo hi ex : List Int) : acall Tryz.prog [] 100 156 [.agg [.intF .i64 a lo hi ex, J b, J c, J d, J e, J f], J m] [] (fun v _ => bif v.noPtr then some v else none) = some (.agg [J m, J 0, J 0, J 0, J 0, J f]) := by kernel_rfl
theorem gone_con : PureOk Tryz.prog 156 anyArgs goneF := by
  refine pure_of ok_nil 100 _ _ _ fun args v _ hv => ?_
  unfold goneF at hv
  split at hv
  · cases hv
    exact ⟨rfl, rfl, gone_raw ..⟩
  · cases hv
    exact ⟨rfl, rfl, gone_rawF ..⟩
  · cases hv
def envN (ag : Int → Bool → Int) : Env := [(159, .see (agFv ag)), (158, .mk (mkF (.map true leadsE))), (156, .pure anyArgs goneF), (157, .text)]
theorem ok_N : EnvOk Tryz.prog (envN agn) := by
  refine EnvOk.cons (s := .see _) ⟨enter_of Tryz.func159 (by kernel_rfl) rfl, ?_⟩ (EnvOk.cons (s := .mk _) ⟨enter_of Tryz.func158 (by kernel_rfl) rfl, leads_con⟩ (EnvOk.p (EnvOk.t ok_nil (enter_of Tryz.func157 (by kernel_rfl) rfl)) (enter_of Tryz.func156 (by kernel_rfl) rfl) gone_con))
  rw [agFv_eq]
  exact again_con
abbrev okN (v : AV) (_ : List AB) : Option AV := bif v.noPtr then some v else none

/-! ### The trees -/
def sm (a b c d e f : Int) : Option AV := some (.agg [J a, J b, J c, J d, J e, J f])
/-- Where a fault leads in a mode. -/
def ld (a x : Int) : Int := bif keqB (a, x) (1, 1) then 1 else bif keqB (a, x) (2, 1) then 1 else bif keqB (a, x) (2, 2) then 1 else bif keqB (a, x) (2, 4) then 1 else bif keqB (a, x) (2, 8) then 1 else 0
section
variable (ag : Int → Bool → Int) (b c d e f : Int) (s : Sn)
def out3 (a : Int) (X : Option AV) : Option AV := bif (bif bif s.order == 1 then true else decide (a < 0) then true else decide (a > 3)) then sm 3 0 0 0 0 f else X
theorem next_0 : acall Tryz.prog (envN ag) 200 86 [.agg [J 0, J b, J c, J d, J e, J f], .agg s.av] [] okN =
    out3 f s 0 (bif (bif s.gp then (0 : Int) != 0 else false) then sm (ld 0 1) 0 0 0 0 (bor .i64 f 1) else
      bif decide (ag b (bif s.gy then s.sl else false) ≥ 3) then sm 1 0 0 0 0 f else sm 0 (ag b (bif s.gy then s.sl else false)) c d e f) := by kernel_rfl
theorem next_1 : acall Tryz.prog (envN ag) 200 86 [.agg [J 1, J b, J c, J d, J e, J f], .agg s.av] [] okN =
    out3 f s 1 (bif (bif s.gp then (1 : Int) != 0 else false) then sm (ld 1 1) 0 0 0 0 (bor .i64 f 1) else
      bif (bif s.gy then !s.sl else false) then sm 0 0 0 0 0 f else
      bif decide (ag c (bif bif s.gy then s.pr else false then s.li else false) ≥ 2) then sm 2 0 0 0 0 f else sm 1 b (ag c (bif bif s.gy then s.pr else false then s.li else false)) d e f) := by kernel_rfl
theorem next_2 : acall Tryz.prog (envN ag) 200 86 [.agg [J 2, J b, J c, J d, J e, J f], .agg s.av] [] okN =
    out3 f s 2 (bif (bif s.gp then (2 : Int) != 0 else false) then sm (ld 2 1) 0 0 0 0 (bor .i64 f 1) else
      bif s.bd then sm (ld 2 4) 0 0 0 0 (bor .i64 f 4) else
      bif decide (ag e (!s.gy) ≥ 3) then sm (ld 2 2) 0 0 0 0 (bor .i64 f 2) else
      bif s.pr then
        (bif (bif true then s.li else false) then
          (bif (bif true then decide (ag d (!s.ps) ≥ 5) else false) then sm (ld 2 8) 0 0 0 0 (bor .i64 f 8) else sm 2 b c (ag d (!s.ps)) (ag e (!s.gy)) f)
        else sm 2 b c d (ag e (!s.gy)) f)
      else sm 2 b c d (ag e (!s.gy)) f) := by kernel_rfl
theorem next_3 : acall Tryz.prog (envN ag) 200 86 [.agg [J 3, J b, J c, J d, J e, J f], .agg s.av] [] okN =
    out3 f s 3 (bif s.order == 2 then sm 0 0 0 0 0 0 else sm 3 b c d e f) := by kernel_rfl
end

/-! ### The plain function -/
def Pl.zero : Pl := ⟨0, 0, 0, 0, 0, 0⟩
def nextP (p : Pl) (s : Sn) : Pl :=
  if s.order = 1 then p.gone 3
  else if p.mode = 3 then (if s.order = 2 then Pl.zero else p)
  else if p.mode = 0 then
    (if agn p.calm (s.gy && s.sl) ≥ 3 then p.gone 1 else { p with calm := agn p.calm (s.gy && s.sl) })
  else if s.gp = true then p.fail 1
  else if p.mode = 1 then
    (if (s.gy && !s.sl) = true then p.gone 0
    else if agn p.good (s.gy && s.pr && s.li) ≥ 2 then p.gone 2 else { p with good := agn p.good (s.gy && s.pr && s.li) })
  else if s.bd = true then p.fail 4
  else if agn p.lost (!s.gy) ≥ 3 then p.fail 2
  else if (s.pr && s.li) = true then
    (if agn p.miss (!s.ps) ≥ 5 then p.fail 8 else { p with miss := agn p.miss (!s.ps), lost := agn p.lost (!s.gy) })
  else { p with lost := agn p.lost (!s.gy) }
def modeOk (a : Int) : Bool := decide (a = 0 ∨ a = 1 ∨ a = 2 ∨ a = 3)
def nextC (om : Int → Bool) : List AV → Bool
  | [.agg [.int .i64 a, .int .i64 _, .int .i64 _, .int .i64 _, .int .i64 _, .int .i64 _], .agg _] => om a
  | _ => false
def nextF (nx : Pl → Sn → Pl) : List AV → Option AV
  | [.agg [.int .i64 a, .int .i64 b, .int .i64 c, .int .i64 d, .int .i64 e, .int .i64 f], .agg [.bool gp, .bool gy, .bool sl, .bool pr, .bool li, .bool bd, .bool ps, .int .i64 o]] => some (.agg (nx ⟨a, b, c, d, e, f⟩ ⟨gp, gy, sl, pr, li, bd, ps, o⟩).av)
  | _ => none
theorem ldv : ld 1 1 = 1 ∧ ld 2 1 = 1 ∧ ld 2 2 = 1 ∧ ld 2 4 = 1 ∧ ld 2 8 = 1 := by decide
theorem out3_eq {f : Int} {s : Sn} {a : Int} {X : Option AV} (h : 0 ≤ a ∧ a ≤ 3) : out3 f s a X = if s.order = 1 then sm 3 0 0 0 0 f else X := by
  unfold out3
  rw [decide_eq_false (by omega : ¬ a < 0), decide_eq_false (by omega : ¬ a > 3)]
  by_cases ho : s.order = 1
  · rw [if_pos ho, ho]; rfl
  · rw [if_neg ho, show (s.order == 1) = false from beq_eq_false_iff_ne.2 ho, bf, bf, bf]
theorem band (x y : Bool) : (bif x then y else false) = (x && y) := by cases x <;> rfl
theorem bif_if {α : Type} (c : Bool) (x y : α) : (bif c then x else y) = if c = true then x else y := by cases c <;> rfl
theorem bifd {α : Type} (p : Prop) [Decidable p] (x y : α) : (bif decide p then x else y) = if p then x else y := by
  by_cases h : p
  · rw [decide_eq_true h, if_pos h, bt]
  · rw [decide_eq_false h, if_neg h, bf]
theorem if_out {α : Type} {p : Prop} [Decidable p] (f : Pl → α) (x y : Pl) : f (if p then x else y) = if p then f x else f y := by split <;> rfl
def pv (p : Pl) : Option AV := some (.agg p.av)
theorem next_eq (p : Pl) (s : Sn) (h : modeOk p.mode = true) : acall Tryz.prog (envN agn) 200 86 [.agg p.av, .agg s.av] [] okN = pv (nextP p s) := by
  obtain ⟨a, b, c, d, e, f⟩ := p
  obtain ⟨l1, l2, l3, l4, l5⟩ := ldv
  unfold nextP
  simp only [if_out pv]
  rcases of_decide_eq_true h with h | h | h | h <;> simp only at h <;> subst h
  · refine (next_0 agn b c d e f s).trans ?_
    rw [out3_eq (by omega), band, band, show ((0 : Int) != 0) = false from rfl, Bool.and_false, bf, bifd, if_neg (by omega : ¬ (0 : Int) = 3), if_pos rfl]
    rfl
  · refine (next_1 agn b c d e f s).trans ?_
    rw [out3_eq (by omega), band, band, band, band, show ((1 : Int) != 0) = true from rfl, Bool.and_true, bif_if, bif_if, bifd, if_neg (by omega : ¬ (1 : Int) = 3), if_neg (by omega : ¬ (1 : Int) = 0), if_pos (rfl : (1 : Int) = 1), l1]
    rfl
  · refine (next_2 agn b c d e f s).trans ?_
    rw [out3_eq (by omega), band, show ((2 : Int) != 0) = true from rfl, Bool.and_true, bt, bt, bif_if, bif_if, bifd, bif_if, bif_if, bifd, if_neg (by omega : ¬ (2 : Int) = 3), if_neg (by omega : ¬ (2 : Int) = 0), if_neg (by omega : ¬ (2 : Int) = 1), l2, l3, l4, l5]
    have e : ∀ X Y : Option AV, (if s.pr = true then (if s.li = true then X else Y) else Y) = if (s.pr && s.li) = true then X else Y := by
      intro X Y
      cases s.pr <;> cases s.li <;> rfl
    rw [e]
    rfl
  · refine (next_3 agn b c d e f s).trans ?_
    rw [out3_eq (by omega), bif_if, if_pos (rfl : (3 : Int) = 3)]
    simp only [beq_iff_eq]
    rfl
theorem next_con : PureOk Tryz.prog 86 (nextC modeOk) (nextF nextP) := by
  refine pure_of ok_N 200 _ _ _ fun args v hC hv => ?_
  unfold nextF at hv
  split at hv
  · rename_i a b c d e f gp gy sl pr li bd ps o
    cases hv
    exact ⟨rfl, rfl, next_eq ⟨a, b, c, d, e, f⟩ ⟨gp, gy, sl, pr, li, bd, ps, o⟩ hC⟩
  · cases hv
/-! ### What is kept -/
theorem next_safe (p : Pl) (s : Sn) (h : s.order = 1) : (nextP p s).mode = 3 := by unfold nextP; rw [if_pos h]; rfl
theorem next_mode (p : Pl) (s : Sn) (h : modeOk p.mode = true) : modeOk (nextP p s).mode = true := by
  have h0 := of_decide_eq_true h
  unfold nextP
  repeat' split
  all_goals first
    | exact h
    | rfl
theorem bor_15 : (List.range 16).all (fun n => [1, 2, 4, 8].all fun x => decide (0 ≤ bor .i64 (n : Int) x ∧ bor .i64 (n : Int) x ≤ 15)) = true := by decide +kernel
theorem bor_in {f x : Int} (h : 0 ≤ f ∧ f ≤ 15) (hx : x = 1 ∨ x = 2 ∨ x = 4 ∨ x = 8) : 0 ≤ bor .i64 f x ∧ bor .i64 f x ≤ 15 := by
  obtain ⟨n, rfl⟩ := Int.eq_ofNat_of_zero_le h.1
  have h1 := List.all_eq_true.1 bor_15 n (List.mem_range.2 (by omega))
  have h2 := List.all_eq_true.1 h1 x (by rcases hx with rfl | rfl | rfl | rfl <;> simp)
  exact of_decide_eq_true h2
theorem next_faults (p : Pl) (s : Sn) (h : 0 ≤ p.faults ∧ p.faults ≤ 15) : 0 ≤ (nextP p s).faults ∧ (nextP p s).faults ≤ 15 := by
  have h1 := bor_in h (.inl rfl : (1 : Int) = 1 ∨ _)
  have h2 := bor_in (x := 2) h (.inr (.inl rfl))
  have h4 := bor_in (x := 4) h (.inr (.inr (.inl rfl)))
  have h8 := bor_in (x := 8) h (.inr (.inr (.inr rfl)))
  unfold nextP
  repeat' split
  all_goals first
    | exact h
    | exact h1
    | exact h2
    | exact h4
    | exact h8
    | exact ⟨by decide, by decide⟩
end Go.Proofs.YtdojnnlhaiennaaGreat.Md

/- Loops of any count, by the interpreter's rounds; what is known of a state is forgotten, cut and told anew. Conditions: none. -/
namespace Go.Proofs.YtdojnnlhaiennaaGreat.Ae
open Go

/-- A state, seen from where a call began. -/
structure At (m0 : List Nat) (w0 : World) (n : Nat) (T : List (Nat × AV)) (H : List AB) (a : Act) (w : World) : Prop where
  ex : ∃ m, TR m n T a.tmps ∧ HR m H w ∧ Ext m0 w0 m w
  df : a.defers = []

/-- A piece of code, by the interpreter. -/
theorem At.code {P : Program} {env : Env} (hE : EnvOk P env) (fuel : Nat) {m0 : List Nat} {w0 : World} {n : Nat} {c : Code} {T T' : List (Nat × AV)} {H H' : List AB} {e : Ex}
    (h : acode P env fuel n c T H some3 = some (e, T', H')) {Q : Exit → Act → World → Prop} {a : Act} {w : World} (hs : At m0 w0 n T H a w)
    (hQ : ∀ a' w', At m0 w0 n T' H' a' w' → Q (exOf e) a' w') : c.wp P Q a w := by
  obtain ⟨⟨m, h1, h2, h3⟩, h4⟩ := hs
  refine (acode_both hE fuel).1 n c T H some3 _ h m a w Q h1 h2 h4 fun e' T2 H2 a' m' w' q1 q2 q3 q4 q5 => ?_
  cases q5
  exact hQ a' w' ⟨⟨m', q1, q2, h3.trans q3⟩, q4⟩

/-- A loop: from each state of a family a round leads to one with a smaller number, or out. -/
theorem At.loop {P : Program} {σ : Type} {c : Code} {Q : Exit → Act → World → Prop} (I : σ → Act → World → Prop) (μ : σ → Nat)
    (hstep : ∀ x a w, I x a w → c.wp P (Exit.then (fun a' w' => ∃ y, μ y < μ x ∧ I y a' w') Q) a w) (x : σ) {a : Act} {w : World} (h : I x a w) : (Code.loop c).wp P Q a w := by
  refine wp_loop_ghost (fun k a w => ∃ x, μ x = k ∧ I x a w) (μ x) ⟨x, rfl, h⟩ ?_
  rintro k a w ⟨y, rfl, hy⟩
  refine wp_mono (hstep y a w hy) ?_
  intro e a' w' hq
  cases e with
  | normal => obtain ⟨z, hz1, hz2⟩ := hq; exact ⟨μ z, hz1, z, rfl, hz2⟩
  | exit id => exact hq
  | goto l => exact hq
  | ret => exact hq
  | panic ch => exact hq
  | outgrown => exact hq

/-! ### Less is known -/
/-- What is kept of slots, where blocks from L on are forgotten. -/
def okT (L : Nat) (T : List (Nat × AV)) : List (Nat × AV) → Prop
  | [] => True
  | e :: l => (get T e.1 = e.2 ∧ e.2.trunc L = e.2) ∧ okT L T l
def AB.inL (L i : Nat) : AB → Prop
  | .cells l _ | .cst l _ | .ro l _ => AV.truncL L l = l
  | .row l _ | .rowz _ l _ => AV.truncL L l = l ∧ i + 1 < L
  | .map _ es => ∀ e ∈ es, e.2.trunc L = e.2
  | .tab f _ n _ => ∀ j, j < n → AV.truncL L (f j) = f j
  | .mapN _ _ _ => True
  | .tabO _ _ f _ n _ => ∀ j, j < n → AV.truncL L (f j) = f j
  | .bts _ _ _ => True
  | .dead => True
def okH (L : Nat) (H : List AB) : Nat → List AB → Prop
  | _, [] => True
  | i, B :: l => (B = .dead ∨ (H[i]? = some B ∧ B.inL L i)) ∧ okH L H (i + 1) l

theorem okT_get {L : Nat} {T : List (Nat × AV)} : ∀ {T2 : List (Nat × AV)}, okT L T T2 → ∀ i, get T2 i = .any ∨ (get T2 i = get T i ∧ (get T i).trunc L = get T i)
  | [], _, i => .inl rfl
  | e :: l, h, i => by
    obtain ⟨⟨h1, h2⟩, h3⟩ := h
    obtain ⟨d, v⟩ := e
    simp only [get]
    cases hb : Nat.beq d i with
    | false => exact okT_get h3 i
    | true =>
      obtain rfl := Nat.eq_of_beq_eq_true hb
      exact .inr ⟨h1.symm, by simp only at h1 h2; rw [h1]; exact h2⟩
theorem okH_get {L : Nat} {H : List AB} : ∀ {H2 : List AB} {k : Nat}, okH L H k H2 → ∀ i B, H2[i]? = some B → B.live = true → H[k + i]? = some B ∧ B.inL L (k + i)
  | [], _, _, i, B, hB, _ => by simp at hB
  | C :: l, k, h, i, B, hB, hl => by
    obtain ⟨h1, h2⟩ := h
    cases i with
    | zero =>
      simp at hB
      subst hB
      rcases h1 with rfl | h1
      · cases hl
      · exact h1
    | succ i =>
      have := okH_get h2 i B (by simpa using hB) hl
      rw [show k + 1 + i = k + (i + 1) by omega] at this
      exact this

theorem R_cut {m y : List Nat} {v : AV} {V : Value} (h : R (m ++ y) v V) (hv : v.trunc m.length = v) : R m v V := by have := R_trunc v h; rwa [hv] at this
theorem RL_cut {m y : List Nat} {l : List AV} {L : List Value} (h : RL (m ++ y) l L) (hv : AV.truncL m.length l = l) : RL m l L := by have := RL_trunc l h; rwa [hv] at this
theorem RE_cut {m y : List Nat} {two : Bool} : ∀ {l : List (MK × AV)} {es : List MapEntry}, (∀ e ∈ l, e.2.trunc m.length = e.2) → RE (m ++ y) two l es → RE m two l es
  | [], _, _, h => h
  | (k, v) :: l, _, hf, ⟨e, es', h1, h2, h3, h4⟩ => ⟨e, es', h1, h2, R_cut h3 (hf (k, v) (by simp)), RE_cut (fun e he => hf e (by simp [he])) h4⟩
theorem RB_cut {m y : List Nat} {B : AB} {o : Obj} {i : Nat} (h : RB (m ++ y) B o) (hB : B.inL m.length i) : RB m B o := by
  cases B with
  | cells l t => obtain ⟨Vs, h1, h2⟩ := h; exact ⟨Vs, h1, RL_cut h2 hB⟩
  | cst l t => obtain ⟨Vs, h1, h2⟩ := h; exact ⟨Vs, h1, RL_cut h2 hB⟩
  | ro l t => obtain ⟨Vs, fz, h1, h0, h2⟩ := h; exact ⟨Vs, fz, h1, h0, RL_cut h2 hB⟩
  | row l t => obtain ⟨Vs, h1, h0, h2⟩ := h; exact ⟨Vs, h1, h0, RL_cut h2 hB.1⟩
  | rowz z l t => obtain ⟨Vs, h1, h0, h2⟩ := h; exact ⟨Vs, h1, h0, RL_cut h2 hB.1⟩
  | map two es => obtain ⟨ess, c, es', h1, h0, h2, h3⟩ := h; exact ⟨ess, c, es', h1, h0, RE_cut (fun e he => hB e (h0.mem_iff.1 he)) h2, h3⟩
  | tab f k n t => obtain ⟨Vs, fz, h1, h2⟩ := h; exact ⟨Vs, fz, h1, fun i hi => ⟨(h2 i hi).1, (h2 i hi).2.1, RL_cut (h2 i hi).2.2 (hB i hi)⟩⟩
  | tabO ob o0 f k n t => obtain ⟨h0, Vs, fz, h1, h2⟩ := h; exact ⟨h0, Vs, fz, h1, fun i hi => ⟨(h2 i hi).1, (h2 i hi).2.1, RL_cut (h2 i hi).2.2 (hB i hi)⟩⟩
  | bts n g t => exact h
  | mapN n g p => obtain ⟨es, ess, c, es', h1, h0, h2, h3, h4, h5, h6⟩ := h; exact ⟨es, ess, c, es', h1, h0, RE_flat (fun e he => h5 e (h0.mem_iff.1 he)) h2, h3, h4, h5, h6⟩
  | dead => trivial
theorem capAt_cut {m y : List Nat} {i b : Nat} {o : Obj} {B : AB} (h : capAt (m ++ y) i b o B) (hB : B.inL m.length i) : capAt m i b o B := by
  cases B with
  | row l t => exact fun cs t fz e => get_back (h cs t fz e) hB.2
  | rowz z l t => exact fun cs t fz e => (h cs t fz e).imp fun c h => ⟨get_back h.1 hB.2, h.2⟩
  | _ => trivial

theorem At.keep {m0 : List Nat} {w0 : World} {n : Nat} {T T2 : List (Nat × AV)} {H H2 : List AB} {a : Act} {w : World} (hs : At m0 w0 n T H a w)
    (hL0 : m0.length ≤ H2.length) (hL : H2.length ≤ H.length) (hT : okT H2.length T T2) (hH : okH H2.length H 0 H2) : At m0 w0 n T2 H2 a w := by
  obtain ⟨⟨m, h1, h2, h3⟩, h4⟩ := hs
  have hml := h2.len
  have hm : m.take H2.length ++ m.drop H2.length = m := List.take_append_drop ..
  have hlen : (m.take H2.length).length = H2.length := by simp; omega
  refine ⟨⟨m.take H2.length, ⟨h1.1, fun i => ?_⟩, ⟨hlen, ?_, ?_⟩, ?_⟩, h4⟩
  · rcases okT_get hT i with h | ⟨h, h'⟩
    · rw [h]; simp only [R]
    · rw [h]
      refine R_cut (y := m.drop H2.length) ?_ (by rw [hlen]; exact h')
      rw [hm]
      exact h1.2 i
  · intro i j b B C g1 g2 g3 g4 g5 g6
    have e1 := (okH_get hH i B g3 g5).1
    have e2 := (okH_get hH j C g4 g6).1
    rw [Nat.zero_add] at e1 e2
    exact h2.nodup i j b B C (by rw [← hm]; exact get_mono _ g1) (by rw [← hm]; exact get_mono _ g2) e1 e2 g5 g6
  · intro i B hB hl
    obtain ⟨e1, e2⟩ := okH_get hH i B hB hl
    rw [Nat.zero_add] at e1 e2
    obtain ⟨b, o, g1, g2, g3, g4⟩ := h2.all i B e1 hl
    have hi : i < H2.length := (List.getElem?_eq_some_iff.1 hB).1
    rw [← hm] at g1 g3 g4
    exact ⟨b, o, get_back g1 (by omega), g2, RB_cut g3 (i := i) (by rw [hlen]; exact e2), capAt_cut g4 (by rw [hlen]; exact e2)⟩
  · obtain ⟨x, hx, hxs⟩ := h3.pre
    refine ⟨⟨x.take (H2.length - m0.length), ?_, fun b hb => hxs b (List.mem_of_mem_take hb)⟩, h3.os, h3.tape, h3.output, h3.size, h3.block⟩
    rw [hx, List.take_append, List.take_of_length_le hL0]

/-- A block told in another way. -/
theorem At.tell {m0 : List Nat} {w0 : World} {n : Nat} {T : List (Nat × AV)} {H : List AB} {a : Act} {w : World} (hs : At m0 w0 n T H a w) (i : Nat) (B B' : AB) (hB : H[i]? = some B) (hl : B.live = true)
    (hR : ∀ m o, RB m B o → RB m B' o) (hc : ∀ m b o, capAt m i b o B') : At m0 w0 n T (H.set i B') a w := by
  obtain ⟨⟨m, h1, h2, h3⟩, h4⟩ := hs
  have hi := (List.getElem?_eq_some_iff.1 hB).1
  have inv : ∀ (j : Nat) (D : AB), (H.set i B')[j]? = some D → D.live = true → ∃ E, H[j]? = some E ∧ E.live = true ∧ ((j = i ∧ D = B') ∨ E = D) := by
    intro j D hD hDl
    by_cases hij : i = j
    · subst hij
      simp [hi] at hD
      subst hD
      exact ⟨B, hB, hl, .inl ⟨rfl, rfl⟩⟩
    · rw [List.getElem?_set_ne hij] at hD; exact ⟨D, hD, hDl, .inr rfl⟩
  refine ⟨⟨m, h1, ⟨by rw [List.length_set]; exact h2.len, ?_, ?_⟩, h3⟩, h4⟩
  · intro j k b D E g1 g2 g3 g4 g5 g6
    obtain ⟨D', d1, d2, _⟩ := inv j D g3 g5
    obtain ⟨E', e1, e2, _⟩ := inv k E g4 g6
    exact h2.nodup j k b D' E' g1 g2 d1 e1 d2 e2
  · intro j D hD hDl
    obtain ⟨E, e1, e2, e3⟩ := inv j D hD hDl
    obtain ⟨b, o, g1, g2, g3, g4⟩ := h2.all j E e1 e2
    rcases e3 with ⟨rfl, rfl⟩ | rfl
    · rw [hB] at e1; cases e1
      exact ⟨b, o, g1, g2, hR m o g3, hc m b o⟩
    · exact ⟨b, o, g1, g2, g3, g4⟩

/-- Blocks ahead of the k-th are forgotten: the numbering begins there. -/
def AV.back (k : Nat) : AV → AV
  | .own i n => .own (i - k) n
  | .ptr i o => .ptr (i - k) o
  | v => v
def okS (k : Nat) (T : List (Nat × AV)) : List (Nat × AV) → Prop
  | [] => True
  | e :: l => ((∃ v, get T e.1 = v ∧ ((v.noPtr = true ∧ e.2 = v) ∨ (∃ i n, v = .own (k + i) n ∧ e.2 = .own i n) ∨ (∃ i o, v = .ptr (k + i) o ∧ e.2 = .ptr i o) ∨ (∃ i, v = .map (k + i) ∧ e.2 = .map i)))) ∧ okS k T l
def AB.flatB : AB → Prop
  | .cells l _ | .cst l _ | .ro l _ | .row l _ | .rowz _ l _ => AV.noPtrL l = true
  | .tab f _ n _ => ∀ j, j < n → AV.noPtrL (f j) = true
  | .map _ es => ∀ e ∈ es, e.2.noPtr = true
  | .mapN _ _ _ => True
  | .tabO _ _ f _ n _ => ∀ j, j < n → AV.noPtrL (f j) = true
  | .bts _ _ _ => True
  | .dead => True
theorem okS_get {k : Nat} {m1 m2 : List Nat} (hk : m1.length = k) {T : List (Nat × AV)} {n : Nat} {tmps : Array Value} (hT : TR (m1 ++ m2) n T tmps) : ∀ {T2 : List (Nat × AV)}, okS k T T2 → ∀ i, R m2 (get T2 i) (tmps.getD i undef)
  | [], _, i => by simp only [get, R]
  | e :: l, h, i => by
    obtain ⟨⟨v, h1, h2⟩, h3⟩ := h
    obtain ⟨d, u⟩ := e
    simp only [get]
    cases hb : Nat.beq d i with
    | false => exact okS_get hk hT h3 i
    | true =>
      obtain rfl := Nat.eq_of_beq_eq_true hb
      simp only [cond_true]
      have hv := hT.2 d
      simp only at h1 h2
      rw [h1] at hv
      rcases h2 with ⟨h4, rfl⟩ | ⟨i, n, rfl, rfl⟩ | ⟨i, o, rfl, rfl⟩ | ⟨i, rfl, rfl⟩
      · exact R_noPtr u h4 hv
      · simp only [R] at hv ⊢
        obtain ⟨b, c, e1, e2, e3⟩ := hv
        rw [List.getElem?_append_right (by omega)] at e1 e2
        exact ⟨b, c, by rw [← e1]; congr 1; omega, by rw [← e2]; congr 1; omega, e3⟩
      · simp only [R] at hv ⊢
        obtain ⟨b, e1, e2⟩ := hv
        rw [List.getElem?_append_right (by omega)] at e1
        exact ⟨b, by rw [← e1]; congr 1; omega, e2⟩
      · simp only [R] at hv ⊢
        obtain ⟨b, e1, e2⟩ := hv
        rw [List.getElem?_append_right (by omega)] at e1
        exact ⟨b, by rw [← e1]; congr 1; omega, e2⟩
theorem RB_flat {m m' : List Nat} {B : AB} {o : Obj} (h : RB m B o) (hB : B.flatB) : RB m' B o := by
  cases B with
  | cells l t => obtain ⟨Vs, h1, h2⟩ := h; exact ⟨Vs, h1, RL_noPtr l hB h2⟩
  | cst l t => obtain ⟨Vs, h1, h2⟩ := h; exact ⟨Vs, h1, RL_noPtr l hB h2⟩
  | ro l t => obtain ⟨Vs, fz, h1, h0, h2⟩ := h; exact ⟨Vs, fz, h1, h0, RL_noPtr l hB h2⟩
  | row l t => obtain ⟨Vs, h1, h0, h2⟩ := h; exact ⟨Vs, h1, h0, RL_noPtr l hB h2⟩
  | rowz z l t => obtain ⟨Vs, h1, h0, h2⟩ := h; exact ⟨Vs, h1, h0, RL_noPtr l hB h2⟩
  | map two es => obtain ⟨ess, c, es', h1, h0, h2, h3⟩ := h; exact ⟨ess, c, es', h1, h0, RE_flat (fun e he => hB e (h0.mem_iff.1 he)) h2, h3⟩
  | mapN n g p => obtain ⟨es, ess, c, es', h1, h0, h2, h3, h4, h5, h6⟩ := h; exact ⟨es, ess, c, es', h1, h0, RE_flat (fun e he => h5 e (h0.mem_iff.1 he)) h2, h3, h4, h5, h6⟩
  | tab f k n t => obtain ⟨Vs, fz, h1, h2⟩ := h; exact ⟨Vs, fz, h1, fun i hi => ⟨(h2 i hi).1, (h2 i hi).2.1, RL_noPtr _ (hB i hi) (h2 i hi).2.2⟩⟩
  | tabO ob o0 f k n t => obtain ⟨h0, Vs, fz, h1, h2⟩ := h; exact ⟨h0, Vs, fz, h1, fun i hi => ⟨(h2 i hi).1, (h2 i hi).2.1, RL_noPtr _ (hB i hi) (h2 i hi).2.2⟩⟩
  | bts n g t => exact h
  | dead => trivial
theorem capAt_back {m1 m2 : List Nat} {k i b : Nat} (hk : m1.length = k) {o : Obj} {B : AB} (h : capAt (m1 ++ m2) (k + i) b o B) : capAt m2 i b o B := by
  cases B with
  | row l t =>
    intro cs t fz e
    have := h cs t fz e
    rw [List.getElem?_append_right (by omega)] at this
    rw [← this]; congr 1; omega
  | rowz z l t =>
    intro cs t fz e
    obtain ⟨c, h1, h2⟩ := h cs t fz e
    rw [List.getElem?_append_right (by omega)] at h1
    exact ⟨c, by rw [← h1]; congr 1; omega, h2⟩
  | _ => trivial
theorem At.drop {w0 : World} {n : Nat} {T T2 : List (Nat × AV)} {H1 H2 : List AB} {a : Act} {w : World} (hs : At [] w0 n T (H1 ++ H2) a w) (hT : okS H1.length T T2) (hF : ∀ B ∈ H2, B.flatB) : At [] w0 n T2 H2 a w := by
  obtain ⟨⟨m, h1, h2, h3⟩, h4⟩ := hs
  have hml := h2.len
  rw [List.length_append] at hml
  have hm : m.take H1.length ++ m.drop H1.length = m := List.take_append_drop ..
  have hk : (m.take H1.length).length = H1.length := by simp; omega
  have at_ : ∀ i, (m.drop H1.length)[i]? = m[H1.length + i]? := fun i => by rw [List.getElem?_drop]
  have atH : ∀ i, H2[i]? = (H1 ++ H2)[H1.length + i]? := fun i => by rw [List.getElem?_append_right (by omega)]; congr 1; omega
  refine ⟨⟨m.drop H1.length, ⟨h1.1, fun i => ?_⟩, ⟨by simp; omega, ?_, ?_⟩, ?_⟩, h4⟩
  · rw [← hm] at h1
    exact okS_get hk h1 hT i
  · intro i j b B C g1 g2 g3 g4 g5 g6
    rw [at_] at g1 g2
    rw [atH] at g3 g4
    have := h2.nodup _ _ b B C g1 g2 g3 g4 g5 g6
    omega
  · intro i B hB hl
    have hmem := List.mem_of_getElem? hB
    rw [atH] at hB
    obtain ⟨b, o, g1, g2, g3, g4⟩ := h2.all _ B hB hl
    refine ⟨b, o, by rw [at_]; exact g1, g2, RB_flat g3 (hF B hmem), ?_⟩
    rw [← hm] at g4
    exact capAt_back hk g4
  · obtain ⟨x, hx, hxs⟩ := h3.pre
    rw [List.nil_append] at hx
    subst hx
    refine ⟨⟨m.drop H1.length, by simp, fun b hb => hxs b (List.mem_of_mem_drop hb)⟩, h3.os, h3.tape, h3.output, h3.size, h3.block⟩

/-! ### A call, by its body -/
theorem calls_at {P : Program} {fid : FuncId} {fn : Func} (hfn : P.funcs[fid]? = some fn) {c' : Code} (hc' : fn.body = some c') {args : List AV} (hle : args.length ≤ fn.ntmps) {m : List Nat} {H : List AB} {Args : Array Value} {w : World} (hA : RL m args Args.toList) (hH : HR m H w)
    {Q : Ending → World → Prop} (h : ∀ a, At m w fn.ntmps (mkT 0 args) H a w → c'.wp P (fun e a' w' => (e = .normal ∨ e = .ret) ∧ ∃ T' H' vs, At m w fn.ntmps T' H' a' w' ∧ ares P T' H' fn.results.toList = some vs ∧
      ∀ V m', R m' (tupOf vs) V → HR m' H' w' → Ext m w m' w' → Q (.returned V) w') a w) : Calls P fid Args w Q := by
  refine calls_of_wp hfn hc' (wp_mono (h _ ⟨⟨m, TR_enter hA hle, hH, Ext.refl m w⟩, rfl⟩) ?_)
  rintro e a' w' ⟨he, T', H', vs, ⟨⟨m', q1, q2, q3⟩, q4⟩, hv, hq⟩
  obtain ⟨V, h1, h2⟩ := results_ok q1 q2 hv
  rcases he with rfl | rfl
  · exact ⟨q4, V, h2, hq V m' h1 q2 q3⟩
  · exact ⟨q4, V, h2, hq V m' h1 q2 q3⟩
/-! ### Pieces of a function's text -/
def Code.isSeq : Code → Bool
  | .seq _ _ => true
  | _ => false
def Code.isBlock : Code → Bool
  | .block _ _ => true
  | _ => false
def Code.nav : List Nat → Code → Code
  | [], c => c
  | 0 :: l, .seq a _ => nav l a
  | 1 :: l, .seq _ b => nav l b
  | 2 :: l, .block _ c => nav l c
  | 3 :: l, .loop c => nav l c
  | 4 :: l, .cond _ a _ => nav l a
  | 5 :: l, .cond _ _ b => nav l b
  | _ :: _, c => c
def Code.blockId : Code → Nat
  | .block id _ => id
  | _ => 0
def bodyOf (P : Program) (f : FuncId) : Code :=
  match P.funcs[f]? with
  | some fn => fn.body.getD .skip
  | none => .skip
theorem wp_seqN {P : Program} {Q : Exit → Act → World → Prop} {a : Act} {w : World} {c : Code} (hc : Code.isSeq c = true) (h : (Code.nav [0] c).wp P (Exit.then ((Code.nav [1] c).wp P Q) Q) a w) : c.wp P Q a w := by
  match c, hc, h with
  | .seq _ _, _, h => exact wp_seq h
theorem wp_blockN {P : Program} {Q : Exit → Act → World → Prop} {a : Act} {w : World} {c : Code} (id : Nat) (hc : (Code.isBlock c && Nat.beq (Code.blockId c) id) = true) (h : (Code.nav [2] c).wp P (Exit.inBlock id Q) a w) : c.wp P Q a w := by
  match c, hc, h with
  | .block i _, hc, h =>
    simp only [Code.isBlock, Code.blockId, Bool.true_and] at hc
    obtain rfl := Nat.eq_of_beq_eq_true hc
    exact wp_block h
theorem inBlock_exit {id : Nat} {Q : Exit → Act → World → Prop} {a : Act} {w : World} (h : Q .normal a w) : Exit.inBlock id Q (.exit id) a w := by
  simp [Exit.inBlock, h]
theorem then_exit {id : Nat} {K : Act → World → Prop} {Q : Exit → Act → World → Prop} {a : Act} {w : World} (h : Q (.exit id) a w) : Exit.then K Q (exOf (.exit id)) a w := h
theorem then_normal {K : Act → World → Prop} {Q : Exit → Act → World → Prop} {a : Act} {w : World} (h : K a w) : Exit.then K Q (exOf .normal) a w := h
theorem then_ret {K : Act → World → Prop} {Q : Exit → Act → World → Prop} {a : Act} {w : World} (h : Q .ret a w) : Exit.then K Q (exOf .ret) a w := h
theorem then_retN {K : Act → World → Prop} {Q : Exit → Act → World → Prop} {a : Act} {w : World} (h : Q .ret a w) : Exit.then K Q .ret a w := h
theorem then_normalN {K : Act → World → Prop} {Q : Exit → Act → World → Prop} {a : Act} {w : World} (h : K a w) : Exit.then K Q .normal a w := h
theorem inBlock_ret {id : Nat} {Q : Exit → Act → World → Prop} {a : Act} {w : World} (h : Q .ret a w) : Exit.inBlock id Q .ret a w := h
theorem inBlock_normal {id : Nat} {Q : Exit → Act → World → Prop} {a : Act} {w : World} (h : Q .normal a w) : Exit.inBlock id Q .normal a w := h
theorem wp_as {P : Program} {Q : Exit → Act → World → Prop} {a : Act} {w : World} {c : Code} (c' : Code) (hc : c = c') (h : c'.wp P Q a w) : c.wp P Q a w := by rw [hc]; exact h
/-- What a round leaves in some slots. -/
def keepK (ks : List Nat) (e : Ex) (T : List (Nat × AV)) (H : List AB) : Option (Ex × List (Nat × AV) × List AB) := some (e, ks.map fun k => (k, get T k), H)
theorem get_keep (T : List (Nat × AV)) : ∀ (ks : List Nat) (i : Nat), get (ks.map fun k => (k, get T k)) i = .any ∨ get (ks.map fun k => (k, get T k)) i = get T i
  | [], i => .inl rfl
  | k :: ks, i => by
    simp only [List.map_cons, get]
    cases hb : Nat.beq k i with
    | false => exact get_keep T ks i
    | true => obtain rfl := Nat.eq_of_beq_eq_true hb; exact .inr rfl
theorem At.codeK {P : Program} {env : Env} (hE : EnvOk P env) (fuel : Nat) (ks : List Nat) {m0 : List Nat} {w0 : World} {n : Nat} {c : Code} {T T' : List (Nat × AV)} {H H' : List AB} {e : Ex}
    (h : acode P env fuel n c T H (keepK ks) = some (e, T', H')) {Q : Exit → Act → World → Prop} {a : Act} {w : World} (hs : At m0 w0 n T H a w)
    (hQ : ∀ a' w', At m0 w0 n T' H' a' w' → Q (exOf e) a' w') : c.wp P Q a w := by
  obtain ⟨⟨m, h1, h2, h3⟩, h4⟩ := hs
  refine (acode_both hE fuel).1 n c T H (keepK ks) _ h m a w Q h1 h2 h4 fun e' T2 H2 a' m' w' q1 q2 q3 q4 q5 => ?_
  cases q5
  refine hQ a' w' ⟨⟨m', ⟨q1.1, fun i => ?_⟩, q2, h3.trans q3⟩, q4⟩
  rcases get_keep T2 ks i with h | h
  · rw [h]; simp only [R]
  · rw [h]; exact q1.2 i
/-! ### Calls, by a function's number -/
def hasBody (P : Program) (f : FuncId) (nt : Nat) (res : List ResultVar) : Bool :=
  match P.funcs[f]? with
  | some fn => fn.body.isSome && Nat.beq fn.ntmps nt && (fn.results.toList.map fun r => match r with | .tmp t => (0, t, 0) | .cell a t => (1, a, t)) == (res.map fun r => match r with | .tmp t => (0, t, 0) | .cell a t => (1, a, t)) && !(fn.name == "runtime.NumGoroutine")
  | none => false
theorem res_inj : ∀ {l l' : List ResultVar}, (l.map fun (r : ResultVar) => match r with | .tmp t => ((0 : Nat), t, (0 : Nat)) | .cell a t => (1, a, t)) = (l'.map fun (r : ResultVar) => match r with | .tmp t => ((0 : Nat), t, (0 : Nat)) | .cell a t => (1, a, t)) → l = l'
  | [], [], _ => rfl
  | [], _ :: _, h => by cases h
  | _ :: _, [], h => by cases h
  | r :: l, r' :: l', h => by
    simp only [List.map_cons, List.cons.injEq] at h
    obtain ⟨h1, h2⟩ := h
    rw [res_inj h2]
    cases r <;> cases r' <;> simp_all
theorem hasBody_ok {P : Program} {f : FuncId} {nt : Nat} {res : List ResultVar} (h : hasBody P f nt res = true) : ∃ fn, P.funcs[f]? = some fn ∧ fn.body = some (bodyOf P f) ∧ fn.ntmps = nt ∧ fn.results.toList = res ∧ EnterOk P f := by
  unfold hasBody at h
  split at h
  · rename_i fn hfn
    simp only [Bool.and_eq_true] at h
    obtain ⟨⟨⟨h1, h2⟩, h3⟩, h4⟩ := h
    refine ⟨fn, hfn, ?_, Nat.eq_of_beq_eq_true h2, res_inj (by simpa using h3), enter_of hfn (by simpa using h4) ?_⟩
    · unfold bodyOf
      rw [hfn]
      cases hb : fn.body with
      | none => rw [hb] at h1; cases h1
      | some c => simp only [hb, Option.getD_some]
    · cases hb : fn.body with
      | none => rw [hb] at h1; cases h1
      | some c => rfl
  · cases h
/-- How a body is to end that gives v. -/
def Gives (P : Program) (w0 : World) (n : Nat) (res : List ResultVar) (v : AV) : Exit → Act → World → Prop := fun e a' w' =>
  (e = .normal ∨ e = .ret) ∧ ∃ T' H' vs, At [] w0 n T' H' a' w' ∧ ares P T' H' res = some vs ∧ tupOf vs = v
theorem pure_at {P : Program} {f : FuncId} {nt : Nat} {res : List ResultVar} (hb : hasBody P f nt res = true) {F : List AV → Option AV}
    (h : ∀ args v, F args = some v → v.noPtr = true ∧ AV.noPtrL args = true ∧ args.length ≤ nt ∧ ∀ w0 a, At [] w0 nt (mkT 0 args) [] a w0 → (bodyOf P f).wp P (Gives P w0 nt res v) a w0) : PureOk P f (fun _ => true) F := by
  obtain ⟨fn, hfn, hbd, rfl, rfl, _⟩ := hasBody_ok hb
  intro args v _ hv m Args w hA
  obtain ⟨h1, h2, h3, h4⟩ := h args v hv
  have hH : HR [] [] w := ⟨rfl, by simp, fun i B hB _ => by simp at hB⟩
  refine calls_at (m := []) hfn hbd h3 (RL_noPtr args h2 hA) hH fun a ha => wp_mono (h4 w a ha) ?_
  rintro e a' w' ⟨he, T', H', vs, q1, q2, rfl⟩
  exact ⟨he, T', H', vs, q1, q2, fun V m' r1 r2 r3 => ⟨V, rfl, R_noPtr _ h1 r1, r3.back⟩⟩
theorem enter_at {P : Program} {f : FuncId} {nt : Nat} {res : List ResultVar} (hb : hasBody P f nt res = true) : EnterOk P f := by
  obtain ⟨_, _, _, _, _, h⟩ := hasBody_ok hb
  exact h
end Go.Proofs.YtdojnnlhaiennaaGreat.Ae

/- Sums of bytes, the reference's: a contract. Conditions: none. -/
namespace Go.Proofs.YtdojnnlhaiennaaGreat.Cr
open Go Go.Proofs.YtdojnnlhaiennaaGreat.Ae Go.Proofs.YtdojnnlhaiennaaGreat.Fx

def bit1 (x : Int) : Int := bif decide (x ≥ 32768) then bxor .u16 (wr .u16 (x * 2)) 4129 else wr .u16 (x * 2)
def byte1 (r b : Int) : Int := bit1 (bit1 (bit1 (bit1 (bit1 (bit1 (bit1 (bit1 (bxor .u16 r (wr .u16 (wr .u16 b * 256))))))))))
def bytesI (s : ByteArray) : List Int := s.data.toList.map fun b => (b.toNat : Int)
def crcI (s : ByteArray) : Int := (bytesI s).foldl byte1 65535
def sumF : List AV → Option AV
  | [.str s] => bif Nat.ble s.size 100000 then some (.int .u16 (crcI s)) else none
  | _ => none

noncomputable def rsumB : Code := Code.nav [1, 1, 0, 1, 2, 3] (bodyOf Tryz.prog 29)
theorem rsum_round (s : ByteArray) (i : Nat) (r : Int) : acode Tryz.prog [] 100 32 rsumB [(0, .str s), (3, .int .u16 r), (4, .int .i64 i)] [] (keepK [0, 3, 4]) =
    bif decide ((i : Int) < s.size) then
      (bif ltN (i : Int) s.size then some (.normal, [(0, .str s), (3, .int .u16 (byte1 r ((s.data.getD (i : Int).toNat 0).toNat : Int))), (4, .int .i64 (wr .i64 ((i : Int) + 1)))], []) else none)
    else some (.exit 0, [(0, .str s), (3, .int .u16 r), (4, .int .i64 i)], []) := by kernel_rfl

def upto (s : ByteArray) (i : Nat) : Int := ((bytesI s).take i).foldl byte1 65535
theorem bytesI_len (s : ByteArray) : (bytesI s).length = s.size := by
  show (s.data.toList.map _).length = s.data.size
  rw [List.length_map, Array.length_toList]
theorem bytesI_get (s : ByteArray) (i : Nat) (h : i < s.size) : (bytesI s)[i]? = some ((s.data.getD i 0).toNat : Int) := by
  have h' : i < s.data.size := h
  unfold bytesI
  rw [List.getElem?_map, Array.getElem?_toList, Array.getElem?_eq_getElem h', Array.getD, dif_pos h']
  rfl
theorem take_step {α β : Type} (f : β → α → β) (b : β) (l : List α) (i : Nat) (x : α) (h : l[i]? = some x) : (l.take (i + 1)).foldl f b = f ((l.take i).foldl f b) x := by
  rw [List.take_add_one, h]
  simp
theorem upto_step (s : ByteArray) (i : Nat) (h : i < s.size) : upto s (i + 1) = byte1 (upto s i) ((s.data.getD i 0).toNat : Int) := take_step _ _ _ _ _ (bytesI_get s i h)
theorem upto_all (s : ByteArray) : upto s s.size = crcI s := by
  unfold upto crcI
  rw [← bytesI_len s, List.take_length]
theorem wr_next {i n : Nat} (h : i < n) (hn : n ≤ 100000) : wr .i64 ((i : Int) + 1) = ((i + 1 : Nat) : Int) := by
  show w64 _ = _
  unfold w64
  omega

theorem rsum_con : PureOk Tryz.prog 29 (fun _ => true) sumF := by
  refine pure_at (nt := 32) (res := [.tmp 2]) (by kernel_rfl) fun args v hv => ?_
  unfold sumF at hv
  split at hv
  · rename_i s
    cases hb : Nat.ble s.size 100000 with
    | false => rw [hb] at hv; cases hv
    | true =>
      rw [hb] at hv
      have hn := Nat.le_of_ble_eq_true hb
      cases hv
      refine ⟨rfl, rfl, Nat.le_of_ble_eq_true rfl, fun w0 a h0 => ?_⟩
      refine wp_seqN (by kernel_rfl) (At.codeK ok_nil 100 [0] (e := .normal) (T' := [(0, .str s)]) (H' := []) (by kernel_rfl) h0 fun a w hs => ?_)
      refine wp_seqN (by kernel_rfl) (At.codeK ok_nil 100 [0, 3] (e := .normal) (T' := [(0, .str s), (3, .int .u16 65535)]) (H' := []) (by kernel_rfl) hs fun a w hs => ?_)
      refine wp_seqN (by kernel_rfl) (wp_seqN (by kernel_rfl) (At.codeK ok_nil 100 [0, 3, 4] (e := .normal) (T' := [(0, .str s), (3, .int .u16 65535), (4, .int .i64 0)]) (H' := []) (by kernel_rfl) hs fun a w hs => ?_))
      refine wp_blockN 0 (by kernel_rfl) (wp_as (.loop rsumB) (by kernel_rfl) ?_)
      refine At.loop (σ := Nat) (fun i a w => i ≤ s.size ∧ At [] w0 32 [(0, .str s), (3, .int .u16 (upto s i)), (4, .int .i64 (i : Int))] [] a w) (fun i => s.size - i) ?_ 0 ⟨Nat.zero_le _, hs⟩
      rintro i a w ⟨hi, hs⟩
      have hr := rsum_round s i (upto s i)
      by_cases hlt : i < s.size
      · rw [decide_eq_true (by omega : (i : Int) < s.size), ltN_of (by omega : 0 ≤ (i : Int)) (by omega : (i : Int) < s.size)] at hr
        rw [show (i : Int).toNat = i from rfl, ← upto_step s i hlt, wr_next hlt hn] at hr
        exact At.codeK ok_nil 100 [0, 3, 4] hr hs fun a w hs => then_normal ⟨i + 1, by omega, by omega, hs⟩
      · rw [decide_eq_false (by omega : ¬ (i : Int) < s.size)] at hr
        refine At.codeK ok_nil 100 [0, 3, 4] hr hs fun a w hs => then_exit (inBlock_exit (then_normalN ?_))
        obtain rfl : i = s.size := by omega
        rw [upto_all] at hs
        refine At.codeK ok_nil 100 [2] (e := .ret) (T' := [(2, .int .u16 (crcI s))]) (H' := []) (by kernel_rfl) hs fun a w hs => ?_
        exact ⟨.inr rfl, _, _, _, hs, rfl, rfl⟩
  · cases hv
end Go.Proofs.YtdojnnlhaiennaaGreat.Cr
