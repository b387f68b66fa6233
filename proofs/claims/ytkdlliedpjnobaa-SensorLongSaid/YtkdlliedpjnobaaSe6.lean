/- The law of lengths of layer 12. Conditions: none. -/
import Derived.Test.YtkdlliedpjnobaaSe5
import Derived.Test.YtkdlliedpjnobaaNx2
namespace Go.Proofs.Ytkdlliedpjnobaa.Se
open Go Go.Proofs.Ytkdlliedpjnobaa.Ae Go.Proofs.Ytkdlliedpjnobaa.Fx Go.Proofs.Ytkdlliedpjnobaa.Lx Go.Proofs.Ytkdlliedpjnobaa.Tx Go.Proofs.Ytkdlliedpjnobaa.Ve Go.Proofs.Ytkdlliedpjnobaa.Te Go.Proofs.Ytkdlliedpjnobaa.Rx Go.Proofs.Ytkdlliedpjnobaa.Row Go.Proofs.Ytkdlliedpjnobaa.Nx

theorem cut_is {c : Bool} {r : Rdg} (h : (cut c r).2 = true) : c = true := by
  cases c
  · cases h
  · rfl
theorem p20 : p2 20 = 1048576 := by decide
/-- The sum of the squares, in units of 2^-20. -/
theorem sumI_eq {v : V3} (hx : -200000000 ≤ v.x / 1048576 ∧ v.x / 1048576 ≤ 200000000) (hy : -200000000 ≤ v.y / 1048576 ∧ v.y / 1048576 ≤ 200000000) (hz : -200000000 ≤ v.z / 1048576 ∧ v.z / 1048576 ≤ 200000000) :
    sumI v = v.x / 1048576 * (v.x / 1048576) + v.y / 1048576 * (v.y / 1048576) + v.z / 1048576 * (v.z / 1048576) := by
  have a1 := sq_le hx; have b1 := sq_le hy; have c1 := sq_le hz
  have a2 := sq_nonneg (v.x / 1048576); have b2 := sq_nonneg (v.y / 1048576); have c2 := sq_nonneg (v.z / 1048576)
  unfold sumI sq20
  rw [p20]
  generalize v.x / 1048576 * (v.x / 1048576) = a at *
  generalize v.y / 1048576 * (v.y / 1048576) = b at *
  generalize v.z / 1048576 * (v.z / 1048576) = c at *
  rw [w64_in (n := a) (by omega) (by omega), w64_in (n := b) (by omega) (by omega), w64_in (n := c) (by omega) (by omega), w64_in (n := 0 + a) (by omega) (by omega), w64_in (n := 0 + a + b) (by omega) (by omega), w64_in (by omega) (by omega)]
  omega
theorem long2 {g : Nat → Int} (h : (rd2 g).2 = true) : sumI (rd2 g).1.v > 1099494850560 ∧ sumI (rd2 g).1.v < 1099528404992 := by
  unfold rd2 at h ⊢
  dsimp only at h ⊢
  have hc := cut_is h
  rw [cut_yes h]
  simp only [Bool.and_eq_true, Bool.not_eq_true'] at hc
  obtain ⟨-, n, x, y, z, e, n0, n1, s1, s2, hx, hy, hz⟩ := unit_got hc.2
  rw [e]
  dsimp only
  obtain ⟨t1, t2⟩ := unit_sq n0 s1 s2 hx hy hz
  have px := sq_nonneg x; have py := sq_nonneg y; have pz := sq_nonneg z
  have bx : -1110000000000 ≤ x ∧ x ≤ 1110000000000 := le_of_sq (by omega) (by omega)
  have by' : -1110000000000 ≤ y ∧ y ≤ 1110000000000 := le_of_sq (by omega) (by omega)
  have bz : -1110000000000 ≤ z ∧ z ≤ 1110000000000 := le_of_sq (by omega) (by omega)
  rw [sumI_eq (v := ⟨x, y, z⟩) (by dsimp only; omega) (by dsimp only; omega) (by dsimp only; omega)]
  dsimp only
  obtain ⟨x1, x2⟩ := sq20_near (x := x) (Q := 1060000) rfl (by omega)
  obtain ⟨y1, y2⟩ := sq20_near (x := y) (Q := 1060000) rfl (by omega)
  obtain ⟨z1, z2⟩ := sq20_near (x := z) (Q := 1060000) rfl (by omega)
  generalize x / 1048576 * (x / 1048576) = a at *
  generalize y / 1048576 * (y / 1048576) = b at *
  generalize z / 1048576 * (z / 1048576) = c at *
  generalize x * x = X at *
  generalize y * y = Y at *
  generalize z * z = Z at *
  omega
theorem lift_none {bad : Bool} {l : List Int} {o : Option Int} (h : (lift bad l o).2 = true) : (lift bad l o).1 = 0 := by
  unfold lift at h ⊢
  split
  · rfl
  · rename_i hn; rw [if_neg hn] at h
    cases o
    · rfl
    · cases h
theorem long3 {g : Nat → Int} (h : (rd3 g).2 = true) : sumI (rd3 g).1.v > 1099494850560 ∧ sumI (rd3 g).1.v < 15832968513716224 := by
  unfold rd3 at h ⊢
  dsimp only at h ⊢
  have hc := cut_is h
  rw [cut_yes h]
  simp only [Bool.and_eq_true, decide_eq_true_eq] at hc
  obtain ⟨-, hl, hh⟩ := hc
  dsimp only
  generalize (fld g).1 = v at *
  have hb : (norm v.x v.y v.z (fld g).2).2 = false := by
    cases hb : (norm v.x v.y v.z (fld g).2).2 with
    | false => rfl
    | true =>
      have : (norm v.x v.y v.z (fld g).2).1 = 0 := lift_none hb
      omega
  obtain ⟨-, n, e, n0, n1, s1, s2⟩ := norm_got hb
  rw [e] at hl hh
  dsimp only at hl hh
  have px := sq_nonneg v.x; have py := sq_nonneg v.y; have pz := sq_nonneg v.z
  have up : (n + 1) * (n + 1) ≤ 131941395333121 * 131941395333121 := sq_le ⟨by omega, by omega⟩
  have lo : 1099511627776 * 1099511627776 ≤ n * n := Int.mul_le_mul hl hl (by decide) (by omega)
  have bx : -131941395333121 ≤ v.x ∧ v.x ≤ 131941395333121 := le_of_sq (by omega) (by omega)
  have by' : -131941395333121 ≤ v.y ∧ v.y ≤ 131941395333121 := le_of_sq (by omega) (by omega)
  have bz : -131941395333121 ≤ v.z ∧ v.z ≤ 131941395333121 := le_of_sq (by omega) (by omega)
  rw [sumI_eq (by omega) (by omega) (by omega)]
  have qx := sq_nonneg (v.x / 1048576); have qy := sq_nonneg (v.y / 1048576); have qz := sq_nonneg (v.z / 1048576)
  constructor
  · have big : ∀ q : Int, ¬ (-1048576 ≤ q ∧ q ≤ 1048576) → 1099511627776 ≤ q * q := fun q hq => by
      rcases (show q ≤ -1048576 ∨ 1048576 ≤ q by omega) with h | h
      · have := Int.mul_le_mul (show (1048576 : Int) ≤ -q by omega) (show (1048576 : Int) ≤ -q by omega) (by decide) (by omega)
        rw [Int.neg_mul_neg] at this
        omega
      · have := Int.mul_le_mul h h (by decide) (by omega)
        omega
    by_cases cx : -1048576 ≤ v.x / 1048576 ∧ v.x / 1048576 ≤ 1048576
    · by_cases cy : -1048576 ≤ v.y / 1048576 ∧ v.y / 1048576 ≤ 1048576
      · by_cases cz : -1048576 ≤ v.z / 1048576 ∧ v.z / 1048576 ≤ 1048576
        · obtain ⟨x1, x2⟩ := sq20_near (x := v.x) rfl cx
          obtain ⟨y1, y2⟩ := sq20_near (x := v.y) rfl cy
          obtain ⟨z1, z2⟩ := sq20_near (x := v.z) rfl cz
          generalize v.x / 1048576 * (v.x / 1048576) = a at *
          generalize v.y / 1048576 * (v.y / 1048576) = b at *
          generalize v.z / 1048576 * (v.z / 1048576) = c at *
          generalize v.x * v.x = X at *
          generalize v.y * v.y = Y at *
          generalize v.z * v.z = Z at *
          omega
        · have := big _ cz; omega
      · have := big _ cy; omega
    · have := big _ cx; omega
  · obtain ⟨x1, x2⟩ := sq20_near (x := v.x) (Q := 125829121) rfl (by omega)
    obtain ⟨y1, y2⟩ := sq20_near (x := v.y) (Q := 125829121) rfl (by omega)
    obtain ⟨z1, z2⟩ := sq20_near (x := v.z) (Q := 125829121) rfl (by omega)
    generalize v.x / 1048576 * (v.x / 1048576) = a at *
    generalize v.y / 1048576 * (v.y / 1048576) = b at *
    generalize v.z / 1048576 * (v.z / 1048576) = c at *
    generalize v.x * v.x = X at *
    generalize v.y * v.y = Y at *
    generalize v.z * v.z = Z at *
    omega
theorem long_plain (k : Int) (s : ByteArray) :
    (let r := readS k s
    bif !r.2 then some true else
    bif r.1.k == 2 then some (bif decide (sumI r.1.v > 1099494850560) then decide (sumI r.1.v < 1099528404992) else false) else
    bif r.1.k == 3 then some (bif decide (sumI r.1.v > 1099494850560) then decide (sumI r.1.v < 15832968513716224) else false) else some true) = some true := by
  dsimp only
  unfold readS
  split
  · cases h : (rd1 (gOf s)).2
    · rfl
    · have : (rd1 (gOf s)).1.k = 1 := by unfold rd1 at h ⊢; rw [cut_yes h]
      rw [this]; rfl
  · split
    · cases h : (rd3 (gOf s)).2
      · rfl
      · have e : (rd3 (gOf s)).1.k = 3 := by unfold rd3 at h ⊢; dsimp only at h ⊢; rw [cut_yes h]
        obtain ⟨l1, l2⟩ := long3 h
        rw [e, decide_eq_true l1, decide_eq_true l2]; rfl
    · split
      · cases h : (rd2 (gOf s)).2
        · rfl
        · have e : (rd2 (gOf s)).1.k = 2 := by unfold rd2 at h ⊢; dsimp only at h ⊢; rw [cut_yes h]
          obtain ⟨l1, l2⟩ := long2 h
          rw [e, decide_eq_true l1, decide_eq_true l2]; rfl
      · rfl
theorem slong_law (k : Int) (s : ByteArray) (w : World) : Calls Try.prog 12 #[.agg ⟨[.int .i64 k, .string s]⟩] w fun e w' => e = .returned (.bool true) ∧ Go.RowKit.Below w.heap.size w w' := by
  refine law_true envL12_ok ((slong_raw writeS writeS readS readS k s).trans (long_plain k s)) (RL.cons ?_ (RL_nil.2 rfl))
  simp only [R]
  exact ⟨_, rfl, RL.cons (R_int _ _ _) (RL.cons (R_str _ _) (RL_nil.2 rfl))⟩
#print axioms slong_law
end Go.Proofs.Ytkdlliedpjnobaa.Se
