/- The field's bounds over a quarter of the boxes, by the kernel. Conditions: none. -/
import Derived.Test.YtcagaaaibhifdaaJi
namespace Go.Proofs.Ytcagaaaibhifdaa.Fd
open Go Go.Proofs.Ytcagaaaibhifdaa.Ae Go.Proofs.Ytcagaaaibhifdaa.Fx
theorem boxes_a1 : chkAll27 ((latB.drop 0).take 8) = some () := by kernel_rfl
theorem boxes_a2 : chkAll27 ((latB.drop 8).take 8) = some () := by kernel_rfl
end Go.Proofs.Ytcagaaaibhifdaa.Fd

/- The field's bounds over a quarter of the boxes, by the kernel. Conditions: none. -/
namespace Go.Proofs.Ytcagaaaibhifdaa.Fd
open Go Go.Proofs.Ytcagaaaibhifdaa.Ae Go.Proofs.Ytcagaaaibhifdaa.Fx
theorem boxes_b1 : chkAll27 ((latB.drop 16).take 8) = some () := by kernel_rfl
theorem boxes_b2 : chkAll27 ((latB.drop 24).take 8) = some () := by kernel_rfl
end Go.Proofs.Ytcagaaaibhifdaa.Fd

/- The field's bounds over a quarter of the boxes, by the kernel. Conditions: none. -/
namespace Go.Proofs.Ytcagaaaibhifdaa.Fd
open Go Go.Proofs.Ytcagaaaibhifdaa.Ae Go.Proofs.Ytcagaaaibhifdaa.Fx
theorem boxes_c1 : chkAll27 ((latB.drop 32).take 8) = some () := by kernel_rfl
theorem boxes_c2 : chkAll27 ((latB.drop 40).take 8) = some () := by kernel_rfl
end Go.Proofs.Ytcagaaaibhifdaa.Fd

/- The field's bounds over a quarter of the boxes, by the kernel. Conditions: none. -/
namespace Go.Proofs.Ytcagaaaibhifdaa.Fd
open Go Go.Proofs.Ytcagaaaibhifdaa.Ae Go.Proofs.Ytcagaaaibhifdaa.Fx
theorem boxes_d1 : chkAll27 ((latB.drop 48).take 8) = some () := by kernel_rfl
theorem boxes_d2 : chkAll27 ((latB.drop 56).take 8) = some () := by kernel_rfl
end Go.Proofs.Ytcagaaaibhifdaa.Fd

/- The field at any place: its body, its size. Conditions: as each says. -/
namespace Go.Proofs.Ytcagaaaibhifdaa.Fd
open Go Go.Proofs.Ytcagaaaibhifdaa.Ae Go.Proofs.Ytcagaaaibhifdaa.Fx Go.Proofs.Ytcagaaaibhifdaa.Lx Go.Proofs.Ytcagaaaibhifdaa.Tx Go.Proofs.Ytcagaaaibhifdaa.Te Go.Proofs.Ytcagaaaibhifdaa.Rx Go.Proofs.Ytcagaaaibhifdaa.Row Go.Proofs.Ytcagaaaibhifdaa.Ve Go.Proofs.Ytcagaaaibhifdaa.Nx Go.Proofs.Ytcagaaaibhifdaa.Ns

/-! ### The ratio's powers -/
theorem rho_bd {r : Int} (h : 7012835794000 ≤ r ∧ r ≤ 9211859052000) : 836129617000 ≤ rho r ∧ rho r ≤ 1098315776000 := by
  obtain ⟨-, -, b⟩ := rho_is (r := r) ⟨by omega, by omega⟩
  constructor
  · refine Int.not_lt.1 fun hn => ?_
    have : rho r * r ≤ 836129616999 * r := Int.mul_le_mul_of_nonneg_right (by omega) (by omega)
    generalize rho r * r = p at *
    unfold Bd at b
    omega
  · refine Int.not_lt.1 fun hn => ?_
    have : 1098315776001 * r ≤ rho r * r := Int.mul_le_mul_of_nonneg_right (by omega) (by omega)
    generalize rho r * r = p at *
    unfold Bd at b
    omega
theorem tau_step {r : Int} (h : In01 (rho r)) (n : Nat) : Bd 1099511627776 (2 * (tau r (n + 1) * 1099511627776 - tau r n * rho r)) := by
  obtain ⟨x, hx, -, b⟩ := mul_01 (tau_in h n) h
  have e : tau r (n + 1) = x := by
    conv => lhs; unfold tau
    rw [hx]
  rw [e]; exact b
theorem tau1_lo {r : Int} (h : 7012835794000 ≤ r ∧ r ≤ 9211859052000) : 483455000000 ≤ tau r 1 := by
  obtain ⟨-, i, -⟩ := rho_is (r := r) ⟨by omega, by omega⟩
  obtain ⟨h0, -⟩ := rho_bd h
  have h1 : 635839000000 ≤ tau r 0 := by
    obtain ⟨x, hx, -, n⟩ := mul_01 i i
    have e : tau r 0 = x := by unfold tau; rw [hx]
    rw [e]
    have : (836129617000 : Int) * 836129617000 ≤ rho r * rho r := Int.mul_le_mul h0 h0 (by decide) (by omega)
    generalize rho r * rho r = p at *
    unfold Bd at n
    omega
  have n := tau_step i 0
  rw [Nat.zero_add] at n
  have : (635839000000 : Int) * 836129617000 ≤ tau r 0 * rho r := Int.mul_le_mul h1 h0 (by decide) (by omega)
  generalize tau r 0 * rho r = p at *
  unfold Bd at n
  omega
theorem sg_step {t n m ρ lo hi lo' hi' : Int} (ht : 483455000000 ≤ t) (h : InT t (lo, hi) (1099511627776 * n)) (hρ : 836129617000 ≤ ρ ∧ ρ ≤ 1098315776000) (hm : Bd 1099511627776 (2 * (m * 1099511627776 - n * ρ))) (hn : 0 ≤ n)
    (c0 : 0 ≤ lo) (c1 : 1208925819614629174706176 ≤ 966910000000 * (lo * 836129617000 - 1099511627776 * lo')) (c2 : 1208925819614629174706176 ≤ 966910000000 * (1099511627776 * hi' - hi * 1098315776000)) : InT t (lo', hi') (1099511627776 * m) := by
  unfold InT at *
  dsimp only at *
  obtain ⟨h1, h2⟩ := h
  have t0 : 0 ≤ t := by omega
  have a1 : t * lo * 836129617000 ≤ 1099511627776 * n * ρ := Int.mul_le_mul h1 hρ.1 (by decide) (by omega)
  have a2 : 1099511627776 * n * ρ ≤ t * hi * 1098315776000 := Int.mul_le_mul h2 hρ.2 (by omega) (by
    have : 0 ≤ 1099511627776 * n := by omega
    omega)
  have b1 : (483455000000 : Int) * (lo * 836129617000 - 1099511627776 * lo') ≤ t * (lo * 836129617000 - 1099511627776 * lo') := Int.mul_le_mul_of_nonneg_right ht (by omega)
  have b2 : (483455000000 : Int) * (1099511627776 * hi' - hi * 1098315776000) ≤ t * (1099511627776 * hi' - hi * 1098315776000) := Int.mul_le_mul_of_nonneg_right ht (by omega)
  have e1 : t * (lo * 836129617000 - 1099511627776 * lo') = t * lo * 836129617000 - 1099511627776 * (t * lo') := by grind
  have e2 : t * (1099511627776 * hi' - hi * 1098315776000) = 1099511627776 * (t * hi') - t * hi * 1098315776000 := by grind
  have e3 : 1099511627776 * n * ρ = 1099511627776 * (n * ρ) := by grind
  rw [e1] at b1
  rw [e2] at b2
  rw [e3] at a1 a2
  generalize n * ρ = p at *
  generalize t * lo = q1 at *
  generalize t * hi = q2 at *
  generalize t * lo' = q3 at *
  generalize t * hi' = q4 at *
  unfold Bd at hm
  constructor <;> omega
theorem sg_ok {r : Int} (h : 7012835794000 ≤ r ∧ r ≤ 9211859052000) : SgOk r := by
  obtain ⟨-, i, -⟩ := rho_is (r := r) ⟨by omega, by omega⟩
  have hρ := rho_bd h
  have ht := tau1_lo h
  have n1 : InT (tau r 1) (1099511627776, 1099511627776) (1099511627776 * tau r 1) := by unfold InT; dsimp only; omega
  have n2 : InT (tau r 1) (836129616998, 1098315776002) (1099511627776 * tau r 2) := sg_step ht n1 hρ (tau_step i 1) (tau_in i 1).1 (by decide) (by decide) (by decide)
  have n3 : InT (tau r 1) (635839329717, 1097121224861) (1099511627776 * tau r 3) := sg_step ht n2 hρ (tau_step i 2) (tau_in i 2).1 (by decide) (by decide) (by decide)
  have n4 : InT (tau r 1) (483527487839, 1095927972939) (1099511627776 * tau r 4) := sg_step ht n3 hρ (tau_step i 3) (tau_in i 3).1 (by decide) (by decide) (by decide)
  have n5 : InT (tau r 1) (367701116569, 1094736018822) (1099511627776 * tau r 5) := sg_step ht n4 hρ (tau_step i 4) (tau_in i 4).1 (by decide) (by decide) (by decide)
  have n6 : InT (tau r 1) (279620320512, 1093545361100) (1099511627776 * tau r 6) := sg_step ht n5 hρ (tau_step i 5) (tau_in i 5).1 (by decide) (by decide) (by decide)
  refine ⟨by omega, fun n hn => ?_⟩
  have : n = 1 ∨ n = 2 ∨ n = 3 ∨ n = 4 ∨ n = 5 ∨ n = 6 := by omega
  rcases this with rfl | rfl | rfl | rfl | rfl | rfl
  · exact n1
  · exact n2
  · exact n3
  · exact n4
  · exact n5
  · exact n6
#print axioms sg_ok
end Go.Proofs.Ytcagaaaibhifdaa.Fd

/- The size of the field, out of its three sums. Conditions: as each says. -/
namespace Go.Proofs.Ytcagaaaibhifdaa.Fd
open Go Go.Proofs.Ytcagaaaibhifdaa.Ae Go.Proofs.Ytcagaaaibhifdaa.Fx Go.Proofs.Ytcagaaaibhifdaa.Lx Go.Proofs.Ytcagaaaibhifdaa.Tx Go.Proofs.Ytcagaaaibhifdaa.Te Go.Proofs.Ytcagaaaibhifdaa.Rx Go.Proofs.Ytcagaaaibhifdaa.Row Go.Proofs.Ytcagaaaibhifdaa.Ve Go.Proofs.Ytcagaaaibhifdaa.Nx Go.Proofs.Ytcagaaaibhifdaa.Ns

/-- A turn keeps the squares' sum, but for what is rounded. -/
theorem rot {c s x y p q δ : Int} (M : Int) (h1 : Bd 1099511627776 (1099511627776 * p - (x * c - y * s))) (h2 : Bd 1099511627776 (1099511627776 * q - (y * c + x * s)))
    (hx : Bd M x) (hy : Bd M y) (hc : Bd 2199023255552 c) (hs : Bd 2199023255552 s) (hcs : Bd δ (c * c + s * s - 1208925819614629174706176)) :
    Bd (δ * (x * x + y * y) + (19342813113834066795298816 * M + 2417851639229258349412352)) (1208925819614629174706176 * (p * p + q * q) - 1208925819614629174706176 * (x * x + y * y)) := by
  obtain ⟨A, hA⟩ : ∃ A, A = x * c - y * s := ⟨_, rfl⟩
  obtain ⟨B, hB⟩ : ∃ B, B = y * c + x * s := ⟨_, rfl⟩
  obtain ⟨α, hα⟩ : ∃ α, α = 1099511627776 * p - A := ⟨_, rfl⟩
  obtain ⟨β, hβ⟩ : ∃ β, β = 1099511627776 * q - B := ⟨_, rfl⟩
  have bA : Bd (M * 2199023255552 + M * 2199023255552) A := by rw [hA]; exact (hx.mul hc).sub (hy.mul hs)
  have bB : Bd (M * 2199023255552 + M * 2199023255552) B := by rw [hB]; exact (hy.mul hc).add (hx.mul hs)
  rw [← hA, ← hα] at h1
  rw [← hB, ← hβ] at h2
  have e : 1208925819614629174706176 * (p * p + q * q) - 1208925819614629174706176 * (x * x + y * y) = (c * c + s * s - 1208925819614629174706176) * (x * x + y * y) + (2 * (α * A + β * B) + (α * α + β * β)) := by
    have e1 : 1099511627776 * p = A + α := by omega
    have e2 : 1099511627776 * q = B + β := by omega
    have e3 : 1208925819614629174706176 * (p * p + q * q) = (1099511627776 * p) * (1099511627776 * p) + (1099511627776 * q) * (1099511627776 * q) := by grind
    rw [e3, e1, e2, hA, hB]
    grind
  rw [e]
  have hS : Bd (x * x + y * y) (x * x + y * y) := by
    have := sq_nonneg x
    have := sq_nonneg y
    exact ⟨by omega, by omega⟩
  have m1 := hcs.mul hS
  have m2 := h1.mul bA
  have m3 := h2.mul bB
  have m4 := h1.mul h1
  have m5 := h2.mul h2
  generalize (c * c + s * s - 1208925819614629174706176) * (x * x + y * y) = u1 at *
  generalize α * A = u2 at *
  generalize β * B = u3 at *
  generalize α * α = u4 at *
  generalize β * β = u5 at *
  generalize δ * (x * x + y * y) = u6 at *
  unfold Bd at *
  omega

/-! ### The sums' sizes -/
theorem nat_lo {c z T : Int} {t : Nat} (hT : 0 ≤ T) (h : CrZ T c t z) : T * ((c.natAbs - t : Nat) : Int) ≤ (z.natAbs : Int) := by
  rcases Nat.le_total c.natAbs t with hc | hc
  · rw [Nat.sub_eq_zero_of_le hc]
    have : T * ((0 : Nat) : Int) = 0 := by simp
    omega
  · have e : ((c.natAbs - t : Nat) : Int) = (c.natAbs : Int) - (t : Int) := by omega
    rw [e]
    have e2 : T * ((c.natAbs : Int) - (t : Int)) = T * (c.natAbs : Int) - T * (t : Int) := by grind
    rw [e2]
    unfold CrZ at h
    have h3 : T * (c.natAbs : Int) = (((T * c).natAbs : Nat) : Int) := by
      rw [Int.natAbs_mul]
      push_cast
      rw [Int.natAbs_of_nonneg hT]
    rw [h3]
    generalize T * c = u at *
    generalize T * (t : Int) = v at *
    unfold Bd at h
    omega
theorem nat_hi {c z T : Int} {t : Nat} (hT : 0 ≤ T) (h : CrZ T c t z) : (z.natAbs : Int) ≤ T * ((c.natAbs + t : Nat) : Int) := by
  have e : ((c.natAbs + t : Nat) : Int) = (c.natAbs : Int) + (t : Int) := by omega
  rw [e]
  have e2 : T * ((c.natAbs : Int) + (t : Int)) = T * (c.natAbs : Int) + T * (t : Int) := by grind
  rw [e2]
  unfold CrZ at h
  have h3 : T * (c.natAbs : Int) = (((T * c).natAbs : Nat) : Int) := by
    rw [Int.natAbs_mul]
    push_cast
    rw [Int.natAbs_of_nonneg hT]
  rw [h3]
  generalize T * c = u at *
  generalize T * (t : Int) = v at *
  unfold Bd at h
  omega
/-- The greatest and the least length of the three. -/
theorem ac_size {T z1 z2 z3 : Int} {A : Ac} (hT : 0 ≤ T) (hA : okA A = true) (h : AcIn T A z1 z2 z3) :
    T * T * 120149270770551192134719970972037306446402129382561718309521090439999859575161030938791617390182400 ≤ z1 * z1 + z2 * z2 + z3 * z3 ∧ z1 * z1 + z2 * z2 + z3 * z3 ≤ T * T * 16541083606171527678067048092577011575483343821129919050469890210975269556445280419377818401236844544 := by
  unfold okA at hA
  simp only [Bool.and_eq_true] at hA
  have l := Nat.le_of_ble_eq_true hA.1
  have u := Nat.le_of_ble_eq_true hA.2
  have sq : ∀ z : Int, z * z = (z.natAbs : Int) * (z.natAbs : Int) := fun z => by rw [← Int.natCast_mul, Int.natAbs_mul_self]
  have TT : 0 ≤ T * T := Int.mul_nonneg hT hT
  constructor
  · have key : ∀ {c z : Int} {t : Nat}, CrZ T c t z → T * T * (((c.natAbs - t) * (c.natAbs - t) : Nat) : Int) ≤ z * z := by
      intro c z t h
      have h1 := nat_lo hT h
      rw [sq z]
      have h2 := sq_mono (Int.mul_nonneg hT (Int.natCast_nonneg (c.natAbs - t))) h1
      have e : T * T * (((c.natAbs - t) * (c.natAbs - t) : Nat) : Int) = T * ((c.natAbs - t : Nat) : Int) * (T * ((c.natAbs - t : Nat) : Int)) := by
        rw [Int.natCast_mul]; grind
      rw [e]; exact h2
    have k1 := key h.h1
    have k2 := key h.h2
    have k3 := key h.h3
    have l' : ((120149270770551192134719970972037306446402129382561718309521090439999859575161030938791617390182400 : Nat) : Int) ≤ (((A.c1.natAbs - A.t1) * (A.c1.natAbs - A.t1) : Nat) : Int) + (((A.c2.natAbs - A.t2) * (A.c2.natAbs - A.t2) : Nat) : Int) + (((A.c3.natAbs - A.t3) * (A.c3.natAbs - A.t3) : Nat) : Int) := by exact_mod_cast l
    have m := Int.mul_le_mul_of_nonneg_left l' TT
    have e : T * T * ((((A.c1.natAbs - A.t1) * (A.c1.natAbs - A.t1) : Nat) : Int) + (((A.c2.natAbs - A.t2) * (A.c2.natAbs - A.t2) : Nat) : Int) + (((A.c3.natAbs - A.t3) * (A.c3.natAbs - A.t3) : Nat) : Int)) = T * T * (((A.c1.natAbs - A.t1) * (A.c1.natAbs - A.t1) : Nat) : Int) + T * T * (((A.c2.natAbs - A.t2) * (A.c2.natAbs - A.t2) : Nat) : Int) + T * T * (((A.c3.natAbs - A.t3) * (A.c3.natAbs - A.t3) : Nat) : Int) := by
      rw [Int.mul_add, Int.mul_add]
    rw [e] at m
    have e0 : ((120149270770551192134719970972037306446402129382561718309521090439999859575161030938791617390182400 : Nat) : Int) = 120149270770551192134719970972037306446402129382561718309521090439999859575161030938791617390182400 := rfl
    rw [e0] at m
    generalize T * T * (((A.c1.natAbs - A.t1) * (A.c1.natAbs - A.t1) : Nat) : Int) = q1 at *
    generalize T * T * (((A.c2.natAbs - A.t2) * (A.c2.natAbs - A.t2) : Nat) : Int) = q2 at *
    generalize T * T * (((A.c3.natAbs - A.t3) * (A.c3.natAbs - A.t3) : Nat) : Int) = q3 at *
    omega
  · have key : ∀ {c z : Int} {t : Nat}, CrZ T c t z → z * z ≤ T * T * (((c.natAbs + t) * (c.natAbs + t) : Nat) : Int) := by
      intro c z t h
      have h1 := nat_hi hT h
      rw [sq z]
      have h2 := sq_mono (Int.natCast_nonneg z.natAbs) h1
      have e : T * T * (((c.natAbs + t) * (c.natAbs + t) : Nat) : Int) = T * ((c.natAbs + t : Nat) : Int) * (T * ((c.natAbs + t : Nat) : Int)) := by
        rw [Int.natCast_mul]; grind
      rw [e]; exact h2
    have k1 := key h.h1
    have k2 := key h.h2
    have k3 := key h.h3
    have l' : (((A.c1.natAbs + A.t1) * (A.c1.natAbs + A.t1) : Nat) : Int) + (((A.c2.natAbs + A.t2) * (A.c2.natAbs + A.t2) : Nat) : Int) + (((A.c3.natAbs + A.t3) * (A.c3.natAbs + A.t3) : Nat) : Int) ≤ ((16541083606171527678067048092577011575483343821129919050469890210975269556445280419377818401236844544 : Nat) : Int) := by exact_mod_cast u
    have m := Int.mul_le_mul_of_nonneg_left l' TT
    have e : T * T * ((((A.c1.natAbs + A.t1) * (A.c1.natAbs + A.t1) : Nat) : Int) + (((A.c2.natAbs + A.t2) * (A.c2.natAbs + A.t2) : Nat) : Int) + (((A.c3.natAbs + A.t3) * (A.c3.natAbs + A.t3) : Nat) : Int)) = T * T * (((A.c1.natAbs + A.t1) * (A.c1.natAbs + A.t1) : Nat) : Int) + T * T * (((A.c2.natAbs + A.t2) * (A.c2.natAbs + A.t2) : Nat) : Int) + T * T * (((A.c3.natAbs + A.t3) * (A.c3.natAbs + A.t3) : Nat) : Int) := by
      rw [Int.mul_add, Int.mul_add]
    rw [e] at m
    have e0 : ((16541083606171527678067048092577011575483343821129919050469890210975269556445280419377818401236844544 : Nat) : Int) = 16541083606171527678067048092577011575483343821129919050469890210975269556445280419377818401236844544 := rfl
    rw [e0] at m
    generalize T * T * (((A.c1.natAbs + A.t1) * (A.c1.natAbs + A.t1) : Nat) : Int) = q1 at *
    generalize T * T * (((A.c2.natAbs + A.t2) * (A.c2.natAbs + A.t2) : Nat) : Int) = q2 at *
    generalize T * T * (((A.c3.natAbs + A.t3) * (A.c3.natAbs + A.t3) : Nat) : Int) = q3 at *
    omega
/-- The three numbers' lengths. -/
theorem vec_size {T V1 V2 V3 x y z : Int} (hT : 483455000000 ≤ T ∧ T ≤ 1099511627776) (h : T * T * 120149270770551192134719970972037306446402129382561718309521090439999859575161030938791617390182400 ≤ 1099511627776 * V1 * (1099511627776 * V1) + 1099511627776 * V2 * (1099511627776 * V2) + 1099511627776 * V3 * (1099511627776 * V3) ∧
    1099511627776 * V1 * (1099511627776 * V1) + 1099511627776 * V2 * (1099511627776 * V2) + 1099511627776 * V3 * (1099511627776 * V3) ≤ T * T * 16541083606171527678067048092577011575483343821129919050469890210975269556445280419377818401236844544)
    (h1 : Bd (1251 * 1329227995784915872903807060280344576) (1329227995784915872903807060280344576 * x - V1)) (h2 : Bd (1251 * 1329227995784915872903807060280344576) (1329227995784915872903807060280344576 * y - V2)) (h3 : Bd (1251 * 1329227995784915872903807060280344576) (1329227995784915872903807060280344576 * z - V3))
    (b1 : Bd 1125899906842624 x) (b2 : Bd 1125899906842624 y) (b3 : Bd 1125899906842624 z) :
    13147000000000000000000000 ≤ x * x + y * y + z * z ∧ x * x + y * y + z * z ≤ 9363000000000000000000000000 := by
  obtain ⟨l, u⟩ := h
  have e : ∀ V : Int, 1099511627776 * V * (1099511627776 * V) = 1208925819614629174706176 * (V * V) := fun V => by grind
  rw [e, e, e] at l u
  have t1 : (483455000000 : Int) * 483455000000 ≤ T * T := Int.mul_le_mul hT.1 hT.1 (by decide) (by omega)
  have t2 : T * T ≤ 1099511627776 * 1099511627776 := Int.mul_le_mul hT.2 hT.2 (by omega) (by decide)
  have key : ∀ {x V : Int}, Bd (1251 * 1329227995784915872903807060280344576) (1329227995784915872903807060280344576 * x - V) → Bd 1125899906842624 x →
      Bd (3000000000000000000 * 1766847064778384329583297500742918515827483896875618958121606201292619776) (1766847064778384329583297500742918515827483896875618958121606201292619776 * (x * x) - V * V) := by
    intro x V hh hb
    have m := hh.mul (show Bd (2 * (1125899906842624 * 1329227995784915872903807060280344576) + 1251 * 1329227995784915872903807060280344576) (1329227995784915872903807060280344576 * x + V) from by unfold Bd at *; omega)
    have e : (1329227995784915872903807060280344576 * x - V) * (1329227995784915872903807060280344576 * x + V) = 1766847064778384329583297500742918515827483896875618958121606201292619776 * (x * x) - V * V := by grind
    rw [e] at m
    exact m.mono (by decide)
  have k1 := key h1 b1
  have k2 := key h2 b2
  have k3 := key h3 b3
  clear key h1 h2 h3 b1 b2 b3 e
  generalize x * x = xx at *
  generalize y * y = yy at *
  generalize z * z = zz at *
  generalize V1 * V1 = v1 at *
  generalize V2 * V2 = v2 at *
  generalize V3 * V3 = v3 at *
  generalize T * T = tt at *
  unfold Bd at *
  constructor <;> omega
#print axioms vec_size
end Go.Proofs.Ytcagaaaibhifdaa.Fd

/- The field at any place, and its size. Conditions: as each says. -/
namespace Go.Proofs.Ytcagaaaibhifdaa.Fd
open Go Go.Proofs.Ytcagaaaibhifdaa.Ae Go.Proofs.Ytcagaaaibhifdaa.Fx Go.Proofs.Ytcagaaaibhifdaa.Lx Go.Proofs.Ytcagaaaibhifdaa.Tx Go.Proofs.Ytcagaaaibhifdaa.Te Go.Proofs.Ytcagaaaibhifdaa.Rx Go.Proofs.Ytcagaaaibhifdaa.Row Go.Proofs.Ytcagaaaibhifdaa.Ve Go.Proofs.Ytcagaaaibhifdaa.Nx Go.Proofs.Ytcagaaaibhifdaa.Ns

theorem lat_chunks {b : Bx} (h : b ∈ latB) : ∃ l, chkAll27 l = some () ∧ b ∈ l := by
  have key : ∀ (n : Nat) (l : List Bx), b ∈ l → b ∈ (l.drop 0).take n ∨ b ∈ l.drop n := by
    intro n l hb
    rw [List.drop_zero]
    rw [← List.take_append_drop n l] at hb
    exact List.mem_append.1 hb
  have step : ∀ (k : Nat), b ∈ latB.drop k → b ∈ (latB.drop k).take 8 ∨ b ∈ latB.drop (k + 8) := by
    intro k hb
    rcases key 8 _ hb with h | h
    · exact .inl h
    · rw [List.drop_drop] at h; exact .inr h
  rcases step 0 (by simpa using h) with h | h
  · exact ⟨_, boxes_a1, h⟩
  rcases step 8 h with h | h
  · exact ⟨_, boxes_a2, h⟩
  rcases step 16 h with h | h
  · exact ⟨_, boxes_b1, h⟩
  rcases step 24 h with h | h
  · exact ⟨_, boxes_b2, h⟩
  rcases step 32 h with h | h
  · exact ⟨_, boxes_c1, h⟩
  rcases step 40 h with h | h
  · exact ⟨_, boxes_c2, h⟩
  rcases step 48 h with h | h
  · exact ⟨_, boxes_d1, h⟩
  rcases step 56 h with h | h
  · exact ⟨_, boxes_d2, h⟩
  have e : latB.drop 64 = [] := by kernel_rfl
  rw [e] at h
  cases h

/-- The body at any direction. -/
theorem body_all {tick r c s u v : Int} (ht : 0 ≤ tick ∧ tick ≤ 157766400000) (hr : 7012835794000 ≤ r ∧ r ≤ 9211859052000) (hcs : Circ c s) (hs : 0 ≤ s) (huv : Circ u v) (bu : Bd 1099511627776 u) (bv : Bd 1099511627776 v)
    (bc : Bd 1099511627777 c) (bs : Bd 1099511627777 s) :
    ∃ X Y Z, eBodyVP tick r c s u v false = (⟨X, Y, Z⟩, false) ∧ 12900000000000000000000000 ≤ X * X + Y * Y + Z * Z ∧ X * X + Y * Y + Z * Z ≤ 9370000000000000000000000000 := by
  obtain ⟨hd, hr1, -⟩ := rho_is (r := r) ⟨by omega, by omega⟩
  obtain ⟨b, hb, ic, is⟩ := lat_cover hs hcs
  obtain ⟨b', hb', iu, iv⟩ := lon_cover huv
  obtain ⟨l, hl, hbl⟩ := lat_chunks hb
  obtain ⟨T, A, hT, hIn, hA, hAc⟩ := sums_at hl ht (sg_ok hr) hbl hb' ic is iu iv bu bv
  obtain ⟨e, he, heb, d1, d2, d3, r1, r2, r3⟩ := fold_near ht hIn hr1 bu bv keys27 0 0 ⟨tau r 0, 0, 0, 0, 0, 0, false⟩ 0 (fun k hk => ⟨hk, TIall_chk k hk⟩) (by kernel_rfl) rfl rfl (fun h => absurd rfl h) (by decide) (show Bd 0 0 from ⟨by decide, by decide⟩) (show Bd 0 0 from ⟨by decide, by decide⟩) (show Bd 0 0 from ⟨by decide, by decide⟩) (by rw [lims]; decide)
  rw [lims, Int.zero_add] at d1 d2 d3
  obtain ⟨w1, w2, w3⟩ := wsum
  rw [w1] at r1
  rw [w2] at r2
  rw [w3] at r3
  have hbody : eBodyVP tick r c s u v false = eLastV add sub mul c s u v e := by
    unfold eBodyVP
    rw [eBody_tail, tmP_is hT]
    unfold tailG
    dsimp only
    rw [hd]
    dsimp only
    rw [tau_zero hr1]
    dsimp only
    rw [← he]
    rfl
  have hsz := ac_size (by have := tau1_lo hr; omega) hA hAc
  generalize sumW (fun k => (k.1 + 1) * exU r tick u v (fun k => lookT k T) k) keys27 = V1 at *
  generalize sumW (exS r tick u v (fun k => lookT k T)) keys27 = V2 at *
  generalize sumW (fun k => k.2 * exE r tick u v (fun k => lookT k T) k) keys27 = V3 at *
  clear hAc hA hIn hT hl hbl hb hb' ic is iu iv he
  unfold nearW Q3 at r1 r2 r3
  dsimp only at r1 r2 r3
  have n1 : Bd (1251 * 1329227995784915872903807060280344576) (1329227995784915872903807060280344576 * e.up - V1) := by unfold Bd at *; omega
  have n2 : Bd (1251 * 1329227995784915872903807060280344576) (1329227995784915872903807060280344576 * (-e.south) - V2) := by unfold Bd at *; omega
  have n3 : Bd (1251 * 1329227995784915872903807060280344576) (1329227995784915872903807060280344576 * e.east - V3) := by unfold Bd at *; omega
  have c1 : Bd 1125899906842624 e.up := d1.mono (by decide)
  have c2 : Bd 1125899906842624 e.south := d2.mono (by decide)
  have c3 : Bd 1125899906842624 e.east := d3.mono (by decide)
  obtain ⟨f1, f2⟩ := vec_size ⟨tau1_lo hr, (tau_in hr1 1).2⟩ hsz n1 n2 n3 c1 c2.neg c3
  rw [Int.neg_mul_neg] at f1 f2
  clear hsz n1 n2 n3 r1 r2 r3 V1 V2 V3
  obtain ⟨X, Y, Z, a, hlast, ha, hX, hY, hZ⟩ := last_is (c := c) (s := s) (u := u) (v := v) heb c1 c2 c3 bc bs (bu.mono (by decide)) (bv.mono (by decide))
  refine ⟨X, Y, Z, hbody.trans hlast, ?_⟩
  have ba : Bd 4503599627370496 a := by
    have m1 := c1.mul bs
    have m2 := c2.mul bc
    generalize e.up * s = p at *
    generalize e.south * c = q at *
    unfold Bd at *
    omega
  have ha' : Bd 1099511627776 (1099511627776 * a - (e.south * c + e.up * s)) := by rw [Int.add_comm]; exact ha
  have hY' : Bd 1099511627776 (1099511627776 * Y - (e.east * u + a * v)) := by rw [Int.add_comm]; exact hY
  have k1 := rot 4503599627370496 hZ ha' (c1.mono (by decide)) (c2.mono (by decide)) (bc.mono (by decide)) (bs.mono (by decide)) (show Bd 4611686018427387904 _ from hcs)
  have k2 := rot 4503599627370496 hX hY' ba (c3.mono (by decide)) (bu.mono (by decide)) (bv.mono (by decide)) (show Bd 4611686018427387904 _ from huv)
  have q1 := sq_nonneg Z
  have q2 := sq_nonneg e.east
  clear hX hY hY' hZ ha ha' ba hlast c1 c2 c3 d1 d2 d3 hbody hcs huv bu bv bc bs w1 w2 w3 hd hr1 heb
  generalize X * X = XX at *
  generalize Y * Y = YY at *
  generalize Z * Z = ZZ at *
  generalize a * a = AA at *
  generalize e.up * e.up = UU at *
  generalize e.south * e.south = SS at *
  generalize e.east * e.east = EE at *
  unfold Bd at *
  constructor <;> omega

/-- A direction's squares are 1 together. -/
theorem circ_of {x y w u v : Int} (hw : 4194304 ≤ w) (h : Bd (3 * w) (x * x + y * y - w * w)) (hx : Bd (2 * w) x) (hy : Bd (2 * w) y) (hu : Bd w (2 * (u * w - x * 1099511627776))) (hv : Bd w (2 * (v * w - y * 1099511627776))) : Circ u v := by
  obtain ⟨α, hα⟩ : ∃ α, α = u * w - x * 1099511627776 := ⟨_, rfl⟩
  obtain ⟨β, hβ⟩ : ∃ β, β = v * w - y * 1099511627776 := ⟨_, rfl⟩
  rw [← hα] at hu
  rw [← hβ] at hv
  have p1 := hx.mul hu
  have p2 := hy.mul hv
  have p3 := hu.mul hu
  have p4 := hv.mul hv
  have e : 4 * ((u * u + v * v - 1208925819614629174706176) * (w * w)) = 4 * 1208925819614629174706176 * (x * x + y * y - w * w) + 4398046511104 * (x * (2 * α) + y * (2 * β)) + (2 * α * (2 * α) + 2 * β * (2 * β)) := by
    have a1 : u * w = α + x * 1099511627776 := by omega
    have a2 : v * w = β + y * 1099511627776 := by omega
    grind
  have e2 : 2 * w * w = 2 * (w * w) := by grind
  rw [e2] at p1 p2
  have h3 : 4194304 * w ≤ w * w := Int.mul_le_mul_of_nonneg_right hw (by omega)
  unfold Circ
  generalize x * (2 * α) = A at *
  generalize y * (2 * β) = B at *
  generalize 2 * α * (2 * α) = C at *
  generalize 2 * β * (2 * β) = D at *
  generalize x * x + y * y - w * w = S at *
  generalize u * u + v * v - 1208925819614629174706176 = E at *
  have hW : 0 < w * w := Int.mul_pos (by omega) (by omega)
  generalize w * w = W at *
  unfold Bd at *
  constructor
  · refine Int.not_lt.1 fun hn => ?_
    have : E * W ≤ (-4611686018427387905) * W := Int.mul_le_mul_of_nonneg_right (by omega) (by omega)
    generalize E * W = F at *
    omega
  · refine Int.not_lt.1 fun hn => ?_
    have : 4611686018427387905 * W ≤ E * W := Int.mul_le_mul_of_nonneg_right (by omega) (by omega)
    generalize E * W = F at *
    omega
theorem bd_of_sq {a w : Int} (hw : 0 ≤ w) (h : a * a < (w + 1) * (w + 1)) : Bd w a := by
  constructor
  · refine Int.not_lt.1 fun hn => ?_
    have : (w + 1) * (w + 1) ≤ (-a) * (-a) := Int.mul_le_mul (by omega) (by omega) (by omega) (by omega)
    rw [Int.neg_mul_neg] at this
    omega
  · refine Int.not_lt.1 fun hn => ?_
    have : (w + 1) * (w + 1) ≤ a * a := Int.mul_le_mul (by omega) (by omega) (by omega) (by omega)
    omega
theorem unit_is {a w : Int} (hw : 0 < w ∧ w ≤ 4611686018427387904) (h : Bd w a) : ∃ u, div a w false = (u, false) ∧ Bd 1099511627776 u ∧ Bd w (2 * (u * w - a * 1099511627776)) := by
  obtain ⟨u, hu, nu⟩ := div_is (a := a) (q := w) w h (by omega) hw (by omega)
  have du := div_unit (a := a) (q := w) (bad := false) (by rw [hu]) hw.1 h
  rw [hu] at du
  exact ⟨u, hu, du, nu⟩
theorem uv_any {x y w : Int} (hw : 1048576 ≤ w) (hw2 : w ≤ 9300000000000) (h1 : w * w ≤ x * x + y * y) (h2 : x * x + y * y < (w + 1) * (w + 1)) :
    ∃ u v, div x w false = (u, false) ∧ div y w false = (v, false) ∧ Bd 1099511627776 u ∧ Bd 1099511627776 v ∧ Circ u v := by
  have bx := bd_of_sq (a := x) (w := w) (by omega) (by have := sq_nonneg y; omega)
  have bY := bd_of_sq (a := y) (w := w) (by omega) (by have := sq_nonneg x; omega)
  obtain ⟨u, hu, du, nu⟩ := unit_is ⟨by omega, by omega⟩ bx
  obtain ⟨v, hv, dv, nv⟩ := unit_is ⟨by omega, by omega⟩ bY
  exact ⟨u, v, hu, hv, du, dv, uv_one hw h1 h2 bx bY nu nv⟩
/-- The field in the Earth's axes. -/
theorem earth_any {tick x y z : Int} (ht : 0 ≤ tick ∧ tick ≤ 157766400000) (hx : Bd 9300000000000 x) (hy : Bd 9300000000000 y) (hz : Bd 9300000000000 z)
    (h1 : 7012835794000 * 7012835794000 ≤ x * x + y * y + z * z) (h2 : x * x + y * y + z * z < 9211859052001 * 9211859052001) :
    ∃ X Y Z, earP ⟨x, y, z⟩ tick false = (⟨X, Y, Z⟩, false) ∧ 12900000000000000000000000 ≤ X * X + Y * Y + Z * Z ∧ X * X + Y * Y + Z * Z ≤ 9370000000000000000000000000 := by
  obtain ⟨r, er, r0, -, r1, r2⟩ := norm_is (a := x) (b := y) (c := z) 9300000000000 hx hy hz (by decide)
  obtain ⟨w, ew, w0, -, w1, w2⟩ := norm_is (a := x) (b := y) (c := 0) 9300000000000 hx hy ⟨by decide, by decide⟩ (by decide)
  rw [Int.mul_zero, Int.add_zero] at w1 w2
  have hr : 7012835794000 ≤ r ∧ r ≤ 9211859052000 := by
    constructor
    · refine Int.not_lt.1 fun hn => ?_
      have : (r + 1) * (r + 1) ≤ 7012835794000 * 7012835794000 := Int.mul_le_mul (by omega) (by omega) (by omega) (by omega)
      omega
    · refine Int.not_lt.1 fun hn => ?_
      have : (9211859052001 : Int) * 9211859052001 ≤ r * r := Int.mul_le_mul (by omega) (by omega) (by omega) (by omega)
      omega
  have qx := sq_nonneg x
  have qy := sq_nonneg y
  have qz := sq_nonneg z
  have hwr : w ≤ r := by
    refine Int.not_lt.1 fun hn => ?_
    have : (r + 1) * (r + 1) ≤ w * w := Int.mul_le_mul (by omega) (by omega) (by omega) (by omega)
    omega
  have bz : Bd r z := bd_of_sq r0 (by omega)
  obtain ⟨c, ec, bc, nc⟩ := unit_is ⟨by omega, by omega⟩ bz
  obtain ⟨s, es, bs, ns⟩ := unit_is (a := w) (w := r) ⟨by omega, by omega⟩ ⟨by omega, by omega⟩
  have hs : 0 ≤ s := by
    refine Int.not_lt.1 fun hn => ?_
    have : s * r ≤ -1 * r := Int.mul_le_mul_of_nonneg_right (by omega) (by omega)
    generalize s * r = p at *
    unfold Bd at ns
    omega
  have hcs : Circ c s := by
    refine circ_of (x := z) (y := w) (w := r) (by omega) ?_ ⟨by have := bz.1; omega, by have := bz.2; omega⟩ ⟨by omega, by omega⟩ nc ns
    have e1 : (w + 1) * (w + 1) = w * w + 2 * w + 1 := by grind
    have e2 : (r + 1) * (r + 1) = r * r + 2 * r + 1 := by grind
    rw [e1] at w2
    rw [e2] at r2
    generalize x * x = xx at *
    generalize y * y = yy at *
    generalize z * z = zz at *
    generalize w * w = ww at *
    generalize r * r = rr at *
    unfold Bd
    constructor <;> omega
  have hk : ckT tick = true := by rw [ck_is]; simp [ht.1, ht.2]
  have k1 : decide (r < 6597069766656) = false := decide_eq_false (by omega)
  have k2 : decide (r > 10995116277760) = false := decide_eq_false (by omega)
  have e := earP_is x y z tick
  dsimp only at e
  rw [er] at e
  dsimp only at e
  rw [hk, Bool.not_true, bf, k1, bf, k2, bf, bf, ew] at e
  dsimp only at e
  rw [ec] at e
  dsimp only at e
  rw [es] at e
  dsimp only at e
  cases hd : decide (w ≥ 1048576) with
  | true =>
    obtain ⟨u, v, eu, ev, bu, bv, buv⟩ := uv_any (of_decide_eq_true hd) (by omega) w1 w2
    rw [hd, bt, eu] at e
    dsimp only at e
    rw [ev] at e
    obtain ⟨X, Y, V, h, z1, z2⟩ := body_all ht hr hcs hs buv bu bv (bc.mono (by decide)) (bs.mono (by decide))
    exact ⟨X, Y, V, e.trans h, z1, z2⟩
  | false =>
    rw [hd, bf] at e
    obtain ⟨X, Y, V, h, z1, z2⟩ := body_all (u := 1099511627776) (v := 0) ht hr hcs hs ⟨by decide, by decide⟩ ⟨by decide, by decide⟩ ⟨by decide, by decide⟩ (bc.mono (by decide)) (bs.mono (by decide))
    exact ⟨X, Y, V, e.trans h, z1, z2⟩
#print axioms earth_any
end Go.Proofs.Ytcagaaaibhifdaa.Fd

/- The law: a field is there. Conditions: none. -/
namespace Go.Proofs.Ytcagaaaibhifdaa.Fd
open Go Go.Proofs.Ytcagaaaibhifdaa.Ae Go.Proofs.Ytcagaaaibhifdaa.Fx Go.Proofs.Ytcagaaaibhifdaa.Lx Go.Proofs.Ytcagaaaibhifdaa.Tx Go.Proofs.Ytcagaaaibhifdaa.Te Go.Proofs.Ytcagaaaibhifdaa.Rx Go.Proofs.Ytcagaaaibhifdaa.Row Go.Proofs.Ytcagaaaibhifdaa.Ve Go.Proofs.Ytcagaaaibhifdaa.Nx Go.Proofs.Ytcagaaaibhifdaa.Ns

section
variable (sk : V3 → Int → Bool → V3 × Bool) (nr : Op3)
def envLT : Env := [(8, .pure anyArgs yesF), (14, .flow 25 (vtF sk)), (13, .flow 25 (nrmF nr))]
theorem lthere_raw (p : V3) (t : Int) : acall Try.prog (envLT sk nr) 100 7 [p.av, I t] [] ansK =
    bif (bif (bif (bif (bif (nr p.x p.y p.z false).2 then true else decide ((nr p.x p.y p.z false).1 < 7012835795048)) then true else decide ((nr p.x p.y p.z false).1 > 9211859050600)) then true else decide (t < 0)) then true else decide (t > 157766400000)) then some true else
    let s := sk p t (nr p.x p.y p.z false).2
    let n := nr s.1.x s.1.y s.1.z s.2
    some (an (an (!n.2) (decide (n.1 ≥ 3298534883328))) (decide (n.1 ≤ 98956046499840))) := by kernel_rfl
end
/-- The Earth's turn is there. -/
theorem turn_fine {t : Int} (ht : 0 ≤ t ∧ t ≤ 157766400000) : ∃ q, turnP t false = (q, false) ∧ -4611686018427387904 ≤ q ∧ q ≤ 4611686018427387904 := by
  obtain ⟨d, y, hd, -, -⟩ := year_in ht
  have hk : ckT t = true := by rw [ck_is]; simp [ht.1, ht.2]
  obtain ⟨d', hd', d1, d2⟩ := part_is (a := 1099511627776) (p := t) (q := 86400000) 1099511627776 157766400000 ⟨by decide, by decide⟩ ⟨by omega, by omega⟩ (by decide) (by decide) (by decide) (by decide)
  have ed : daysP t false = (d', false) := by
    unfold daysP
    rw [hk]; exact hd'
  have bd : Bd 4611686018427387 d' := ⟨by omega, by omega⟩
  have tm : t.tmod 86400000 = t % 86400000 := Int.tmod_eq_emod_of_nonneg ht.1
  obtain ⟨p, hp, p1, p2⟩ := part_is (a := 6908435304716) (p := t.tmod 86400000) (q := 86400000) 6908435304716 86400000 ⟨by decide, by decide⟩ ⟨by omega, by omega⟩ (by decide) (by decide) (by decide) (by decide)
  have bp : Bd 7000000000000 p := by
    have hb : Bd (6908435304716 * 86400000) (6908435304716 * t.tmod 86400000) := ⟨by omega, by omega⟩
    unfold Bd at *
    generalize 6908435304716 * t.tmod 86400000 = z at *
    omega
  have ha := add_b (a := 5399947124839) (b := p) 5399947124839 7000000000000 ⟨by decide, by decide⟩ bp (by decide)
  obtain ⟨m, hm, bm, -⟩ := mul_b (a := 18914669620) (b := d') 18914669620 4611686018427387 79335000000000 ⟨by decide, by decide⟩ bd (by decide)
  have hb := add_b (a := 5399947124839 + p) (b := m) 12399947124839 79335000000000 (by unfold Bd at *; omega) bm (by decide)
  have hmod := mod_is (a := 5399947124839 + p + m) (m := 6908435304716) (by unfold Bd at *; omega) (by decide) (by decide)
  refine ⟨(5399947124839 + p + m) % 6908435304716, ?_, by omega, by omega⟩
  unfold turnP turnE
  rw [ed]
  simp only [hp, ha, hm, hb, hmod]
/-- A direction turned: two products and their sum. -/
theorem two_prod {x y c s : Int} (M R : Int) (hx : Bd M x) (hy : Bd M y) (hc : Bd 1099511627789 c) (hs : Bd 1099511627789 s) (hR : (decide (M ≤ 4611686018427387904) && (decide (1099511627789 ≤ 4611686018427387904) && (decide (M * 1099511627789 < 4611686018427387904 * 1099511627776) && decide (2 * (M * 1099511627789) + 1099511627776 < 2 * ((R + 1) * 1099511627776))))) = true) (hR2 : decide (R + R ≤ 4611686018427387904) = true) :
    ∃ a b a' b', mul x c false = (a, false) ∧ mul y s false = (b, false) ∧ mul y c false = (a', false) ∧ mul x s false = (b', false) ∧
      add a b false = (a + b, false) ∧ sub a b false = (a - b, false) ∧ sub a' b' false = (a' - b', false) ∧ add a' b' false = (a' + b', false) ∧ Bd (R + R) (a + b) ∧ Bd (R + R) (a' - b') ∧ Bd (R + R) (a - b) ∧ Bd (R + R) (a' + b') ∧
      Bd 1099511627776 (1099511627776 * (a + b) - (x * c - y * -s)) ∧ Bd 1099511627776 (1099511627776 * (a' - b') - (y * c + x * -s)) ∧ Bd 1099511627776 (1099511627776 * (a - b) - (x * c - y * s)) ∧ Bd 1099511627776 (1099511627776 * (a' + b') - (y * c + x * s)) := by
  obtain ⟨a, h1, b1, n1⟩ := mul_b (a := x) (b := c) M 1099511627789 R hx hc hR
  obtain ⟨b, h2, b2, n2⟩ := mul_b (a := y) (b := s) M 1099511627789 R hy hs hR
  obtain ⟨a', h3, b3, n3⟩ := mul_b (a := y) (b := c) M 1099511627789 R hy hc hR
  obtain ⟨b', h4, b4, n4⟩ := mul_b (a := x) (b := s) M 1099511627789 R hx hs hR
  refine ⟨a, b, a', b', h1, h2, h3, h4, add_b R R b1 b2 hR2, sub_b R R b1 b2 hR2, sub_b R R b3 b4 hR2, add_b R R b3 b4 hR2, b1.add b2, b3.sub b4, b1.sub b2, b3.add b4, ?_, ?_, ?_, ?_⟩
  · rw [Int.mul_neg]
    generalize x * c = p at *
    generalize y * s = q at *
    unfold Bd at *; omega
  · rw [Int.mul_neg]
    generalize y * c = p at *
    generalize x * s = q at *
    unfold Bd at *; omega
  · generalize x * c = p at *
    generalize y * s = q at *
    unfold Bd at *; omega
  · generalize y * c = p at *
    generalize x * s = q at *
    unfold Bd at *; omega
/-- The field in the sky's axes. -/
theorem sky_any {tick x y z : Int} (ht : 0 ≤ tick ∧ tick ≤ 157766400000) (hx : Bd 9211859050601 x) (hy : Bd 9211859050601 y) (hz : Bd 9211859050601 z)
    (h1 : 7012835795048 * 7012835795048 ≤ x * x + y * y + z * z) (h2 : x * x + y * y + z * z < 9211859050601 * 9211859050601) :
    ∃ X Y Z, skyP ⟨x, y, z⟩ tick false = (⟨X, Y, Z⟩, false) ∧ Bd 1000000000000000 X ∧ Bd 1000000000000000 Y ∧ Bd 1000000000000000 Z ∧ 10900000000000000000000000 ≤ X * X + Y * Y + Z * Z ∧ X * X + Y * Y + Z * Z ≤ 9500000000000000000000000000 := by
  obtain ⟨q, hq, q1, q2⟩ := turn_fine ht
  obtain ⟨es, ec, s1, c1, sc⟩ := sc_is (a := q) ⟨q1, q2⟩
  generalize sv q = s at *
  generalize cv q = c at *
  have hcs : Bd 13194139533312 (c * c + s * s - 1208925819614629174706176) := by rw [Int.add_comm (c * c)]; exact sc
  have hcs' : Bd 13194139533312 (c * c + -s * -s - 1208925819614629174706176) := by rw [Int.neg_mul_neg]; exact hcs
  have bc : Bd 1099511627789 c := c1
  have bs : Bd 1099511627789 s := s1
  obtain ⟨a, b, a', b', m1, m2, m3, m4, g1, -, g3, -, r1, r2, -, -, e1, e2, -, -⟩ := two_prod (x := x) (y := y) (c := c) (s := s) 9211859050601 9211859060000 hx hy bc bs (by decide) (by decide)
  have k := rot 9211859050601 e1 e2 hx hy (bc.mono (by decide)) (bs.neg.mono (by decide)) hcs'
  have qz := sq_nonneg z
  obtain ⟨xx, hxx⟩ : ∃ v, v = a + b := ⟨_, rfl⟩
  obtain ⟨yy, hyy⟩ : ∃ v, v = a' - b' := ⟨_, rfl⟩
  rw [← hxx] at k g1
  rw [← hyy] at k g3
  have n1 : 7012835794000 * 7012835794000 ≤ xx * xx + yy * yy + z * z := by
    generalize xx * xx = p1 at *
    generalize yy * yy = p2 at *
    generalize x * x = p3 at *
    generalize y * y = p4 at *
    generalize z * z = p5 at *
    unfold Bd at k
    omega
  have n2 : xx * xx + yy * yy + z * z < 9211859052001 * 9211859052001 := by
    generalize xx * xx = p1 at *
    generalize yy * yy = p2 at *
    generalize x * x = p3 at *
    generalize y * y = p4 at *
    generalize z * z = p5 at *
    unfold Bd at k
    omega
  have px := sq_nonneg xx
  have py := sq_nonneg yy
  have bxx : Bd 9300000000000 xx := (bd_of_sq (w := 9211859052000) (by decide) (by omega)).mono (by decide)
  have byy : Bd 9300000000000 yy := (bd_of_sq (w := 9211859052000) (by decide) (by omega)).mono (by decide)
  obtain ⟨X, Y, Z, hE, z1, z2⟩ := earth_any ht bxx byy (hz.mono (by decide)) n1 n2
  have pX := sq_nonneg X
  have pY := sq_nonneg Y
  have pZ := sq_nonneg Z
  have bX : Bd 100000000000000 X := bd_of_sq (w := 100000000000000) (by decide) (by omega)
  have bY : Bd 100000000000000 Y := bd_of_sq (w := 100000000000000) (by decide) (by omega)
  have bZ : Bd 100000000000000 Z := bd_of_sq (w := 100000000000000) (by decide) (by omega)
  obtain ⟨a2, b2, a2', b2', w1, w2, w3, w4, -, i2, -, i4, -, -, u3, u4, -, -, f1, f2⟩ := two_prod (x := X) (y := Y) (c := c) (s := s) 100000000000000 100000000002000 bX bY bc bs (by decide) (by decide)
  have k2 := rot 100000000000000 f1 f2 bX bY (bc.mono (by decide)) (bs.mono (by decide)) hcs
  refine ⟨a2 - b2, a2' + b2', Z, ?_, u3.mono (by decide), u4.mono (by decide), bZ.mono (by decide), ?_, ?_⟩
  · unfold skyP skyE
    simp only [hq, ec, es, m1, m2, hxx ▸ g1, m3, m4, hyy ▸ g3]
    rw [← hxx, ← hyy, hE]
    simp only [w1, w2, i2, w3, w4, i4]
    rfl
  · generalize (a2 - b2) * (a2 - b2) = p1 at *
    generalize (a2' + b2') * (a2' + b2') = p2 at *
    generalize X * X = p3 at *
    generalize Y * Y = p4 at *
    generalize Z * Z = p5 at *
    unfold Bd at k2
    omega
  · generalize (a2 - b2) * (a2 - b2) = p1 at *
    generalize (a2' + b2') * (a2' + b2') = p2 at *
    generalize X * X = p3 at *
    generalize Y * Y = p4 at *
    generalize Z * Z = p5 at *
    unfold Bd at k2
    omega
theorem envLT_ok : EnvOk Try.prog (envLT skyP norm) :=
  EnvOk.p (EnvOk.f (EnvOk.f ok_nil en_vNorm vnorm_con) (enter_of Try.func14 (by kernel_rfl) rfl) sky_con) (enter_of Try.func8 (by kernel_rfl) rfl) awake10_ok
theorem there_law (p : V3) (t : Int) (w : World) : Calls Try.prog 7 #[.agg ⟨[.int .i64 p.x, .int .i64 p.y, .int .i64 p.z]⟩, .int .i64 t] w fun e w' => e = .returned (.bool true) ∧ Go.RowKit.Below w.heap.size w w' := by
  refine law_true envLT_ok ((lthere_raw skyP norm p t).trans ?_) (RL.cons (vec_r p) (RL.cons (R_int _ _ _) (RL_nil.2 rfl)))
  have key : ∀ (b1 : Bool) (Y : Option Bool), (b1 = false → Y = some true) → (bif b1 then some true else Y) = some true := by
    intro b1 Y h
    cases b1
    · exact h rfl
    · rfl
  refine key _ _ fun g => ?_
  obtain ⟨g, t2⟩ := or_no g
  obtain ⟨g, t1⟩ := or_no g
  obtain ⟨g, r2⟩ := or_no g
  obtain ⟨nb, r1⟩ := or_no g
  simp only [decide_eq_false_iff_not] at t1 t2 r1 r2
  have ht : 0 ≤ t ∧ t ≤ 157766400000 := ⟨by omega, by omega⟩
  obtain ⟨-, n, hn, n0, -, n1, n2⟩ := norm_got nb
  rw [hn] at r1 r2 ⊢
  dsimp only at r1 r2 ⊢
  have qx := sq_nonneg p.x
  have qy := sq_nonneg p.y
  have qz := sq_nonneg p.z
  have up : p.x * p.x + p.y * p.y + p.z * p.z < 9211859050601 * 9211859050601 := by
    have : (n + 1) * (n + 1) ≤ 9211859050601 * 9211859050601 := Int.mul_le_mul (by omega) (by omega) (by omega) (by omega)
    omega
  have lo : 7012835795048 * 7012835795048 ≤ p.x * p.x + p.y * p.y + p.z * p.z := by
    have : (7012835795048 : Int) * 7012835795048 ≤ n * n := Int.mul_le_mul (by omega) (by omega) (by omega) (by omega)
    omega
  have bx : Bd 9211859050601 p.x := (bd_of_sq (w := 9211859050600) (by decide) (by omega)).mono (by decide)
  have bY : Bd 9211859050601 p.y := (bd_of_sq (w := 9211859050600) (by decide) (by omega)).mono (by decide)
  have bz : Bd 9211859050601 p.z := (bd_of_sq (w := 9211859050600) (by decide) (by omega)).mono (by decide)
  obtain ⟨X, Y, Z, hS, b1, b2, b3, l, u⟩ := sky_any ht bx bY bz lo up
  have hS : skyP p t false = (⟨X, Y, Z⟩, false) := hS
  rw [hS]
  dsimp only
  obtain ⟨k, hk, k0, -, k1, k2⟩ := norm_is (a := X) (b := Y) (c := Z) 1000000000000000 b1 b2 b3 (by decide)
  rw [hk]
  dsimp only
  have f1 : decide (k ≥ 3298534883328) = true := by
    refine decide_eq_true (Int.not_lt.1 fun hh => ?_)
    have : (k + 1) * (k + 1) ≤ 3298534883328 * 3298534883328 := Int.mul_le_mul (by omega) (by omega) (by omega) (by omega)
    omega
  have f2 : decide (k ≤ 98956046499840) = true := by
    refine decide_eq_true (Int.not_lt.1 fun hh => ?_)
    have : (98956046499840 : Int) * 98956046499840 ≤ k * k := Int.mul_le_mul (by omega) (by omega) (by omega) (by omega)
    omega
  rw [f1, f2]
  rfl
#print axioms there_law
end Go.Proofs.Ytcagaaaibhifdaa.Fd
