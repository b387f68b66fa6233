/- The angle of a point not above its diagonal: its sine and its cosine. Conditions: as each says. -/
import Derived.Test.YtkghoaggicnmoaaNt2
namespace Go.Proofs.Ytkghoaggicnmoaa.Ns
open Go Go.Proofs.Ytkghoaggicnmoaa.Ae Go.Proofs.Ytkghoaggicnmoaa.Fx Go.Proofs.Ytkghoaggicnmoaa.Tx Go.Proofs.Ytkghoaggicnmoaa.Nx Go.Proofs.Ytkghoaggicnmoaa.Np

theorem Bd.cancelN {n K b : Int} (hb : 0 < b) (h : Bd (b * K) (b * n)) : Bd K n := by
  rw [Int.mul_comm b K, Int.mul_comm b n] at h
  exact Bd.cancel hb h
theorem tan_abs {t z x q l S C sx sz cx cz s2 c2 Bs Bc p0 p1 : Int} (hq : 0 < q) (hl : 0 < l) (hs2 : 0 < s2) (hc2 : 0 < c2) (hp0 : 0 < p0) (hp1 : 0 < p1) (tb : Bd 219902325555 t)
    (v1 : Bd (2 * p1) (S * p1 - Bs)) (v0 : Bd (2 * p0) (C * p0 - Bc)) (cS : Bd (p1 * (1099511627776 * s2)) (1099511627776 * s2 * Bs - p1 * (z * sz))) (cC : Bd (p0 * c2) (c2 * Bc - p0 * cz))
    (hT : Bd (3 * 1099511627776 * (q * (l * s2 * (l * c2)))) (l * c2 * (x * sx) - q * (l * s2) * (t * cx))) (hS : Bd (5 * (q * (1099511627776 * (l * s2)))) (z * q * (l * sz) - x * sx)) (hC : Bd (l * c2) (l * cz - cx)) : Bd (13 * 1099511627776) (S * 1099511627776 - t * C) := by
  have a1 : Bd (3 * (1099511627776 * s2)) (S * (1099511627776 * s2) - z * sz) := by
    refine Bd.cancelN hp1 ?_
    have k := v1.mul (show Bd (1099511627776 * s2) (1099511627776 * s2) from ⟨by omega, by omega⟩)
    have e : p1 * (S * (1099511627776 * s2) - z * sz) = (S * p1 - Bs) * (1099511627776 * s2) + (1099511627776 * s2 * Bs - p1 * (z * sz)) := by grind
    have e2 : p1 * (3 * (1099511627776 * s2)) = 2 * p1 * (1099511627776 * s2) + p1 * (1099511627776 * s2) := by grind
    rw [e, e2]
    exact k.add cS
  have a0 : Bd (3 * c2) (C * c2 - cz) := by
    refine Bd.cancelN hp0 ?_
    have k := v0.mul (show Bd c2 c2 from ⟨by omega, by omega⟩)
    have e : p0 * (C * c2 - cz) = (C * p0 - Bc) * c2 + (c2 * Bc - p0 * cz) := by grind
    have e2 : p0 * (3 * c2) = 2 * p0 * c2 + p0 * c2 := by grind
    rw [e, e2]
    exact k.add cC
  have a2 : Bd (9 * 1099511627776 * (s2 * c2)) (c2 * (z * sz) - s2 * (t * cz)) := by
    have hll : 0 < q * (l * l) := Int.mul_pos hq (Int.mul_pos hl hl)
    refine Bd.cancelN hll ?_
    have k1 := hS.mul (show Bd (l * c2) (l * c2) from ⟨by have := Int.mul_pos hl hc2; omega, by omega⟩)
    have k2 := (hC.mul tb).mul (show Bd (q * (l * s2)) (q * (l * s2)) from ⟨by have := Int.mul_pos hq (Int.mul_pos hl hs2); omega, by omega⟩)
    have e : q * (l * l) * (c2 * (z * sz) - s2 * (t * cz)) = (l * c2 * (x * sx) - q * (l * s2) * (t * cx)) + (z * q * (l * sz) - x * sx) * (l * c2) - (l * cz - cx) * t * (q * (l * s2)) := by grind
    have hm : 0 < q * (l * l) * (s2 * c2) := Int.mul_pos hll (Int.mul_pos hs2 hc2)
    have e1 : 3 * 1099511627776 * (q * (l * s2 * (l * c2))) = 3 * 1099511627776 * (q * (l * l) * (s2 * c2)) := by grind
    have e2 : 5 * (q * (1099511627776 * (l * s2))) * (l * c2) = 5 * 1099511627776 * (q * (l * l) * (s2 * c2)) := by grind
    have e3 : l * c2 * 219902325555 * (q * (l * s2)) = 219902325555 * (q * (l * l) * (s2 * c2)) := by grind
    have e4 : q * (l * l) * (9 * 1099511627776 * (s2 * c2)) = 9 * 1099511627776 * (q * (l * l) * (s2 * c2)) := by grind
    rw [e1] at hT
    rw [e2] at k1
    rw [e3] at k2
    rw [e, e4]
    generalize q * (l * l) * (s2 * c2) = M at *
    generalize l * c2 * (x * sx) - q * (l * s2) * (t * cx) = y1 at *
    generalize (z * q * (l * sz) - x * sx) * (l * c2) = y2 at *
    generalize (l * cz - cx) * t * (q * (l * s2)) = y3 at *
    unfold Bd at *
    omega
  have hm : 0 < s2 * c2 := Int.mul_pos hs2 hc2
  refine Bd.cancelN hm ?_
  have k1 := a1.mul (show Bd c2 c2 from ⟨by omega, by omega⟩)
  have k2 := (a0.mul tb).mul (show Bd s2 s2 from ⟨by omega, by omega⟩)
  have e : s2 * c2 * (S * 1099511627776 - t * C) = (S * (1099511627776 * s2) - z * sz) * c2 + (c2 * (z * sz) - s2 * (t * cz)) - (C * c2 - cz) * t * s2 := by grind
  have e1 : 3 * (1099511627776 * s2) * c2 = 3 * 1099511627776 * (s2 * c2) := by grind
  have e2 : 3 * c2 * 219902325555 * s2 = 659706976665 * (s2 * c2) := by grind
  have e3 : s2 * c2 * (13 * 1099511627776) = 13 * 1099511627776 * (s2 * c2) := by grind
  rw [e1] at k1
  rw [e2] at k2
  rw [e, e3]
  generalize s2 * c2 = M at *
  generalize (S * (1099511627776 * s2) - z * sz) * c2 = y1 at *
  generalize c2 * (z * sz) - M * 0 = y4 at *
  generalize (C * c2 - cz) * t * s2 = y3 at *
  unfold Bd at *
  omega
theorem horD_of (z first : Int) : horD (z * qD) first 4 (1099511627776, 1) = (lamD 4 1 * (horE first 4 (.c 1099511627776, 1)).1.at z 0, lamD 4 1 * (horE first 4 (.c 1099511627776, 1)).2) := by
  have h := horD_is z first 4 1 1099511627776 1
  have h2 := horE_at z 0 first 4 (.c 1099511627776, 1)
  change hor z first 4 (1099511627776, 1) = _ at h2
  rw [h2] at h
  exact h
theorem horD_E (u : E) (x y first : Int) : horD (u.at x y) first 4 (1099511627776, 1) = ((horDE u first 4 (.c 1099511627776, 1)).1.at x y, (horDE u first 4 (.c 1099511627776, 1)).2) :=
  horDE_at u x y first 4 (.c 1099511627776, 1)
/-- The angle of a tangent of up to a fifth. -/
theorem tan_is {t u : Int} (ht : 0 ≤ t ∧ t ≤ 218730000000) (hu : mul t t false = (u, false)) (ue : Bd 1099511627776 (2 * (u * 1099511627776 - t * t))) :
    ∃ v z, atL sub mul Fx.part u 13 (0, false) = (v, false) ∧ mul t v false = (z, false) ∧ 0 ≤ z ∧ z ≤ 229669000000 ∧ Bd (13 * 1099511627776) (Sv z * 1099511627776 - t * Cv z) := by
  obtain ⟨v, z, hv, hz, z0, z1, ze⟩ := angle_is ht hu ue
  refine ⟨v, z, hv, hz, z0, z1, ?_⟩
  have hP := cutP_small ht
  rw [p13_at] at ze
  obtain ⟨x, hx⟩ : ∃ x, x = t * p7.1.at 0 t := ⟨_, rfl⟩
  rw [← hx] at hP
  have hq := qD_pos
  have hp := pD_pos
  have he : Bd (4 * qD) (z * qD - x) := by
    refine Bd.cancelN hp ?_
    have k := ze.mul (show Bd qD qD from ⟨by omega, by omega⟩)
    have e : pD * (z * qD - x) = (z * pD - t * p13.1.at 0 t) * qD + (qD * (t * p13.1.at 0 t) - pD * x) := by
      generalize t * p13.1.at 0 t = w at *
      grind
    have e2 : pD * (4 * qD) = pD * qD + 3 * (qD * pD) := by grind
    rw [e, e2]
    exact k.add hP
  have hxb : Bd (229670000000 * qD) x := by
    have k1 : z * qD ≤ 229669000000 * qD := Int.mul_le_mul_of_nonneg_right z1 (by omega)
    have k2 : 0 ≤ z * qD := Int.mul_nonneg z0 (by omega)
    generalize z * qD = w at *
    unfold Bd at *; omega
  have lS := lipS_small hxb he
  have lC := lipC_small hxb he
  have aS : lipS.at x (z * qD - x) = (x + (z * qD - x)) * (horDE xy 1 4 (.c 1099511627776, 1)).1.at x (z * qD - x) - x * (horDE .x 1 4 (.c 1099511627776, 1)).1.at x (z * qD - x) := rfl
  have aC : lipC.at x (z * qD - x) = (horDE xy 0 4 (.c 1099511627776, 1)).1.at x (z * qD - x) - (horDE .x 0 4 (.c 1099511627776, 1)).1.at x (z * qD - x) := rfl
  have ex : x + (z * qD - x) = z * qD := by omega
  have h1 := horD_E xy x (z * qD - x) 1
  have h0 := horD_E xy x (z * qD - x) 0
  have h3 := horD_E .x x (z * qD - x) 1
  have h2 := horD_E .x x (z * qD - x) 0
  have exy : E.at x (z * qD - x) xy = z * qD := ex
  rw [exy, horD_of] at h1 h0
  have hx1 := horD_E uE 0 t 1
  have hx0 := horD_E uE 0 t 0
  have eu : E.at 0 t uE = x := hx.symm
  have exx : E.at x (z * qD - x) .x = x := rfl
  rw [eu] at hx1 hx0
  rw [exx, hx1] at h3
  rw [exx, hx0] at h2
  rw [aS, ex, ← (Prod.mk.inj h1).1, ← (Prod.mk.inj h3).1] at lS
  rw [aC, ← (Prod.mk.inj h0).1, ← (Prod.mk.inj h2).1] at lC
  have s2e : sD.2 = lamD 4 1 * s4.2 := by
    rw [(Prod.mk.inj h1).2]; kernel_rfl
  have c2e : cD.2 = lamD 4 1 * c4.2 := by
    rw [(Prod.mk.inj h0).2]; kernel_rfl
  have hT := tanE_small ht
  have aT : tanE.at 0 t = cD.2 * (E.at 0 t uE * sD.1.at 0 t) - qD * sD.2 * (t * cD.1.at 0 t) := rfl
  rw [aT, eu, s2e, c2e] at hT
  rw [s2e] at lS
  rw [c2e] at lC
  obtain ⟨-, -, v1, v0⟩ := val_is (t := z) ⟨z0, by omega⟩
  have tb : Bd 219902325555 t := ⟨by omega, by omega⟩
  exact tan_abs hq (lamD_pos 4 1 (by decide)) s4_pos c4_pos b0_pos b1_pos tb v1 v0 (cutS_small ⟨z0, by omega⟩) (cutC_small ⟨z0, by omega⟩) hT lS lC
#print axioms tan_is
end Go.Proofs.Ytkghoaggicnmoaa.Ns
