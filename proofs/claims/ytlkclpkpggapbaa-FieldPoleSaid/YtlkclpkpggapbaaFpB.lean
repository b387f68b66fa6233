/- The loop of the field as exact sums, near a pole. Conditions: as each says. -/
import Derived.Test.YtlkclpkpggapbaaFpA
namespace Go.Proofs.Ytlkclpkpggapbaa.Fd
open Go Go.Proofs.Ytlkclpkpggapbaa.Ae Go.Proofs.Ytlkclpkpggapbaa.Fx Go.Proofs.Ytlkclpkpggapbaa.Lx Go.Proofs.Ytlkclpkpggapbaa.Tx Go.Proofs.Ytlkclpkpggapbaa.Te Go.Proofs.Ytlkclpkpggapbaa.Rx Go.Proofs.Ytlkclpkpggapbaa.Row Go.Proofs.Ytlkclpkpggapbaa.Ve Go.Proofs.Ytlkclpkpggapbaa.Nx Go.Proofs.Ytlkclpkpggapbaa.Ns

def gk (tick : Int) (k : MK) : Int := (numP k.1 k.2 tick false).1.1
def hk (tick : Int) (k : MK) : Int := (numP k.1 k.2 tick false).1.2
def cm (u v : Int) (k : MK) : Int := (cs u v k.2.toNat).1.1
def sm (u v : Int) (k : MK) : Int := (cs u v k.2.toNat).1.2
def exU (r tick u v : Int) (T : MK → Tri) (k : MK) : Int := tau r k.1.toNat * (T k).1 * (gk tick k * cm u v k + hk tick k * sm u v k)
def exS (r tick u v : Int) (T : MK → Tri) (k : MK) : Int := tau r k.1.toNat * (T k).2.1 * (gk tick k * cm u v k + hk tick k * sm u v k)
def exE (r tick u v : Int) (T : MK → Tri) (k : MK) : Int := tau r k.1.toNat * (T k).2.2 * (gk tick k * sm u v k - hk tick k * cm u v k)
def sumW (f : MK → Int) : List MK → Int
  | [] => 0
  | k :: l => f k + sumW f l
def Q3 : Int := 1329227995784915872903807060280344576
def bI (m : Int) : Iv := bif m == 0 then ptI 1099511627776 else (-BB m.toNat, BB m.toNat)
def zI (m : Int) : Iv := bif m == 0 then ptI 0 else (-BB m.toNat, BB m.toNat)
def tri8 (X : TriI) : Bool := decide (-8796093022208 ≤ X.1.1 ∧ X.1.2 ≤ 8796093022208) && (decide (-8796093022208 ≤ X.2.1.1 ∧ X.2.1.2 ≤ 8796093022208) && decide (-8796093022208 ≤ X.2.2.1 ∧ X.2.2.2 ≤ 8796093022208))
def lim (k : MK) : Int := bif k.1 == 1 && k.2 == 0 then 76965813944320 else 32985348833280
def wit (L : Int) (A : Iv) : Bool := decide (-L ≤ A.1 ∧ A.2 ≤ L)
def chkK (TI : TTI) (k : MK) : Option Unit := numI k fun G H => bif tri8 (lookI k TI) then incI k G H (bI k.2) (zI k.2) (lookI k TI) (fun A B C => bif wit (lim k) A && (wit (lim k) B && wit (lim k) C) then some () else none) else none
theorem wit_bd {L : Int} {A : Iv} (h : wit L A = true) {x : Int} (hx : In A x) : Bd L x := by
  unfold wit at h
  have h := of_decide_eq_true h
  unfold In at hx
  exact ⟨by omega, by omega⟩
theorem tri8_bd {X : TriI} (h : tri8 X = true) {x : Tri} (hx : In3 X x) : Bd 8796093022208 x.1 ∧ Bd 8796093022208 x.2.1 ∧ Bd 8796093022208 x.2.2 := by
  unfold tri8 at h
  simp only [Bool.and_eq_true, decide_eq_true_eq] at h
  unfold In3 In at hx
  exact ⟨⟨by omega, by omega⟩, ⟨by omega, by omega⟩, ⟨by omega, by omega⟩⟩
theorem key_near {TI : TTI} {k : MK} (h : chkK TI k = some ()) (hk : k ∈ keys27) {tick : Int} (ht : 0 ≤ tick ∧ tick ≤ 157766400000) {T : MK → Tri} (hT : In3 (lookI k TI) (T k)) {t c s up0 south0 east0 : Int} (ht1 : In01 t)
    (hc : In (bI k.2) c) (hs : In (zI k.2) s) (u0 : Bd 1125899906842624 up0) (s0 : Bd 1125899906842624 south0) (e0 : Bd 1125899906842624 east0) :
    ∃ od a2 b2 c2, mid tick k (t, false) c s (T k) up0 south0 = ((up0 + a2 * (k.1 + 1), south0 - b2, od), false) ∧ eastP t od (T k).2.2 k.2 east0 false = (east0 + c2 * k.2, false) ∧
      Bd (lim k) (a2 * (k.1 + 1)) ∧ Bd (lim k) b2 ∧ Bd (lim k) (c2 * k.2) ∧ near9 1 a2 (t * (T k).1 * (gk tick k * c + Fd.hk tick k * s)) ∧ near9 1 b2 (t * (T k).2.1 * (gk tick k * c + Fd.hk tick k * s)) ∧ near9 1 c2 (t * (T k).2.2 * (gk tick k * s - Fd.hk tick k * c)) := by
  obtain ⟨g, h', G, H, hn, ig, ih, h⟩ := num_in hk ht h
  cases h8 : tri8 (lookI k TI) with
  | false => rw [h8] at h; cases h
  | true =>
    rw [h8, bt] at h
    obtain ⟨x1, x2, x3⟩ := tri8_bd h8 hT
    obtain ⟨od, a2, b2, c2, A, B, C, m1, m2, i1, i2, i3, n1, n2, n3, h⟩ := step_near h hn ig ih hc hs hT ht1 x1 x2 x3 u0 s0 e0
    have eg : gk tick k = g := by unfold gk; rw [hn]
    have eh : Fd.hk tick k = h' := by unfold Fd.hk; rw [hn]
    cases hw : wit (lim k) A && (wit (lim k) B && wit (lim k) C) with
    | false => rw [hw] at h; cases h
    | true =>
      simp only [Bool.and_eq_true] at hw
      rw [eg, eh]
      exact ⟨od, a2, b2, c2, m1, m2, wit_bd hw.1 i1, wit_bd hw.2.1 i2, wit_bd hw.2.2 i3, n1, n2, n3⟩
theorem cs_in {u v : Int} (hu : Bd 1099511627776 u) (hv : Bd 1099511627776 v) {m : Int} (hm : 0 ≤ m ∧ m ≤ 6) : In (bI m) (cs u v m.toNat).1.1 ∧ In (zI m) (cs u v m.toNat).1.2 := by
  obtain ⟨-, h1, h2⟩ := cs_ok hu hv m.toNat (by omega)
  unfold bI zI
  cases hz : (m == 0) with
  | true =>
    have : m = 0 := by simpa using hz
    subst this
    exact ⟨pt_in _, pt_in _⟩
  | false => exact ⟨h1, h2⟩
def seqOk : List MK → Nat → Nat → Bool
  | [], _, _ => true
  | k :: l, n, m => bif k.2 == 0 then decide (k.1 = (n : Int) + 1) && seqOk l (n + 1) 1 else (decide (k.1 = (n : Int)) && decide (k.2 = (m : Int))) && seqOk l n (m + 1)
theorem key_bd : ∀ k ∈ keys27, 1 ≤ k.1 ∧ k.1 ≤ 6 ∧ 0 ≤ k.2 ∧ k.2 ≤ 6 := by
  intro k hk
  have h : keys27.all (fun k => decide (1 ≤ k.1 ∧ k.1 ≤ 6 ∧ 0 ≤ k.2 ∧ k.2 ≤ 6)) = true := by kernel_rfl
  exact of_decide_eq_true (List.all_eq_true.1 h k hk)
/-- One step, with the right state. -/
theorem stp_near {TI : TTI} {k : MK} (h : chkK TI k = some ()) (hk : k ∈ keys27) {tick : Int} (ht : 0 ≤ tick ∧ tick ≤ 157766400000) {T : MK → Tri} (hT : In3 (lookI k TI) (T k)) {t u v : Int} (ht1 : In01 t)
    (hu : Bd 1099511627776 u) (hv : Bd 1099511627776 v) {e : Es} (u0 : Bd 1125899906842624 e.up) (s0 : Bd 1125899906842624 e.south) (e0 : Bd 1125899906842624 e.east) :
    ∃ a2 b2 c2, stP u v tick T k (t, false) (cm u v k) (sm u v k) e = ⟨t, (cs u v (k.2.toNat + 1)).1.1, (cs u v (k.2.toNat + 1)).1.2, e.up + a2 * (k.1 + 1), e.south - b2, e.east + c2 * k.2, false⟩ ∧
      Bd (lim k) (a2 * (k.1 + 1)) ∧ Bd (lim k) b2 ∧ Bd (lim k) (c2 * k.2) ∧ near9 1 a2 (t * (T k).1 * (gk tick k * cm u v k + Fd.hk tick k * sm u v k)) ∧ near9 1 b2 (t * (T k).2.1 * (gk tick k * cm u v k + Fd.hk tick k * sm u v k)) ∧ near9 1 c2 (t * (T k).2.2 * (gk tick k * sm u v k - Fd.hk tick k * cm u v k)) := by
  obtain ⟨k1, k2, k3, k4⟩ := key_bd k hk
  obtain ⟨hc, hs⟩ := cs_in hu hv ⟨k3, k4⟩
  obtain ⟨od, a2, b2, c2, m1, m2, l1, l2, l3, n1, n2, n3⟩ := key_near h hk ht hT ht1 hc hs u0 s0 e0
  refine ⟨a2, b2, c2, ?_, l1, l2, l3, n1, n2, n3⟩
  rw [st_is]
  unfold cm sm
  rw [m1]
  dsimp only
  rw [m2]
  dsimp only
  rw [cs_step hu hv (by omega)]
def eFoldP (u v ratio tick : Int) (T : MK → Tri) (l : List MK) (e : Es) : Es := eFold add sub mul Fx.part numP u v ratio tick T l e
theorem eFoldP_cons (u v ratio tick : Int) (T : MK → Tri) (k : MK) (l : List MK) (e : Es) : eFoldP u v ratio tick T (k :: l) e = eFoldP u v ratio tick T l (eStepP u v ratio tick T k e) := rfl
def nearW (w z y : Int) : Prop := Bd (w * (9 * Q3)) (Q3 * z - y)
/-- The sums that the loop makes are near the exact ones. -/
theorem fold_near {TI : TTI} {T : MK → Tri} {tick r u v : Int} (ht : 0 ≤ tick ∧ tick ≤ 157766400000) (hT : ∀ k, In3 (lookI k TI) (T k)) (hr : In01 (rho r)) (hu : Bd 1099511627776 u) (hv : Bd 1099511627776 v) :
    ∀ (l : List MK) (n m : Nat) (e : Es) (B : Int), (∀ k ∈ l, k ∈ keys27 ∧ chkK TI k = some ()) → seqOk l n m = true → e.bad = false → e.t = tau r n → (m ≠ 0 → (e.cos, e.sin) = (cs u v m).1) →
      0 ≤ B → Bd B e.up → Bd B e.south → Bd B e.east → B + sumW lim l ≤ 1125899906842624 →
      ∃ e', eFoldP u v (rho r) tick T l e = e' ∧ e'.bad = false ∧ Bd (B + sumW lim l) e'.up ∧ Bd (B + sumW lim l) e'.south ∧ Bd (B + sumW lim l) e'.east ∧
        nearW (sumW (fun k => k.1 + 1) l) (e'.up - e.up) (sumW (fun k => (k.1 + 1) * exU r tick u v T k) l) ∧
        nearW (sumW (fun _ => 1) l) (e.south - e'.south) (sumW (exS r tick u v T) l) ∧
        nearW (sumW (fun k => k.2) l) (e'.east - e.east) (sumW (fun k => k.2 * exE r tick u v T k) l)
  | [], n, m, e, B, _, _, hb, _, _, hB, b1, b2, b3, _ => by
    refine ⟨e, rfl, hb, ?_, ?_, ?_, ?_, ?_, ?_⟩ <;> simp only [sumW, Int.add_zero, Int.sub_self, nearW, Int.mul_zero, Int.zero_mul]
    · exact b1
    · exact b2
    · exact b3
    · exact ⟨by decide, by decide⟩
    · exact ⟨by decide, by decide⟩
    · exact ⟨by decide, by decide⟩
  | k :: l, n, m, e, B, hl, hq, hb, h1, h2, hB, b1, b2, b3, hS => by
    obtain ⟨hk, hc⟩ := hl k (List.mem_cons_self ..)
    obtain ⟨q1, q2, q3, q4⟩ := key_bd k hk
    have hlim : 0 ≤ lim k := by unfold lim; cases (k.1 == 1 && k.2 == 0) <;> decide
    have hsum : ∀ l : List MK, 0 ≤ sumW lim l := by
      intro l
      induction l with
      | nil => exact Int.le_refl _
      | cons a l ih =>
        have : 0 ≤ lim a := by unfold lim; cases (a.1 == 1 && a.2 == 0) <;> decide
        unfold sumW; omega
    have hsl := hsum l
    have eS : sumW lim (k :: l) = lim k + sumW lim l := rfl
    rw [eS] at hS
    obtain ⟨n', m', hst, hq', hn', hm'⟩ : ∃ n' m', eStepP u v (rho r) tick T k e = stP u v tick T k (tau r n', false) (cm u v k) (sm u v k) e ∧ seqOk l n' m' = true ∧ n' = k.1.toNat ∧ m' = k.2.toNat + 1 := by
      unfold seqOk at hq
      unfold eStepP
      rw [eStep_st, hb]
      cases hz : (k.2 == 0) with
      | true =>
        have hz0 : k.2 = 0 := by simpa using hz
        rw [hz, bt] at hq
        obtain ⟨a1, a2⟩ := Bool.and_eq_true_iff.1 hq
        have a1 := of_decide_eq_true a1
        refine ⟨n + 1, 1, ?_, a2, by omega, by omega⟩
        rw [bt, bt, bt, h1, tau_succ hr n]
        unfold cm sm
        rw [hz0]
        rfl
      | false =>
        have hz0 : k.2 ≠ 0 := by simpa using hz
        rw [hz, bf] at hq
        obtain ⟨a1, a2⟩ := Bool.and_eq_true_iff.1 hq
        obtain ⟨a3, a4⟩ := Bool.and_eq_true_iff.1 a1
        have a3 := of_decide_eq_true a3
        have a4 := of_decide_eq_true a4
        have hm0 : m ≠ 0 := by omega
        have g := h2 hm0
        have c1 : e.cos = (cs u v m).1.1 := by rw [← g]
        have c2 : e.sin = (cs u v m).1.2 := by rw [← g]
        have em : k.2.toNat = m := by omega
        refine ⟨n, m + 1, ?_, a2, by omega, by omega⟩
        rw [bf, bf, bf, h1, c1, c2]
        unfold cm sm
        rw [em]
        rfl
    obtain ⟨x, y, z, hs, l1, l2, l3, n1, n2, n3⟩ := stp_near hc hk ht (hT k) (tau_in hr n') hu hv (e := e) (b1.mono (by omega)) (b2.mono (by omega)) (b3.mono (by omega))
    have hc1 : Bd (B + lim k) (e.up + x * (k.1 + 1)) := b1.add l1
    have hc2 : Bd (B + lim k) (e.south - y) := b2.sub l2
    have hc3 : Bd (B + lim k) (e.east + z * k.2) := b3.add l3
    obtain ⟨e', he, hb', d1, d2, d3, r1, r2, r3⟩ := fold_near ht hT hr hu hv l n' m' ⟨tau r n', (cs u v (k.2.toNat + 1)).1.1, (cs u v (k.2.toNat + 1)).1.2, e.up + x * (k.1 + 1), e.south - y, e.east + z * k.2, false⟩ (B + lim k)
      (fun k hk => hl k (List.mem_cons_of_mem _ hk)) hq' rfl rfl (fun _ => by rw [hm']) (by omega) hc1 hc2 hc3 (by omega)
    refine ⟨e', ?_, hb', ?_, ?_, ?_, ?_, ?_, ?_⟩
    · rw [eFoldP_cons, hst, hs]; exact he
    · rw [eS, ← Int.add_assoc]; exact d1
    · rw [eS, ← Int.add_assoc]; exact d2
    · rw [eS, ← Int.add_assoc]; exact d3
    · have w : nearW (k.1 + 1) (x * (k.1 + 1)) ((k.1 + 1) * exU r tick u v T k) := by
        unfold near9 at n1
        unfold exU
        rw [← hn']
        have := (show Bd (k.1 + 1) (k.1 + 1) from ⟨by omega, by omega⟩).mul n1
        unfold nearW Q3
        have e1 : 1329227995784915872903807060280344576 * (x * (k.1 + 1)) - (k.1 + 1) * (tau r n' * (T k).1 * (gk tick k * cm u v k + Fd.hk tick k * sm u v k)) = (k.1 + 1) * (1329227995784915872903807060280344576 * x - tau r n' * (T k).1 * (gk tick k * cm u v k + Fd.hk tick k * sm u v k)) := by grind
        rw [e1, show (k.1 + 1) * (9 * 1329227995784915872903807060280344576) = (k.1 + 1) * (1 * (9 * 1329227995784915872903807060280344576)) by omega]
        exact this
      have r1 : nearW (sumW (fun k => k.1 + 1) l) (e'.up - (e.up + x * (k.1 + 1))) (sumW (fun k => (k.1 + 1) * exU r tick u v T k) l) := r1
      unfold nearW Q3 at *
      simp only [sumW]
      generalize sumW (fun k => (k.1 + 1) * exU r tick u v T k) l = S1 at *
      generalize (k.1 + 1) * exU r tick u v T k = S2 at *
      generalize x * (k.1 + 1) = S3 at *
      generalize sumW (fun k => k.1 + 1) l = S4 at *
      unfold Bd at *
      omega
    · have w : nearW 1 y (exS r tick u v T k) := by
        unfold near9 at n2
        unfold exS nearW Q3
        rw [← hn']
        exact n2
      have r2 : nearW (sumW (fun _ => 1) l) (e.south - y - e'.south) (sumW (exS r tick u v T) l) := r2
      unfold nearW Q3 at *
      simp only [sumW]
      generalize sumW (exS r tick u v T) l = S1 at *
      generalize exS r tick u v T k = S2 at *
      generalize sumW (fun _ => 1) l = S4 at *
      unfold Bd at *
      omega
    · have w : nearW k.2 (z * k.2) (k.2 * exE r tick u v T k) := by
        unfold near9 at n3
        unfold exE
        rw [← hn']
        have := (show Bd k.2 k.2 from ⟨by omega, by omega⟩).mul n3
        unfold nearW Q3
        have e1 : 1329227995784915872903807060280344576 * (z * k.2) - k.2 * (tau r n' * (T k).2.2 * (gk tick k * sm u v k - Fd.hk tick k * cm u v k)) = k.2 * (1329227995784915872903807060280344576 * z - tau r n' * (T k).2.2 * (gk tick k * sm u v k - Fd.hk tick k * cm u v k)) := by grind
        rw [e1, show k.2 * (9 * 1329227995784915872903807060280344576) = k.2 * (1 * (9 * 1329227995784915872903807060280344576)) by omega]
        exact this
      have r3 : nearW (sumW (fun k => k.2) l) (e'.east - (e.east + z * k.2)) (sumW (fun k => k.2 * exE r tick u v T k) l) := r3
      unfold nearW Q3 at *
      simp only [sumW]
      generalize sumW (fun k => k.2 * exE r tick u v T k) l = S1 at *
      generalize k.2 * exE r tick u v T k = S2 at *
      generalize z * k.2 = S3 at *
      generalize sumW (fun k : MK => k.2) l = S4 at *
      unfold Bd at *
      omega
def mg (A : Iv) : Int := mx (-A.1) A.2
theorem mg_bd {A : Iv} {x : Int} (h : In A x) : Bd (mg A) x := by
  have := le_mx (-A.1) A.2
  unfold In at h
  unfold mg
  exact ⟨by omega, by omega⟩
def dv (A : Iv) (c : Int) : Int := mg (A.1 - c, A.2 - c)
theorem dv_bd {A : Iv} {x : Int} (c : Int) (h : In A x) : Bd (dv A c) (x - c) := mg_bd (A := (A.1 - c, A.2 - c)) (by unfold In at *; dsimp only; omega)
section
variable (w q : Int → Int) (sg : Int)
/-- How far a key's parts are from the main ones. -/
def polB (TI : TTI) (k : MK) : Option (Int × Int × Int) := numI k fun G H =>
  some ((k.1 + 1) * (bif k.2 == 0 then 1099511627776 * dv (lookI k TI).1 (w k.1 * 1099511627776) * ((mg G + mg H) * BB k.2.toNat) else 1099511627776 * mg (lookI k TI).1 * ((mg G + mg H) * BB k.2.toNat)),
    (bif k.2 == 1 then 1099511627776 * dv (lookI k TI).2.1 (sg * q k.1) * ((mg G + mg H) * BB k.2.toNat) else 1099511627776 * mg (lookI k TI).2.1 * ((mg G + mg H) * BB k.2.toNat)),
    k.2 * (bif k.2 == 1 then 1099511627776 * dv (lookI k TI).2.2 (q k.1) * ((mg G + mg H) * BB k.2.toNat) else 1099511627776 * mg (lookI k TI).2.2 * ((mg G + mg H) * BB k.2.toNat)))
variable (r tick u v : Int)
def mainU (k : MK) : Int := bif k.2 == 0 then (k.1 + 1) * (tau r k.1.toNat * (w k.1 * 1099511627776) * (gk tick k * cm u v k + hk tick k * sm u v k)) else 0
def mainS (k : MK) : Int := bif k.2 == 1 then tau r k.1.toNat * (sg * q k.1) * (gk tick k * cm u v k + hk tick k * sm u v k) else 0
def mainE (k : MK) : Int := bif k.2 == 1 then k.2 * (tau r k.1.toNat * q k.1 * (gk tick k * sm u v k - hk tick k * cm u v k)) else 0
end
theorem cs_bd {u v : Int} (hu : Bd 1099511627776 u) (hv : Bd 1099511627776 v) {k : MK} (hk : 0 ≤ k.2 ∧ k.2 ≤ 6) : Bd (BB k.2.toNat) (cm u v k) ∧ Bd (BB k.2.toNat) (sm u v k) := by
  obtain ⟨-, h1, h2⟩ := cs_ok hu hv k.2.toNat (by omega)
  exact ⟨h1, h2⟩
theorem part_bd {t P c A y Y : Int} (ht : In01 t) (hP : Bd A (P - c)) (hy : Bd Y y) : Bd (1099511627776 * A * Y) (t * P * y - t * c * y) := by
  have bt : Bd 1099511627776 t := ⟨by have := ht.1; omega, ht.2⟩
  have h := (bt.mul hP).mul hy
  have e : t * (P - c) * y = t * P * y - t * c * y := by grind
  rw [e] at h; exact h
theorem part_bd0 {t P A y Y : Int} (ht : In01 t) (hP : Bd A P) (hy : Bd Y y) : Bd (1099511627776 * A * Y) (t * P * y - 0) := by
  have bt : Bd 1099511627776 t := ⟨by have := ht.1; omega, ht.2⟩
  rw [Int.sub_zero]
  exact (bt.mul hP).mul hy
theorem scale_bd {n A x : Int} (hn : 0 ≤ n) (h : Bd A x) : Bd (n * A) (n * x) := (show Bd n n from ⟨by omega, by omega⟩).mul h
theorem pol_in {w q : Int → Int} {sg : Int} {TI : TTI} {k : MK} {B : Int × Int × Int} (h : polB w q sg TI k = some B) (hk : k ∈ keys27) {r tick u v : Int} (ht : 0 ≤ tick ∧ tick ≤ 157766400000) (hr : In01 (rho r)) (hu : Bd 1099511627776 u) (hv : Bd 1099511627776 v) {T : MK → Tri} (hT : In3 (lookI k TI) (T k)) :
    Bd B.1 ((k.1 + 1) * exU r tick u v T k - mainU w r tick u v k) ∧ Bd B.2.1 (exS r tick u v T k - mainS q sg r tick u v k) ∧ Bd B.2.2 (k.2 * exE r tick u v T k - mainE q r tick u v k) := by
  obtain ⟨q1, q2, q3, q4⟩ := key_bd k hk
  obtain ⟨g, h', G, H, hn, ig, ih, h⟩ := num_in hk ht h
  have eg : gk tick k = g := by unfold gk; rw [hn]
  have eh : Fd.hk tick k = h' := by unfold Fd.hk; rw [hn]
  obtain ⟨c1, c2⟩ := cs_bd (k := k) hu hv ⟨q3, q4⟩
  have y1 : Bd ((mg G + mg H) * BB k.2.toNat) (gk tick k * cm u v k + Fd.hk tick k * sm u v k) := by
    rw [eg, eh, Int.add_mul]
    exact ((mg_bd ig).mul c1).add ((mg_bd ih).mul c2)
  have y2 : Bd ((mg G + mg H) * BB k.2.toNat) (gk tick k * sm u v k - Fd.hk tick k * cm u v k) := by
    rw [eg, eh, Int.add_mul]
    exact ((mg_bd ig).mul c2).sub ((mg_bd ih).mul c1)
  have ht1 := tau_in hr k.1.toNat
  simp only [Option.some.injEq] at h
  rw [← h]
  dsimp only
  obtain ⟨x1, x2, x3⟩ := hT
  refine ⟨?_, ?_, ?_⟩
  · unfold mainU exU
    cases k.2 == 0 with
    | true =>
      rw [bt, bt, ← Int.mul_sub]
      exact scale_bd (by omega) (part_bd ht1 (dv_bd _ x1) y1)
    | false =>
      rw [bf, bf]
      have := scale_bd (n := k.1 + 1) (by omega) (part_bd0 ht1 (mg_bd x1) y1)
      rw [Int.sub_zero] at this ⊢
      exact this
  · unfold mainS exS
    cases k.2 == 1 with
    | true => rw [bt, bt]; exact part_bd ht1 (dv_bd _ x2) y1
    | false => rw [bf, bf]; exact part_bd0 ht1 (mg_bd x2) y1
  · unfold mainE exE
    cases k.2 == 1 with
    | true =>
      rw [bt, bt, ← Int.mul_sub]
      exact scale_bd q3 (part_bd ht1 (dv_bd _ x3) y2)
    | false =>
      rw [bf, bf]
      have := scale_bd (n := k.2) q3 (part_bd0 ht1 (mg_bd x3) y2)
      rw [Int.sub_zero] at this ⊢
      exact this
def polL (w q : Int → Int) (sg : Int) (TI : TTI) : List MK → Option (Int × Int × Int)
  | [] => some (0, 0, 0)
  | k :: l => (polB w q sg TI k).bind fun A => fI A.1 fun a => fI A.2.1 fun b => fI A.2.2 fun c => (polL w q sg TI l).bind fun B => fI (a + B.1) fun x => fI (b + B.2.1) fun y => fI (c + B.2.2) fun z => some (x, y, z)
theorem polL_in {w q : Int → Int} {sg : Int} {TI : TTI} {r tick u v : Int} (ht : 0 ≤ tick ∧ tick ≤ 157766400000) (hr : In01 (rho r)) (hu : Bd 1099511627776 u) (hv : Bd 1099511627776 v) {T : MK → Tri} (hT : ∀ k, In3 (lookI k TI) (T k)) :
    ∀ (l : List MK) (B : Int × Int × Int), (∀ k ∈ l, k ∈ keys27) → polL w q sg TI l = some B →
    Bd B.1 (sumW (fun k => (k.1 + 1) * exU r tick u v T k) l - sumW (mainU w r tick u v) l) ∧ Bd B.2.1 (sumW (exS r tick u v T) l - sumW (mainS q sg r tick u v) l) ∧ Bd B.2.2 (sumW (fun k => k.2 * exE r tick u v T k) l - sumW (mainE q r tick u v) l)
  | [], B, _, h => by
    unfold polL at h
    simp only [Option.some.injEq] at h
    rw [← h]
    have z : Bd 0 (0 - 0) := ⟨by decide, by decide⟩
    exact ⟨z, z, z⟩
  | k :: l, B, hl, h => by
    unfold polL at h
    cases hA : polB w q sg TI k with
    | none => rw [hA] at h; cases h
    | some A =>
      cases hB : polL w q sg TI l with
      | none => rw [hA, hB] at h; simp only [Option.bind_some, Option.bind_none, fI_eq] at h; cases h
      | some A' =>
        rw [hA, hB] at h
        simp only [Option.bind_some, fI_eq, Option.some.injEq] at h
        rw [← h]
        obtain ⟨a1, a2, a3⟩ := pol_in hA (hl k (List.mem_cons_self ..)) ht hr hu hv (hT k)
        obtain ⟨b1, b2, b3⟩ := polL_in ht hr hu hv hT l A' (fun k hk => hl k (List.mem_cons_of_mem _ hk)) hB
        simp only [sumW]
        refine ⟨?_, ?_, ?_⟩
        · have := a1.add b1
          unfold Bd at *
          omega
        · have := a2.add b2
          unfold Bd at *
          omega
        · have := a3.add b3
          unfold Bd at *
          omega
def qN (n : Int) : Int := bif n == 1 then 1099511627776 else bif n == 2 then 1904382000000 else bif n == 3 then 2693162000000 else bif n == 4 then 3476740000000 else bif n == 5 then 4258050000000 else 5037950000000
def wN (_ : Int) : Int := 1
def qS (n : Int) : Int := bif n == 2 || (n == 4 || n == 6) then -(qN n) else qN n
def wS (n : Int) : Int := bif n == 2 || (n == 4 || n == 6) then 1 else -1
/-- The bounds on what is beside the main parts: 2.5 up, 1.5 south, 0.6 east. -/
def smallB (B : Int × Int × Int) : Bool := decide (B.1 ≤ 2748779069440 * Q3) && (decide (B.2.1 ≤ 1649267441664 * Q3) && decide (B.2.2 ≤ 659706976665 * Q3))
def poleK (w q : Int → Int) (sg : Int) (TI : TTI) : Option Unit := bif keys27.all (fun k => (chkK TI k).isSome) then (polL w q sg TI keys27).bind fun B => bif smallB B then some () else none else none
def cN : Iv := (1099485227776, 1099511627777)
def cS : Iv := (-1099511627777, -1099485227776)
def sP : Iv := (0, 7618500000)
theorem north_ok : termsI cN sP (poleK wN qN 1) = some () := by kernel_rfl
theorem south_ok : termsI cS sP (poleK wS qS (-1)) = some () := by kernel_rfl
theorem poleK_in {w q : Int → Int} {sg : Int} {TI : TTI} (h : poleK w q sg TI = some ()) : (∀ k ∈ keys27, chkK TI k = some ()) ∧ ∃ B, polL w q sg TI keys27 = some B ∧ smallB B = true := by
  unfold poleK at h
  cases h1 : keys27.all (fun k => (chkK TI k).isSome) with
  | false => rw [h1] at h; cases h
  | true =>
    rw [h1, bt] at h
    refine ⟨fun k hk => ?_, ?_⟩
    · have := List.all_eq_true.1 h1 k hk
      cases hc : chkK TI k with
      | none => rw [hc] at this; cases this
      | some x => cases x; rfl
    · cases hB : polL w q sg TI keys27 with
      | none => rw [hB] at h; cases h
      | some B =>
        rw [hB] at h
        simp only [Option.bind_some] at h
        cases hs : smallB B with
        | false => rw [hs] at h; cases h
        | true => exact ⟨B, rfl, hs⟩
/-- The end of the body, of numbers that are small enough. -/
theorem last_is {c s u v : Int} {e : Es} (hb : e.bad = false) (b1 : Bd 1125899906842624 e.up) (b2 : Bd 1125899906842624 e.south) (b3 : Bd 1125899906842624 e.east)
    (hc : Bd 1099511627777 c) (hs : Bd 1099511627777 s) (hu : Bd 1099511627777 u) (hv : Bd 1099511627777 v) :
    ∃ X Y Z a, eLastV add sub mul c s u v e = (⟨X, Y, Z⟩, false) ∧ Bd 1099511627776 (1099511627776 * a - (e.up * s + e.south * c)) ∧ Bd 1099511627776 (1099511627776 * X - (a * u - e.east * v)) ∧
      Bd 1099511627776 (1099511627776 * Y - (a * v + e.east * u)) ∧ Bd 1099511627776 (1099511627776 * Z - (e.up * c - e.south * s)) := by
  obtain ⟨a1, ha1, ba1, na1⟩ := mul_b (a := e.up) (b := s) 1125899906842624 1099511627777 1125899906850000 b1 hs (by decide)
  obtain ⟨a2, ha2, ba2, na2⟩ := mul_b (a := e.south) (b := c) 1125899906842624 1099511627777 1125899906850000 b2 hc (by decide)
  have ha := add_b (a := a1) (b := a2) 1125899906850000 1125899906850000 ba1 ba2 (by decide)
  have ba := ba1.add ba2
  obtain ⟨x1, hx1, bx1, nx1⟩ := mul_b (a := a1 + a2) (b := u) (1125899906850000 + 1125899906850000) 1099511627777 2251799813720000 ba hu (by decide)
  obtain ⟨x2, hx2, bx2, nx2⟩ := mul_b (a := e.east) (b := v) 1125899906842624 1099511627777 1125899906850000 b3 hv (by decide)
  have hx := sub_b (a := x1) (b := x2) 2251799813720000 1125899906850000 bx1 bx2 (by decide)
  obtain ⟨y1, hy1, by1, ny1⟩ := mul_b (a := a1 + a2) (b := v) (1125899906850000 + 1125899906850000) 1099511627777 2251799813720000 ba hv (by decide)
  obtain ⟨y2, hy2, by2, ny2⟩ := mul_b (a := e.east) (b := u) 1125899906842624 1099511627777 1125899906850000 b3 hu (by decide)
  have hy := add_b (a := y1) (b := y2) 2251799813720000 1125899906850000 by1 by2 (by decide)
  obtain ⟨z1, hz1, bz1, nz1⟩ := mul_b (a := e.up) (b := c) 1125899906842624 1099511627777 1125899906850000 b1 hc (by decide)
  obtain ⟨z2, hz2, bz2, nz2⟩ := mul_b (a := e.south) (b := s) 1125899906842624 1099511627777 1125899906850000 b2 hs (by decide)
  have hz := sub_b (a := z1) (b := z2) 1125899906850000 1125899906850000 bz1 bz2 (by decide)
  refine ⟨x1 - x2, y1 + y2, z1 - z2, a1 + a2, ?_, ?_, ?_, ?_, ?_⟩
  · unfold eLastV
    simp only [hb, ha1, ha2, ha, hx1, hx2, hx, hy1, hy2, hy, hz1, hz2, hz]
    rfl
  · generalize e.up * s = p at *
    generalize e.south * c = q at *
    unfold Bd at *; omega
  · generalize (a1 + a2) * u = p at *
    generalize e.east * v = q at *
    unfold Bd at *; omega
  · generalize (a1 + a2) * v = p at *
    generalize e.east * u = q at *
    unfold Bd at *; omega
  · generalize e.up * c = p at *
    generalize e.south * s = q at *
    unfold Bd at *; omega
theorem tmP_is {c s : Int} {T : TT} (h : termsP c s false = (T, false)) : tmP c s false = (fun k => lookT k T, false) := by
  unfold tmP
  rw [h]
theorem lims : sumW lim keys27 = 934584883609600 := by kernel_rfl
theorem wsum : sumW (fun k => k.1 + 1) keys27 = 139 ∧ sumW (fun _ => 1) keys27 = 27 ∧ sumW (fun k => k.2) keys27 = 56 := ⟨by kernel_rfl, by kernel_rfl, by kernel_rfl⟩
/-- The body's sums near a pole. -/
theorem body_pole {w q : Int → Int} {sg : Int} {C : Iv} (hK : termsI C sP (poleK w q sg) = some ()) {tick r c s u v : Int} (ht : 0 ≤ tick ∧ tick ≤ 157766400000) (hr : 7005208482886 ≤ r ∧ r ≤ 4611686018427387904) (hc : In C c) (hs : In sP s)
    (hu : Bd 1099511627776 u) (hv : Bd 1099511627776 v) :
    ∃ e : Es, eBodyVP tick r c s u v false = eLastV add sub mul c s u v e ∧ e.bad = false ∧ Bd 934584883609600 e.up ∧ Bd 934584883609600 e.south ∧ Bd 934584883609600 e.east ∧
      Bd (2858730232218 * Q3) (Q3 * e.up - sumW (mainU w r tick u v) keys27) ∧ Bd (1759218604442 * Q3) (Q3 * -e.south - sumW (mainS q sg r tick u v) keys27) ∧ Bd (714682558055 * Q3) (Q3 * e.east - sumW (mainE q r tick u v) keys27) := by
  obtain ⟨hd, hr1, -⟩ := rho_is hr
  obtain ⟨TI, T, hT, hR, hK⟩ := terms_in hK hc hs
  obtain ⟨h1, B, hB, hB2⟩ := poleK_in hK
  have hl := fun k => hR.look k
  obtain ⟨e, he, hb, d1, d2, d3, r1, r2, r3⟩ := fold_near ht hl hr1 hu hv keys27 0 0 ⟨tau r 0, 0, 0, 0, 0, 0, false⟩ 0 (fun k hk => ⟨hk, h1 k hk⟩) (by kernel_rfl) rfl rfl (fun h => absurd rfl h) (by decide) (show Bd 0 0 from ⟨by decide, by decide⟩) (show Bd 0 0 from ⟨by decide, by decide⟩) (show Bd 0 0 from ⟨by decide, by decide⟩) (by rw [lims]; decide)
  obtain ⟨p1, p2, p3⟩ := polL_in (sg := sg) (w := w) (q := q) ht hr1 hu hv hl keys27 B (fun k hk => hk) hB
  rw [lims, Int.zero_add] at d1 d2 d3
  obtain ⟨w1, w2, w3⟩ := wsum
  rw [w1] at r1
  rw [w2] at r2
  rw [w3] at r3
  unfold smallB at hB2
  simp only [Bool.and_eq_true, decide_eq_true_eq] at hB2
  obtain ⟨k1, k2, k3⟩ := hB2
  refine ⟨e, ?_, hb, d1, d2, d3, ?_, ?_, ?_⟩
  · unfold eBodyVP
    rw [eBody_tail, tmP_is hT]
    unfold tailG
    dsimp only
    rw [hd]
    dsimp only
    rw [tau_zero hr1]
    dsimp only
    rw [← he]
    rfl
  · unfold nearW Q3 at r1
    unfold Q3 at *
    generalize sumW (mainU w r tick u v) keys27 = M at *
    generalize sumW (fun k => (k.1 + 1) * exU r tick u v (fun k => lookT k T) k) keys27 = N at *
    unfold Bd at *
    dsimp only at r1
    omega
  · unfold nearW Q3 at r2
    unfold Q3 at *
    generalize sumW (mainS q sg r tick u v) keys27 = M at *
    generalize sumW (exS r tick u v (fun k => lookT k T)) keys27 = N at *
    unfold Bd at *
    dsimp only at r2
    omega
  · unfold nearW Q3 at r3
    unfold Q3 at *
    generalize sumW (mainE q r tick u v) keys27 = M at *
    generalize sumW (fun k => k.2 * exE r tick u v (fun k => lookT k T) k) keys27 = N at *
    unfold Bd at *
    dsimp only at r3
    omega
end Go.Proofs.Ytlkclpkpggapbaa.Fd
