/- The loop of the field as exact sums, near a pole. Conditions: as each says. -/
import Derived.Test.YtcagaaaibhifdaaJg
import Derived.Test.YtcagaaaibhifdaaJd
namespace Go.Proofs.Ytcagaaaibhifdaa.Fd
open Go Go.Proofs.Ytcagaaaibhifdaa.Ae Go.Proofs.Ytcagaaaibhifdaa.Fx Go.Proofs.Ytcagaaaibhifdaa.Lx Go.Proofs.Ytcagaaaibhifdaa.Tx Go.Proofs.Ytcagaaaibhifdaa.Te Go.Proofs.Ytcagaaaibhifdaa.Rx Go.Proofs.Ytcagaaaibhifdaa.Row Go.Proofs.Ytcagaaaibhifdaa.Ve Go.Proofs.Ytcagaaaibhifdaa.Nx Go.Proofs.Ytcagaaaibhifdaa.Ns

def gk (tick : Int) (k : MK) : Int := (numP k.1 k.2 tick false).1.1
def hk (tick : Int) (k : MK) : Int := (numP k.1 k.2 tick false).1.2
def cm (u v : Int) (k : MK) : Int := (cs u v k.2.toNat).1.1
def sm (u v : Int) (k : MK) : Int := (cs u v k.2.toNat).1.2
def exU (r tick u v : Int) (T : MK → Tri) (k : MK) : Int := tau r k.1.toNat * (T k).1 * (gk tick k * cm u v k + hk tick k * sm u v k)
def exS (r tick u v : Int) (T : MK → Tri) (k : MK) : Int := tau r k.1.toNat * (T k).2.1 * (gk tick k * cm u v k + hk tick k * sm u v k)
def exE (r tick u v : Int) (T : MK → Tri) (k : MK) : Int := tau r k.1.toNat * (T k).2.2 * (gk tick k * sm u v k - hk tick k * cm u v k)
def sumW (f : MK → Int) : List MK → Int
  | [] => 0
  | k :: l => f k + sumW f l
def Q3 : Int := 1329227995784915872903807060280344576
def bI (m : Int) : Iv := bif m == 0 then ptI 1099511627776 else (-BB m.toNat, BB m.toNat)
def zI (m : Int) : Iv := bif m == 0 then ptI 0 else (-BB m.toNat, BB m.toNat)
def tri8 (X : TriI) : Bool := decide (-8796093022208 ≤ X.1.1 ∧ X.1.2 ≤ 8796093022208) && (decide (-8796093022208 ≤ X.2.1.1 ∧ X.2.1.2 ≤ 8796093022208) && decide (-8796093022208 ≤ X.2.2.1 ∧ X.2.2.2 ≤ 8796093022208))
def lim (k : MK) : Int := bif k.1 == 1 && k.2 == 0 then 76965813944320 else bif (k.1 == 2 && k.2 == 1) || (k.1 == 6 && k.2 == 6) then 65970697666560 else 32985348833280
def wit (L : Int) (A : Iv) : Bool := decide (-L ≤ A.1 ∧ A.2 ≤ L)
def chkK (TI : TTI) (k : MK) : Option Unit := numI k fun G H => bif tri8 (lookI k TI) then incI k G H (bI k.2) (zI k.2) (lookI k TI) (fun A B C => bif wit (lim k) A && (wit (lim k) B && wit (lim k) C) then some () else none) else none
theorem wit_bd {L : Int} {A : Iv} (h : wit L A = true) {x : Int} (hx : In A x) : Bd L x := by
  unfold wit at h
  have h := of_decide_eq_true h
  unfold In at hx
  exact ⟨by omega, by omega⟩
theorem tri8_bd {X : TriI} (h : tri8 X = true) {x : Tri} (hx : In3 X x) : Bd 8796093022208 x.1 ∧ Bd 8796093022208 x.2.1 ∧ Bd 8796093022208 x.2.2 := by
  unfold tri8 at h
  simp only [Bool.and_eq_true, decide_eq_true_eq] at h
  unfold In3 In at hx
  exact ⟨⟨by omega, by omega⟩, ⟨by omega, by omega⟩, ⟨by omega, by omega⟩⟩
theorem key_near {TI : TTI} {k : MK} (h : chkK TI k = some ()) (hk : k ∈ keys27) {tick : Int} (ht : 0 ≤ tick ∧ tick ≤ 157766400000) {T : MK → Tri} (hT : In3 (lookI k TI) (T k)) {t c s up0 south0 east0 : Int} (ht1 : In01 t)
    (hc : In (bI k.2) c) (hs : In (zI k.2) s) (u0 : Bd 1125899906842624 up0) (s0 : Bd 1125899906842624 south0) (e0 : Bd 1125899906842624 east0) :
    ∃ od a2 b2 c2, mid tick k (t, false) c s (T k) up0 south0 = ((up0 + a2 * (k.1 + 1), south0 - b2, od), false) ∧ eastP t od (T k).2.2 k.2 east0 false = (east0 + c2 * k.2, false) ∧
      Bd (lim k) (a2 * (k.1 + 1)) ∧ Bd (lim k) b2 ∧ Bd (lim k) (c2 * k.2) ∧ near9 1 a2 (t * (T k).1 * (gk tick k * c + Fd.hk tick k * s)) ∧ near9 1 b2 (t * (T k).2.1 * (gk tick k * c + Fd.hk tick k * s)) ∧ near9 1 c2 (t * (T k).2.2 * (gk tick k * s - Fd.hk tick k * c)) := by
  obtain ⟨g, h', G, H, hn, ig, ih, h⟩ := num_in hk ht h
  cases h8 : tri8 (lookI k TI) with
  | false => rw [h8] at h; cases h
  | true =>
    rw [h8, bt] at h
    obtain ⟨x1, x2, x3⟩ := tri8_bd h8 hT
    obtain ⟨od, a2, b2, c2, A, B, C, m1, m2, i1, i2, i3, n1, n2, n3, h⟩ := step_near h hn ig ih hc hs hT ht1 x1 x2 x3 u0 s0 e0
    have eg : gk tick k = g := by unfold gk; rw [hn]
    have eh : Fd.hk tick k = h' := by unfold Fd.hk; rw [hn]
    cases hw : wit (lim k) A && (wit (lim k) B && wit (lim k) C) with
    | false => rw [hw] at h; cases h
    | true =>
      simp only [Bool.and_eq_true] at hw
      rw [eg, eh]
      exact ⟨od, a2, b2, c2, m1, m2, wit_bd hw.1 i1, wit_bd hw.2.1 i2, wit_bd hw.2.2 i3, n1, n2, n3⟩
theorem cs_in {u v : Int} (hu : Bd 1099511627776 u) (hv : Bd 1099511627776 v) {m : Int} (hm : 0 ≤ m ∧ m ≤ 6) : In (bI m) (cs u v m.toNat).1.1 ∧ In (zI m) (cs u v m.toNat).1.2 := by
  obtain ⟨-, h1, h2⟩ := cs_ok hu hv m.toNat (by omega)
  unfold bI zI
  cases hz : (m == 0) with
  | true =>
    have : m = 0 := by simpa using hz
    subst this
    exact ⟨pt_in _, pt_in _⟩
  | false => exact ⟨h1, h2⟩
def seqOk : List MK → Nat → Nat → Bool
  | [], _, _ => true
  | k :: l, n, m => bif k.2 == 0 then decide (k.1 = (n : Int) + 1) && seqOk l (n + 1) 1 else (decide (k.1 = (n : Int)) && decide (k.2 = (m : Int))) && seqOk l n (m + 1)
theorem key_bd : ∀ k ∈ keys27, 1 ≤ k.1 ∧ k.1 ≤ 6 ∧ 0 ≤ k.2 ∧ k.2 ≤ 6 := by
  intro k hk
  have h : keys27.all (fun k => decide (1 ≤ k.1 ∧ k.1 ≤ 6 ∧ 0 ≤ k.2 ∧ k.2 ≤ 6)) = true := by kernel_rfl
  exact of_decide_eq_true (List.all_eq_true.1 h k hk)
/-- One step, with the right state. -/
theorem stp_near {TI : TTI} {k : MK} (h : chkK TI k = some ()) (hk : k ∈ keys27) {tick : Int} (ht : 0 ≤ tick ∧ tick ≤ 157766400000) {T : MK → Tri} (hT : In3 (lookI k TI) (T k)) {t u v : Int} (ht1 : In01 t)
    (hu : Bd 1099511627776 u) (hv : Bd 1099511627776 v) {e : Es} (u0 : Bd 1125899906842624 e.up) (s0 : Bd 1125899906842624 e.south) (e0 : Bd 1125899906842624 e.east) :
    ∃ a2 b2 c2, stP u v tick T k (t, false) (cm u v k) (sm u v k) e = ⟨t, (cs u v (k.2.toNat + 1)).1.1, (cs u v (k.2.toNat + 1)).1.2, e.up + a2 * (k.1 + 1), e.south - b2, e.east + c2 * k.2, false⟩ ∧
      Bd (lim k) (a2 * (k.1 + 1)) ∧ Bd (lim k) b2 ∧ Bd (lim k) (c2 * k.2) ∧ near9 1 a2 (t * (T k).1 * (gk tick k * cm u v k + Fd.hk tick k * sm u v k)) ∧ near9 1 b2 (t * (T k).2.1 * (gk tick k * cm u v k + Fd.hk tick k * sm u v k)) ∧ near9 1 c2 (t * (T k).2.2 * (gk tick k * sm u v k - Fd.hk tick k * cm u v k)) := by
  obtain ⟨k1, k2, k3, k4⟩ := key_bd k hk
  obtain ⟨hc, hs⟩ := cs_in hu hv ⟨k3, k4⟩
  obtain ⟨od, a2, b2, c2, m1, m2, l1, l2, l3, n1, n2, n3⟩ := key_near h hk ht hT ht1 hc hs u0 s0 e0
  refine ⟨a2, b2, c2, ?_, l1, l2, l3, n1, n2, n3⟩
  rw [st_is]
  unfold cm sm
  rw [m1]
  dsimp only
  rw [m2]
  dsimp only
  rw [cs_step hu hv (by omega)]
def eFoldP (u v ratio tick : Int) (T : MK → Tri) (l : List MK) (e : Es) : Es := eFold add sub mul Fx.part numP u v ratio tick T l e
theorem eFoldP_cons (u v ratio tick : Int) (T : MK → Tri) (k : MK) (l : List MK) (e : Es) : eFoldP u v ratio tick T (k :: l) e = eFoldP u v ratio tick T l (eStepP u v ratio tick T k e) := rfl
def nearW (w z y : Int) : Prop := Bd (w * (9 * Q3)) (Q3 * z - y)
/-- The sums that the loop makes are near the exact ones. -/
theorem fold_near {TI : TTI} {T : MK → Tri} {tick r u v : Int} (ht : 0 ≤ tick ∧ tick ≤ 157766400000) (hT : ∀ k, In3 (lookI k TI) (T k)) (hr : In01 (rho r)) (hu : Bd 1099511627776 u) (hv : Bd 1099511627776 v) :
    ∀ (l : List MK) (n m : Nat) (e : Es) (B : Int), (∀ k ∈ l, k ∈ keys27 ∧ chkK TI k = some ()) → seqOk l n m = true → e.bad = false → e.t = tau r n → (m ≠ 0 → (e.cos, e.sin) = (cs u v m).1) →
      0 ≤ B → Bd B e.up → Bd B e.south → Bd B e.east → B + sumW lim l ≤ 1125899906842624 →
      ∃ e', eFoldP u v (rho r) tick T l e = e' ∧ e'.bad = false ∧ Bd (B + sumW lim l) e'.up ∧ Bd (B + sumW lim l) e'.south ∧ Bd (B + sumW lim l) e'.east ∧
        nearW (sumW (fun k => k.1 + 1) l) (e'.up - e.up) (sumW (fun k => (k.1 + 1) * exU r tick u v T k) l) ∧
        nearW (sumW (fun _ => 1) l) (e.south - e'.south) (sumW (exS r tick u v T) l) ∧
        nearW (sumW (fun k => k.2) l) (e'.east - e.east) (sumW (fun k => k.2 * exE r tick u v T k) l)
  | [], n, m, e, B, _, _, hb, _, _, hB, b1, b2, b3, _ => by
    refine ⟨e, rfl, hb, ?_, ?_, ?_, ?_, ?_, ?_⟩ <;> simp only [sumW, Int.add_zero, Int.sub_self, nearW, Int.mul_zero, Int.zero_mul]
    · exact b1
    · exact b2
    · exact b3
    · exact ⟨by decide, by decide⟩
    · exact ⟨by decide, by decide⟩
    · exact ⟨by decide, by decide⟩
  | k :: l, n, m, e, B, hl, hq, hb, h1, h2, hB, b1, b2, b3, hS => by
    obtain ⟨hk, hc⟩ := hl k (List.mem_cons_self ..)
    obtain ⟨q1, q2, q3, q4⟩ := key_bd k hk
    have hlim : 0 ≤ lim k := by unfold lim; cases (k.1 == 1 && k.2 == 0) <;> cases ((k.1 == 2 && k.2 == 1) || (k.1 == 6 && k.2 == 6)) <;> decide
    have hsum : ∀ l : List MK, 0 ≤ sumW lim l := by
      intro l
      induction l with
      | nil => exact Int.le_refl _
      | cons a l ih =>
        have : 0 ≤ lim a := by unfold lim; cases (a.1 == 1 && a.2 == 0) <;> cases ((a.1 == 2 && a.2 == 1) || (a.1 == 6 && a.2 == 6)) <;> decide
        unfold sumW; omega
    have hsl := hsum l
    have eS : sumW lim (k :: l) = lim k + sumW lim l := rfl
    rw [eS] at hS
    obtain ⟨n', m', hst, hq', hn', hm'⟩ : ∃ n' m', eStepP u v (rho r) tick T k e = stP u v tick T k (tau r n', false) (cm u v k) (sm u v k) e ∧ seqOk l n' m' = true ∧ n' = k.1.toNat ∧ m' = k.2.toNat + 1 := by
      unfold seqOk at hq
      unfold eStepP
      rw [eStep_st, hb]
      cases hz : (k.2 == 0) with
      | true =>
        have hz0 : k.2 = 0 := by simpa using hz
        rw [hz, bt] at hq
        obtain ⟨a1, a2⟩ := Bool.and_eq_true_iff.1 hq
        have a1 := of_decide_eq_true a1
        refine ⟨n + 1, 1, ?_, a2, by omega, by omega⟩
        rw [bt, bt, bt, h1, tau_succ hr n]
        unfold cm sm
        rw [hz0]
        rfl
      | false =>
        have hz0 : k.2 ≠ 0 := by simpa using hz
        rw [hz, bf] at hq
        obtain ⟨a1, a2⟩ := Bool.and_eq_true_iff.1 hq
        obtain ⟨a3, a4⟩ := Bool.and_eq_true_iff.1 a1
        have a3 := of_decide_eq_true a3
        have a4 := of_decide_eq_true a4
        have hm0 : m ≠ 0 := by omega
        have g := h2 hm0
        have c1 : e.cos = (cs u v m).1.1 := by rw [← g]
        have c2 : e.sin = (cs u v m).1.2 := by rw [← g]
        have em : k.2.toNat = m := by omega
        refine ⟨n, m + 1, ?_, a2, by omega, by omega⟩
        rw [bf, bf, bf, h1, c1, c2]
        unfold cm sm
        rw [em]
        rfl
    obtain ⟨x, y, z, hs, l1, l2, l3, n1, n2, n3⟩ := stp_near hc hk ht (hT k) (tau_in hr n') hu hv (e := e) (b1.mono (by omega)) (b2.mono (by omega)) (b3.mono (by omega))
    have hc1 : Bd (B + lim k) (e.up + x * (k.1 + 1)) := b1.add l1
    have hc2 : Bd (B + lim k) (e.south - y) := b2.sub l2
    have hc3 : Bd (B + lim k) (e.east + z * k.2) := b3.add l3
    obtain ⟨e', he, hb', d1, d2, d3, r1, r2, r3⟩ := fold_near ht hT hr hu hv l n' m' ⟨tau r n', (cs u v (k.2.toNat + 1)).1.1, (cs u v (k.2.toNat + 1)).1.2, e.up + x * (k.1 + 1), e.south - y, e.east + z * k.2, false⟩ (B + lim k)
      (fun k hk => hl k (List.mem_cons_of_mem _ hk)) hq' rfl rfl (fun _ => by rw [hm']) (by omega) hc1 hc2 hc3 (by omega)
    refine ⟨e', ?_, hb', ?_, ?_, ?_, ?_, ?_, ?_⟩
    · rw [eFoldP_cons, hst, hs]; exact he
    · rw [eS, ← Int.add_assoc]; exact d1
    · rw [eS, ← Int.add_assoc]; exact d2
    · rw [eS, ← Int.add_assoc]; exact d3
    · have w : nearW (k.1 + 1) (x * (k.1 + 1)) ((k.1 + 1) * exU r tick u v T k) := by
        unfold near9 at n1
        unfold exU
        rw [← hn']
        have := (show Bd (k.1 + 1) (k.1 + 1) from ⟨by omega, by omega⟩).mul n1
        unfold nearW Q3
        have e1 : 1329227995784915872903807060280344576 * (x * (k.1 + 1)) - (k.1 + 1) * (tau r n' * (T k).1 * (gk tick k * cm u v k + Fd.hk tick k * sm u v k)) = (k.1 + 1) * (1329227995784915872903807060280344576 * x - tau r n' * (T k).1 * (gk tick k * cm u v k + Fd.hk tick k * sm u v k)) := by grind
        rw [e1, show (k.1 + 1) * (9 * 1329227995784915872903807060280344576) = (k.1 + 1) * (1 * (9 * 1329227995784915872903807060280344576)) by omega]
        exact this
      have r1 : nearW (sumW (fun k => k.1 + 1) l) (e'.up - (e.up + x * (k.1 + 1))) (sumW (fun k => (k.1 + 1) * exU r tick u v T k) l) := r1
      unfold nearW Q3 at *
      simp only [sumW]
      generalize sumW (fun k => (k.1 + 1) * exU r tick u v T k) l = S1 at *
      generalize (k.1 + 1) * exU r tick u v T k = S2 at *
      generalize x * (k.1 + 1) = S3 at *
      generalize sumW (fun k => k.1 + 1) l = S4 at *
      unfold Bd at *
      omega
    · have w : nearW 1 y (exS r tick u v T k) := by
        unfold near9 at n2
        unfold exS nearW Q3
        rw [← hn']
        exact n2
      have r2 : nearW (sumW (fun _ => 1) l) (e.south - y - e'.south) (sumW (exS r tick u v T) l) := r2
      unfold nearW Q3 at *
      simp only [sumW]
      generalize sumW (exS r tick u v T) l = S1 at *
      generalize exS r tick u v T k = S2 at *
      generalize sumW (fun _ => 1) l = S4 at *
      unfold Bd at *
      omega
    · have w : nearW k.2 (z * k.2) (k.2 * exE r tick u v T k) := by
        unfold near9 at n3
        unfold exE
        rw [← hn']
        have := (show Bd k.2 k.2 from ⟨by omega, by omega⟩).mul n3
        unfold nearW Q3
        have e1 : 1329227995784915872903807060280344576 * (z * k.2) - k.2 * (tau r n' * (T k).2.2 * (gk tick k * sm u v k - Fd.hk tick k * cm u v k)) = k.2 * (1329227995784915872903807060280344576 * z - tau r n' * (T k).2.2 * (gk tick k * sm u v k - Fd.hk tick k * cm u v k)) := by grind
        rw [e1, show k.2 * (9 * 1329227995784915872903807060280344576) = k.2 * (1 * (9 * 1329227995784915872903807060280344576)) by omega]
        exact this
      have r3 : nearW (sumW (fun k => k.2) l) (e'.east - (e.east + z * k.2)) (sumW (fun k => k.2 * exE r tick u v T k) l) := r3
      unfold nearW Q3 at *
      simp only [sumW]
      generalize sumW (fun k => k.2 * exE r tick u v T k) l = S1 at *
      generalize k.2 * exE r tick u v T k = S2 at *
      generalize z * k.2 = S3 at *
      generalize sumW (fun k : MK => k.2) l = S4 at *
      unfold Bd at *
      omega
def mg (A : Iv) : Int := mx (-A.1) A.2
theorem mg_bd {A : Iv} {x : Int} (h : In A x) : Bd (mg A) x := by
  have := le_mx (-A.1) A.2
  unfold In at h
  unfold mg
  exact ⟨by omega, by omega⟩
def dv (A : Iv) (c : Int) : Int := mg (A.1 - c, A.2 - c)
theorem dv_bd {A : Iv} {x : Int} (c : Int) (h : In A x) : Bd (dv A c) (x - c) := mg_bd (A := (A.1 - c, A.2 - c)) (by unfold In at *; dsimp only; omega)
section
variable (w q : Int → Int) (sg : Int)
/-- How far a key's parts are from the main ones. -/
def polB (TI : TTI) (k : MK) : Option (Int × Int × Int) := numI k fun G H =>
  some ((k.1 + 1) * (bif k.2 == 0 then 1099511627776 * dv (lookI k TI).1 (w k.1 * 1099511627776) * ((mg G + mg H) * BB k.2.toNat) else 1099511627776 * mg (lookI k TI).1 * ((mg G + mg H) * BB k.2.toNat)),
    (bif k.2 == 1 then 1099511627776 * dv (lookI k TI).2.1 (sg * q k.1) * ((mg G + mg H) * BB k.2.toNat) else 1099511627776 * mg (lookI k TI).2.1 * ((mg G + mg H) * BB k.2.toNat)),
    k.2 * (bif k.2 == 1 then 1099511627776 * dv (lookI k TI).2.2 (q k.1) * ((mg G + mg H) * BB k.2.toNat) else 1099511627776 * mg (lookI k TI).2.2 * ((mg G + mg H) * BB k.2.toNat)))
variable (r tick u v : Int)
def mainU (k : MK) : Int := bif k.2 == 0 then (k.1 + 1) * (tau r k.1.toNat * (w k.1 * 1099511627776) * (gk tick k * cm u v k + hk tick k * sm u v k)) else 0
def mainS (k : MK) : Int := bif k.2 == 1 then tau r k.1.toNat * (sg * q k.1) * (gk tick k * cm u v k + hk tick k * sm u v k) else 0
def mainE (k : MK) : Int := bif k.2 == 1 then k.2 * (tau r k.1.toNat * q k.1 * (gk tick k * sm u v k - hk tick k * cm u v k)) else 0
end
theorem cs_bd {u v : Int} (hu : Bd 1099511627776 u) (hv : Bd 1099511627776 v) {k : MK} (hk : 0 ≤ k.2 ∧ k.2 ≤ 6) : Bd (BB k.2.toNat) (cm u v k) ∧ Bd (BB k.2.toNat) (sm u v k) := by
  obtain ⟨-, h1, h2⟩ := cs_ok hu hv k.2.toNat (by omega)
  exact ⟨h1, h2⟩
theorem part_bd {t P c A y Y : Int} (ht : In01 t) (hP : Bd A (P - c)) (hy : Bd Y y) : Bd (1099511627776 * A * Y) (t * P * y - t * c * y) := by
  have bt : Bd 1099511627776 t := ⟨by have := ht.1; omega, ht.2⟩
  have h := (bt.mul hP).mul hy
  have e : t * (P - c) * y = t * P * y - t * c * y := by grind
  rw [e] at h; exact h
theorem part_bd0 {t P A y Y : Int} (ht : In01 t) (hP : Bd A P) (hy : Bd Y y) : Bd (1099511627776 * A * Y) (t * P * y - 0) := by
  have bt : Bd 1099511627776 t := ⟨by have := ht.1; omega, ht.2⟩
  rw [Int.sub_zero]
  exact (bt.mul hP).mul hy
theorem scale_bd {n A x : Int} (hn : 0 ≤ n) (h : Bd A x) : Bd (n * A) (n * x) := (show Bd n n from ⟨by omega, by omega⟩).mul h
theorem pol_in {w q : Int → Int} {sg : Int} {TI : TTI} {k : MK} {B : Int × Int × Int} (h : polB w q sg TI k = some B) (hk : k ∈ keys27) {r tick u v : Int} (ht : 0 ≤ tick ∧ tick ≤ 157766400000) (hr : In01 (rho r)) (hu : Bd 1099511627776 u) (hv : Bd 1099511627776 v) {T : MK → Tri} (hT : In3 (lookI k TI) (T k)) :
    Bd B.1 ((k.1 + 1) * exU r tick u v T k - mainU w r tick u v k) ∧ Bd B.2.1 (exS r tick u v T k - mainS q sg r tick u v k) ∧ Bd B.2.2 (k.2 * exE r tick u v T k - mainE q r tick u v k) := by
  obtain ⟨q1, q2, q3, q4⟩ := key_bd k hk
  obtain ⟨g, h', G, H, hn, ig, ih, h⟩ := num_in hk ht h
  have eg : gk tick k = g := by unfold gk; rw [hn]
  have eh : Fd.hk tick k = h' := by unfold Fd.hk; rw [hn]
  obtain ⟨c1, c2⟩ := cs_bd (k := k) hu hv ⟨q3, q4⟩
  have y1 : Bd ((mg G + mg H) * BB k.2.toNat) (gk tick k * cm u v k + Fd.hk tick k * sm u v k) := by
    rw [eg, eh, Int.add_mul]
    exact ((mg_bd ig).mul c1).add ((mg_bd ih).mul c2)
  have y2 : Bd ((mg G + mg H) * BB k.2.toNat) (gk tick k * sm u v k - Fd.hk tick k * cm u v k) := by
    rw [eg, eh, Int.add_mul]
    exact ((mg_bd ig).mul c2).sub ((mg_bd ih).mul c1)
  have ht1 := tau_in hr k.1.toNat
  simp only [Option.some.injEq] at h
  rw [← h]
  dsimp only
  obtain ⟨x1, x2, x3⟩ := hT
  refine ⟨?_, ?_, ?_⟩
  · unfold mainU exU
    cases k.2 == 0 with
    | true =>
      rw [bt, bt, ← Int.mul_sub]
      exact scale_bd (by omega) (part_bd ht1 (dv_bd _ x1) y1)
    | false =>
      rw [bf, bf]
      have := scale_bd (n := k.1 + 1) (by omega) (part_bd0 ht1 (mg_bd x1) y1)
      rw [Int.sub_zero] at this ⊢
      exact this
  · unfold mainS exS
    cases k.2 == 1 with
    | true => rw [bt, bt]; exact part_bd ht1 (dv_bd _ x2) y1
    | false => rw [bf, bf]; exact part_bd0 ht1 (mg_bd x2) y1
  · unfold mainE exE
    cases k.2 == 1 with
    | true =>
      rw [bt, bt, ← Int.mul_sub]
      exact scale_bd q3 (part_bd ht1 (dv_bd _ x3) y2)
    | false =>
      rw [bf, bf]
      have := scale_bd (n := k.2) q3 (part_bd0 ht1 (mg_bd x3) y2)
      rw [Int.sub_zero] at this ⊢
      exact this
def polL (w q : Int → Int) (sg : Int) (TI : TTI) : List MK → Option (Int × Int × Int)
  | [] => some (0, 0, 0)
  | k :: l => (polB w q sg TI k).bind fun A => fI A.1 fun a => fI A.2.1 fun b => fI A.2.2 fun c => (polL w q sg TI l).bind fun B => fI (a + B.1) fun x => fI (b + B.2.1) fun y => fI (c + B.2.2) fun z => some (x, y, z)
theorem polL_in {w q : Int → Int} {sg : Int} {TI : TTI} {r tick u v : Int} (ht : 0 ≤ tick ∧ tick ≤ 157766400000) (hr : In01 (rho r)) (hu : Bd 1099511627776 u) (hv : Bd 1099511627776 v) {T : MK → Tri} (hT : ∀ k, In3 (lookI k TI) (T k)) :
    ∀ (l : List MK) (B : Int × Int × Int), (∀ k ∈ l, k ∈ keys27) → polL w q sg TI l = some B →
    Bd B.1 (sumW (fun k => (k.1 + 1) * exU r tick u v T k) l - sumW (mainU w r tick u v) l) ∧ Bd B.2.1 (sumW (exS r tick u v T) l - sumW (mainS q sg r tick u v) l) ∧ Bd B.2.2 (sumW (fun k => k.2 * exE r tick u v T k) l - sumW (mainE q r tick u v) l)
  | [], B, _, h => by
    unfold polL at h
    simp only [Option.some.injEq] at h
    rw [← h]
    have z : Bd 0 (0 - 0) := ⟨by decide, by decide⟩
    exact ⟨z, z, z⟩
  | k :: l, B, hl, h => by
    unfold polL at h
    cases hA : polB w q sg TI k with
    | none => rw [hA] at h; cases h
    | some A =>
      cases hB : polL w q sg TI l with
      | none => rw [hA, hB] at h; simp only [Option.bind_some, Option.bind_none, fI_eq] at h; cases h
      | some A' =>
        rw [hA, hB] at h
        simp only [Option.bind_some, fI_eq, Option.some.injEq] at h
        rw [← h]
        obtain ⟨a1, a2, a3⟩ := pol_in hA (hl k (List.mem_cons_self ..)) ht hr hu hv (hT k)
        obtain ⟨b1, b2, b3⟩ := polL_in ht hr hu hv hT l A' (fun k hk => hl k (List.mem_cons_of_mem _ hk)) hB
        simp only [sumW]
        refine ⟨?_, ?_, ?_⟩
        · have := a1.add b1
          unfold Bd at *
          omega
        · have := a2.add b2
          unfold Bd at *
          omega
        · have := a3.add b3
          unfold Bd at *
          omega
def qN (n : Int) : Int := bif n == 1 then 1099511627776 else bif n == 2 then 1904382000000 else bif n == 3 then 2693162000000 else bif n == 4 then 3476740000000 else bif n == 5 then 4258050000000 else 5037950000000
def wN (_ : Int) : Int := 1
def qS (n : Int) : Int := bif n == 2 || (n == 4 || n == 6) then -(qN n) else qN n
def wS (n : Int) : Int := bif n == 2 || (n == 4 || n == 6) then 1 else -1
/-- The bounds on what is beside the main parts: 2.5 up, 1.5 south, 0.6 east. -/
def smallB (B : Int × Int × Int) : Bool := decide (B.1 ≤ 2748779069440 * Q3) && (decide (B.2.1 ≤ 1649267441664 * Q3) && decide (B.2.2 ≤ 659706976665 * Q3))
def poleK (w q : Int → Int) (sg : Int) (TI : TTI) : Option Unit := bif keys27.all (fun k => (chkK TI k).isSome) then (polL w q sg TI keys27).bind fun B => bif smallB B then some () else none else none
def cN : Iv := (1099485227776, 1099511627777)
def cS : Iv := (-1099511627777, -1099485227776)
def sP : Iv := (0, 7618500000)
theorem north_ok : termsI cN sP (poleK wN qN 1) = some () := by kernel_rfl
theorem south_ok : termsI cS sP (poleK wS qS (-1)) = some () := by kernel_rfl
theorem poleK_in {w q : Int → Int} {sg : Int} {TI : TTI} (h : poleK w q sg TI = some ()) : (∀ k ∈ keys27, chkK TI k = some ()) ∧ ∃ B, polL w q sg TI keys27 = some B ∧ smallB B = true := by
  unfold poleK at h
  cases h1 : keys27.all (fun k => (chkK TI k).isSome) with
  | false => rw [h1] at h; cases h
  | true =>
    rw [h1, bt] at h
    refine ⟨fun k hk => ?_, ?_⟩
    · have := List.all_eq_true.1 h1 k hk
      cases hc : chkK TI k with
      | none => rw [hc] at this; cases this
      | some x => cases x; rfl
    · cases hB : polL w q sg TI keys27 with
      | none => rw [hB] at h; cases h
      | some B =>
        rw [hB] at h
        simp only [Option.bind_some] at h
        cases hs : smallB B with
        | false => rw [hs] at h; cases h
        | true => exact ⟨B, rfl, hs⟩
/-- The end of the body, of numbers that are small enough. -/
theorem last_is {c s u v : Int} {e : Es} (hb : e.bad = false) (b1 : Bd 1125899906842624 e.up) (b2 : Bd 1125899906842624 e.south) (b3 : Bd 1125899906842624 e.east)
    (hc : Bd 1099511627777 c) (hs : Bd 1099511627777 s) (hu : Bd 1099511627777 u) (hv : Bd 1099511627777 v) :
    ∃ X Y Z a, eLastV add sub mul c s u v e = (⟨X, Y, Z⟩, false) ∧ Bd 1099511627776 (1099511627776 * a - (e.up * s + e.south * c)) ∧ Bd 1099511627776 (1099511627776 * X - (a * u - e.east * v)) ∧
      Bd 1099511627776 (1099511627776 * Y - (a * v + e.east * u)) ∧ Bd 1099511627776 (1099511627776 * Z - (e.up * c - e.south * s)) := by
  obtain ⟨a1, ha1, ba1, na1⟩ := mul_b (a := e.up) (b := s) 1125899906842624 1099511627777 1125899906850000 b1 hs (by decide)
  obtain ⟨a2, ha2, ba2, na2⟩ := mul_b (a := e.south) (b := c) 1125899906842624 1099511627777 1125899906850000 b2 hc (by decide)
  have ha := add_b (a := a1) (b := a2) 1125899906850000 1125899906850000 ba1 ba2 (by decide)
  have ba := ba1.add ba2
  obtain ⟨x1, hx1, bx1, nx1⟩ := mul_b (a := a1 + a2) (b := u) (1125899906850000 + 1125899906850000) 1099511627777 2251799813720000 ba hu (by decide)
  obtain ⟨x2, hx2, bx2, nx2⟩ := mul_b (a := e.east) (b := v) 1125899906842624 1099511627777 1125899906850000 b3 hv (by decide)
  have hx := sub_b (a := x1) (b := x2) 2251799813720000 1125899906850000 bx1 bx2 (by decide)
  obtain ⟨y1, hy1, by1, ny1⟩ := mul_b (a := a1 + a2) (b := v) (1125899906850000 + 1125899906850000) 1099511627777 2251799813720000 ba hv (by decide)
  obtain ⟨y2, hy2, by2, ny2⟩ := mul_b (a := e.east) (b := u) 1125899906842624 1099511627777 1125899906850000 b3 hu (by decide)
  have hy := add_b (a := y1) (b := y2) 2251799813720000 1125899906850000 by1 by2 (by decide)
  obtain ⟨z1, hz1, bz1, nz1⟩ := mul_b (a := e.up) (b := c) 1125899906842624 1099511627777 1125899906850000 b1 hc (by decide)
  obtain ⟨z2, hz2, bz2, nz2⟩ := mul_b (a := e.south) (b := s) 1125899906842624 1099511627777 1125899906850000 b2 hs (by decide)
  have hz := sub_b (a := z1) (b := z2) 1125899906850000 1125899906850000 bz1 bz2 (by decide)
  refine ⟨x1 - x2, y1 + y2, z1 - z2, a1 + a2, ?_, ?_, ?_, ?_, ?_⟩
  · unfold eLastV
    simp only [hb, ha1, ha2, ha, hx1, hx2, hx, hy1, hy2, hy, hz1, hz2, hz]
    rfl
  · generalize e.up * s = p at *
    generalize e.south * c = q at *
    unfold Bd at *; omega
  · generalize (a1 + a2) * u = p at *
    generalize e.east * v = q at *
    unfold Bd at *; omega
  · generalize (a1 + a2) * v = p at *
    generalize e.east * u = q at *
    unfold Bd at *; omega
  · generalize e.up * c = p at *
    generalize e.south * s = q at *
    unfold Bd at *; omega
theorem tmP_is {c s : Int} {T : TT} (h : termsP c s false = (T, false)) : tmP c s false = (fun k => lookT k T, false) := by
  unfold tmP
  rw [h]
theorem lims : sumW lim keys27 = 1000555581276160 := by kernel_rfl
theorem wsum : sumW (fun k => k.1 + 1) keys27 = 139 ∧ sumW (fun _ => 1) keys27 = 27 ∧ sumW (fun k => k.2) keys27 = 56 := ⟨by kernel_rfl, by kernel_rfl, by kernel_rfl⟩
/-- The body's sums near a pole. -/
theorem body_pole {w q : Int → Int} {sg : Int} {C : Iv} (hK : termsI C sP (poleK w q sg) = some ()) {tick r c s u v : Int} (ht : 0 ≤ tick ∧ tick ≤ 157766400000) (hr : 7005208482886 ≤ r ∧ r ≤ 4611686018427387904) (hc : In C c) (hs : In sP s)
    (hu : Bd 1099511627776 u) (hv : Bd 1099511627776 v) :
    ∃ e : Es, eBodyVP tick r c s u v false = eLastV add sub mul c s u v e ∧ e.bad = false ∧ Bd 1000555581276160 e.up ∧ Bd 1000555581276160 e.south ∧ Bd 1000555581276160 e.east ∧
      Bd (2858730232218 * Q3) (Q3 * e.up - sumW (mainU w r tick u v) keys27) ∧ Bd (1759218604442 * Q3) (Q3 * -e.south - sumW (mainS q sg r tick u v) keys27) ∧ Bd (714682558055 * Q3) (Q3 * e.east - sumW (mainE q r tick u v) keys27) := by
  obtain ⟨hd, hr1, -⟩ := rho_is hr
  obtain ⟨TI, T, hT, hR, hK⟩ := terms_in hK hc hs
  obtain ⟨h1, B, hB, hB2⟩ := poleK_in hK
  have hl := fun k => hR.look k
  obtain ⟨e, he, hb, d1, d2, d3, r1, r2, r3⟩ := fold_near ht hl hr1 hu hv keys27 0 0 ⟨tau r 0, 0, 0, 0, 0, 0, false⟩ 0 (fun k hk => ⟨hk, h1 k hk⟩) (by kernel_rfl) rfl rfl (fun h => absurd rfl h) (by decide) (show Bd 0 0 from ⟨by decide, by decide⟩) (show Bd 0 0 from ⟨by decide, by decide⟩) (show Bd 0 0 from ⟨by decide, by decide⟩) (by rw [lims]; decide)
  obtain ⟨p1, p2, p3⟩ := polL_in (sg := sg) (w := w) (q := q) ht hr1 hu hv hl keys27 B (fun k hk => hk) hB
  rw [lims, Int.zero_add] at d1 d2 d3
  obtain ⟨w1, w2, w3⟩ := wsum
  rw [w1] at r1
  rw [w2] at r2
  rw [w3] at r3
  unfold smallB at hB2
  simp only [Bool.and_eq_true, decide_eq_true_eq] at hB2
  obtain ⟨k1, k2, k3⟩ := hB2
  refine ⟨e, ?_, hb, d1, d2, d3, ?_, ?_, ?_⟩
  · unfold eBodyVP
    rw [eBody_tail, tmP_is hT]
    unfold tailG
    dsimp only
    rw [hd]
    dsimp only
    rw [tau_zero hr1]
    dsimp only
    rw [← he]
    rfl
  · unfold nearW Q3 at r1
    unfold Q3 at *
    generalize sumW (mainU w r tick u v) keys27 = M at *
    generalize sumW (fun k => (k.1 + 1) * exU r tick u v (fun k => lookT k T) k) keys27 = N at *
    unfold Bd at *
    dsimp only at r1
    omega
  · unfold nearW Q3 at r2
    unfold Q3 at *
    generalize sumW (mainS q sg r tick u v) keys27 = M at *
    generalize sumW (exS r tick u v (fun k => lookT k T)) keys27 = N at *
    unfold Bd at *
    dsimp only at r2
    omega
  · unfold nearW Q3 at r3
    unfold Q3 at *
    generalize sumW (mainE q r tick u v) keys27 = M at *
    generalize sumW (fun k => k.2 * exE r tick u v (fun k => lookT k T) k) keys27 = N at *
    unfold Bd at *
    dsimp only at r3
    omega
end Go.Proofs.Ytcagaaaibhifdaa.Fd

/- The field near a pole, and the law of the poles. Conditions: as each says. -/
namespace Go.Proofs.Ytcagaaaibhifdaa.Fd
open Go Go.Proofs.Ytcagaaaibhifdaa.Ae Go.Proofs.Ytcagaaaibhifdaa.Fx Go.Proofs.Ytcagaaaibhifdaa.Lx Go.Proofs.Ytcagaaaibhifdaa.Tx Go.Proofs.Ytcagaaaibhifdaa.Te Go.Proofs.Ytcagaaaibhifdaa.Rx Go.Proofs.Ytcagaaaibhifdaa.Row Go.Proofs.Ytcagaaaibhifdaa.Ve Go.Proofs.Ytcagaaaibhifdaa.Nx Go.Proofs.Ytcagaaaibhifdaa.Ns

theorem mul_oneL {a : Int} (ha : Bd 1125899906842624 a) : mul 1099511627776 a false = (a, false) := by
  obtain ⟨r, hr, r1, r2⟩ := mul_is (a := 1099511627776) (b := a) (A := 1099511627776) (B := 1125899906842624) ⟨by decide, by decide⟩ ha (by decide) (by decide) (by decide)
  have : r = a := by omega
  rw [hr, this]
theorem mul_zeroL {a : Int} (ha : Bd 1125899906842624 a) : mul 0 a false = (0, false) := by
  obtain ⟨r, hr, r1, r2⟩ := mul_is (a := 0) (b := a) (A := 0) (B := 1125899906842624) ⟨by decide, by decide⟩ ha (by decide) (by decide) (by decide)
  rw [Int.zero_mul] at r1 r2
  have : r = 0 := by omega
  rw [hr, this]
theorem cs_one {u v : Int} (hu : Bd 1099511627776 u) (hv : Bd 1099511627776 v) : (cs u v 1).1 = (u, v) := by
  have hs := cs_step hu hv (m := 0) (by decide)
  have e0 : (cs u v 0).1 = (1099511627776, 0) := rfl
  rw [e0] at hs
  have e : next u v 1099511627776 0 false = ((u, v), false) := by
    unfold next nextG
    rw [mul_oneL (hu.mono (by decide))]
    dsimp only
    rw [mul_zeroL (hv.mono (by decide))]
    dsimp only
    have h1 := sub_is (a := u) (b := 0) (by unfold Bd at hu; omega) (by omega) (by unfold Bd at hu; omega)
    rw [h1]
    dsimp only
    rw [mul_zeroL (hu.mono (by decide))]
    dsimp only
    rw [mul_oneL (hv.mono (by decide))]
    dsimp only
    have h2 := add_is (a := 0) (b := v) (by omega) (by unfold Bd at hv; omega) (by unfold Bd at hv; omega)
    rw [h2, Int.sub_zero, Int.zero_add]
  rw [e] at hs
  exact (congrArg Prod.fst hs).symm
def sumUp (w : Int → Int) (r tick : Int) : Int := 2 * (w 1 * (tau r 1 * gk tick (1, 0))) + 3 * (w 2 * (tau r 2 * gk tick (2, 0))) + 4 * (w 3 * (tau r 3 * gk tick (3, 0))) + 5 * (w 4 * (tau r 4 * gk tick (4, 0))) + 6 * (w 5 * (tau r 5 * gk tick (5, 0))) + 7 * (w 6 * (tau r 6 * gk tick (6, 0)))
def sumG (q : Int → Int) (r tick : Int) : Int := q 1 * (tau r 1 * gk tick (1, 1)) + q 2 * (tau r 2 * gk tick (2, 1)) + q 3 * (tau r 3 * gk tick (3, 1)) + q 4 * (tau r 4 * gk tick (4, 1)) + q 5 * (tau r 5 * gk tick (5, 1)) + q 6 * (tau r 6 * gk tick (6, 1))
def sumH (q : Int → Int) (r tick : Int) : Int := q 1 * (tau r 1 * hk tick (1, 1)) + q 2 * (tau r 2 * hk tick (2, 1)) + q 3 * (tau r 3 * hk tick (3, 1)) + q 4 * (tau r 4 * hk tick (4, 1)) + q 5 * (tau r 5 * hk tick (5, 1)) + q 6 * (tau r 6 * hk tick (6, 1))
theorem sumW_skip {f : MK → Int} {k : MK} {l : List MK} (h : f k = 0) : sumW f (k :: l) = sumW f l := by
  conv => lhs; unfold sumW
  rw [h, Int.zero_add]
def mzero : List MK := [(1, 0), (2, 0), (3, 0), (4, 0), (5, 0), (6, 0)]
def mone : List MK := [(1, 1), (2, 1), (3, 1), (4, 1), (5, 1), (6, 1)]
theorem sum_filter {f : MK → Int} {p : MK → Bool} (h : ∀ k, p k = false → f k = 0) : ∀ l : List MK, sumW f l = sumW f (l.filter p)
  | [] => rfl
  | k :: l => by
    cases hp : p k with
    | true =>
      rw [List.filter_cons_of_pos hp]
      unfold sumW
      rw [sum_filter h l]
    | false =>
      rw [List.filter_cons_of_neg (by rw [hp]; decide), sumW_skip (h k hp)]
      exact sum_filter h l
theorem mainU_is (w : Int → Int) (r tick u v : Int) : sumW (mainU w r tick u v) keys27 = 1208925819614629174706176 * sumUp w r tick := by
  rw [sum_filter (p := fun k => k.2 == 0) (fun k hk => by unfold mainU; rw [hk]; rfl) keys27]
  have e : keys27.filter (fun k => k.2 == 0) = mzero := by kernel_rfl
  rw [e]
  have key : ∀ n : Int, mainU w r tick u v (n, 0) = (n + 1) * (tau r n.toNat * (w n * 1099511627776) * (gk tick (n, 0) * 1099511627776)) := by
    intro n
    have e : mainU w r tick u v (n, 0) = (n + 1) * (tau r n.toNat * (w n * 1099511627776) * (gk tick (n, 0) * 1099511627776 + Fd.hk tick (n, 0) * 0)) := rfl
    rw [e, Int.mul_zero, Int.add_zero]
  simp only [mzero, sumW, key]
  unfold sumUp
  have t : (1 : Int).toNat = 1 ∧ (2 : Int).toNat = 2 ∧ (3 : Int).toNat = 3 ∧ (4 : Int).toNat = 4 ∧ (5 : Int).toNat = 5 ∧ (6 : Int).toNat = 6 := ⟨rfl, rfl, rfl, rfl, rfl, rfl⟩
  obtain ⟨t1, t2, t3, t4, t5, t6⟩ := t
  rw [t1, t2, t3, t4, t5, t6]
  generalize tau r 1 = x1
  generalize tau r 2 = x2
  generalize tau r 3 = x3
  generalize tau r 4 = x4
  generalize tau r 5 = x5
  generalize tau r 6 = x6
  grind
theorem mainS_is (q : Int → Int) (sg r tick : Int) {u v : Int} (hu : Bd 1099511627776 u) (hv : Bd 1099511627776 v) : sumW (mainS q sg r tick u v) keys27 = sg * (sumG q r tick * u + sumH q r tick * v) := by
  rw [sum_filter (p := fun k => k.2 == 1) (fun k hk => by unfold mainS; rw [hk]; rfl) keys27]
  have e : keys27.filter (fun k => k.2 == 1) = mone := by kernel_rfl
  rw [e]
  have hc := cs_one hu hv
  have key : ∀ n : Int, mainS q sg r tick u v (n, 1) = tau r n.toNat * (sg * q n) * (gk tick (n, 1) * u + Fd.hk tick (n, 1) * v) := by
    intro n
    have e : mainS q sg r tick u v (n, 1) = tau r n.toNat * (sg * q n) * (gk tick (n, 1) * (cs u v 1).1.1 + Fd.hk tick (n, 1) * (cs u v 1).1.2) := rfl
    rw [e, hc]
  simp only [mone, sumW, key]
  unfold sumG sumH
  have t : (1 : Int).toNat = 1 ∧ (2 : Int).toNat = 2 ∧ (3 : Int).toNat = 3 ∧ (4 : Int).toNat = 4 ∧ (5 : Int).toNat = 5 ∧ (6 : Int).toNat = 6 := ⟨rfl, rfl, rfl, rfl, rfl, rfl⟩
  obtain ⟨t1, t2, t3, t4, t5, t6⟩ := t
  rw [t1, t2, t3, t4, t5, t6]
  grind
theorem mainE_is (q : Int → Int) (r tick : Int) {u v : Int} (hu : Bd 1099511627776 u) (hv : Bd 1099511627776 v) : sumW (mainE q r tick u v) keys27 = sumG q r tick * v - sumH q r tick * u := by
  rw [sum_filter (p := fun k => k.2 == 1) (fun k hk => by unfold mainE; rw [hk]; rfl) keys27]
  have e : keys27.filter (fun k => k.2 == 1) = mone := by kernel_rfl
  rw [e]
  have hc := cs_one hu hv
  have key : ∀ n : Int, mainE q r tick u v (n, 1) = 1 * (tau r n.toNat * q n * (gk tick (n, 1) * v - Fd.hk tick (n, 1) * u)) := by
    intro n
    have e : mainE q r tick u v (n, 1) = 1 * (tau r n.toNat * q n * (gk tick (n, 1) * (cs u v 1).1.2 - Fd.hk tick (n, 1) * (cs u v 1).1.1)) := rfl
    rw [e, hc]
  simp only [mone, sumW, key]
  unfold sumG sumH
  have t : (1 : Int).toNat = 1 ∧ (2 : Int).toNat = 2 ∧ (3 : Int).toNat = 3 ∧ (4 : Int).toNat = 4 ∧ (5 : Int).toNat = 5 ∧ (6 : Int).toNat = 6 := ⟨rfl, rfl, rfl, rfl, rfl, rfl⟩
  obtain ⟨t1, t2, t3, t4, t5, t6⟩ := t
  rw [t1, t2, t3, t4, t5, t6]
  grind
def chkN (k : MK) (L : Int) : Option Unit := numI k fun G H => bif wit L G && wit L H then some () else none
theorem num_bd {k : MK} {L : Int} (h : chkN k L = some ()) (hk : k ∈ keys27) {tick : Int} (ht : 0 ≤ tick ∧ tick ≤ 157766400000) : Bd L (gk tick k) ∧ Bd L (Fd.hk tick k) := by
  obtain ⟨g, h', G, H, hn, ig, ih, h⟩ := num_in hk ht h
  have eg : gk tick k = g := by unfold gk; rw [hn]
  have eh : Fd.hk tick k = h' := by unfold Fd.hk; rw [hn]
  rw [eg, eh]
  cases hw : wit L G && wit L H with
  | false => rw [hw] at h; cases h
  | true =>
    simp only [Bool.and_eq_true] at hw
    exact ⟨wit_bd hw.1 ig, wit_bd hw.2 ih⟩
/-- Bounds of the numbers of order 0 and 1: in units of 2^-40. -/
theorem nums0 {tick : Int} (ht : 0 ≤ tick ∧ tick ≤ 157766400000) : Bd 33000000000000 (gk tick (1, 0)) ∧ Bd 3100000000000 (gk tick (2, 0)) ∧ Bd 1540000000000 (gk tick (3, 0)) ∧ Bd 1000000000000 (gk tick (4, 0)) ∧ Bd 270000000000 (gk tick (5, 0)) ∧ Bd 80000000000 (gk tick (6, 0)) :=
  ⟨(num_bd (L := 33000000000000) (by kernel_rfl) (by decide) ht).1, (num_bd (L := 3100000000000) (by kernel_rfl) (by decide) ht).1, (num_bd (L := 1540000000000) (by kernel_rfl) (by decide) ht).1, (num_bd (L := 1000000000000) (by kernel_rfl) (by decide) ht).1, (num_bd (L := 270000000000) (by kernel_rfl) (by decide) ht).1, (num_bd (L := 80000000000) (by kernel_rfl) (by decide) ht).1⟩
theorem nums1 {tick : Int} (ht : 0 ≤ tick ∧ tick ≤ 157766400000) : (Bd 5100000000000 (gk tick (1, 1)) ∧ Bd 5100000000000 (hk tick (1, 1))) ∧ (Bd 3700000000000 (gk tick (2, 1)) ∧ Bd 3700000000000 (hk tick (2, 1))) ∧ (Bd 2700000000000 (gk tick (3, 1)) ∧ Bd 2700000000000 (hk tick (3, 1))) ∧
    (Bd 900000000000 (gk tick (4, 1)) ∧ Bd 900000000000 (hk tick (4, 1))) ∧ (Bd 420000000000 (gk tick (5, 1)) ∧ Bd 420000000000 (hk tick (5, 1))) ∧ (Bd 80000000000 (gk tick (6, 1)) ∧ Bd 80000000000 (hk tick (6, 1))) :=
  ⟨num_bd (by kernel_rfl) (by decide) ht, num_bd (by kernel_rfl) (by decide) ht, num_bd (by kernel_rfl) (by decide) ht, num_bd (by kernel_rfl) (by decide) ht, num_bd (by kernel_rfl) (by decide) ht, num_bd (by kernel_rfl) (by decide) ht⟩
/-- Six products, each of a known size. -/
theorem six {q1 q2 q3 q4 q5 q6 t1 t2 t3 t4 t5 t6 g1 g2 g3 g4 g5 g6 A1 A2 A3 A4 A5 A6 T1 T2 T3 T4 T5 T6 G1 G2 G3 G4 G5 G6 : Int} (a1 : Bd A1 q1) (a2 : Bd A2 q2) (a3 : Bd A3 q3) (a4 : Bd A4 q4) (a5 : Bd A5 q5) (a6 : Bd A6 q6)
    (b1 : Bd T1 t1) (b2 : Bd T2 t2) (b3 : Bd T3 t3) (b4 : Bd T4 t4) (b5 : Bd T5 t5) (b6 : Bd T6 t6) (c1 : Bd G1 g1) (c2 : Bd G2 g2) (c3 : Bd G3 g3) (c4 : Bd G4 g4) (c5 : Bd G5 g5) (c6 : Bd G6 g6) :
    Bd (A1 * (T1 * G1) + A2 * (T2 * G2) + A3 * (T3 * G3) + A4 * (T4 * G4) + A5 * (T5 * G5) + A6 * (T6 * G6)) (q1 * (t1 * g1) + q2 * (t2 * g2) + q3 * (t3 * g3) + q4 * (t4 * g4) + q5 * (t5 * g5) + q6 * (t6 * g6)) :=
  (((((a1.mul (b1.mul c1)).add (a2.mul (b2.mul c2))).add (a3.mul (b3.mul c3))).add (a4.mul (b4.mul c4))).add (a5.mul (b5.mul c5))).add (a6.mul (b6.mul c6))
theorem six_sub (q1 q2 q3 q4 q5 q6 t1 t2 t3 t4 t5 t6 s1 s2 s3 s4 s5 s6 g1 g2 g3 g4 g5 g6 : Int) :
    (q1 * (t1 * g1) + q2 * (t2 * g2) + q3 * (t3 * g3) + q4 * (t4 * g4) + q5 * (t5 * g5) + q6 * (t6 * g6)) - (q1 * (s1 * g1) + q2 * (s2 * g2) + q3 * (s3 * g3) + q4 * (s4 * g4) + q5 * (s5 * g5) + q6 * (s6 * g6)) =
    q1 * ((t1 - s1) * g1) + q2 * ((t2 - s2) * g2) + q3 * ((t3 - s3) * g3) + q4 * ((t4 - s4) * g4) + q5 * ((t5 - s5) * g5) + q6 * ((t6 - s6) * g6) := by grind
structure Pole (q : Int → Int) : Prop where
  (q1 : Bd 1099511627776 (q 1)) (q2 : Bd 1904382000000 (q 2)) (q3 : Bd 2693162000000 (q 3)) (q4 : Bd 3476740000000 (q 4)) (q5 : Bd 4258050000000 (q 5)) (q6 : Bd 5037950000000 (q 6))
theorem poleN : Pole qN := ⟨⟨by decide, by decide⟩, ⟨by decide, by decide⟩, ⟨by decide, by decide⟩, ⟨by decide, by decide⟩, ⟨by decide, by decide⟩, ⟨by decide, by decide⟩⟩
theorem poleS : Pole qS := ⟨⟨by decide, by decide⟩, ⟨by decide, by decide⟩, ⟨by decide, by decide⟩, ⟨by decide, by decide⟩, ⟨by decide, by decide⟩, ⟨by decide, by decide⟩⟩
theorem t_bd {r : Int} (h : In01 (rho r)) (n : Nat) : Bd 1099511627776 (tau r n) := ⟨by have := (tau_in h n).1; omega, (tau_in h n).2⟩
/-- 24 One, in the sums' own units. -/
theorem sumG_bd {q : Int → Int} (hq : Pole q) {tick : Int} (ht : 0 ≤ tick ∧ tick ≤ 157766400000) {r : Int} (hr : In01 (rho r)) : Bd (26388279066624 * 1208925819614629174706176) (sumG q r tick) ∧ Bd (26388279066624 * 1208925819614629174706176) (sumH q r tick) := by
  obtain ⟨⟨g1, h1⟩, ⟨g2, h2⟩, ⟨g3, h3⟩, ⟨g4, h4⟩, ⟨g5, h5⟩, ⟨g6, h6⟩⟩ := nums1 ht
  constructor
  · exact (six hq.q1 hq.q2 hq.q3 hq.q4 hq.q5 hq.q6 (t_bd hr 1) (t_bd hr 2) (t_bd hr 3) (t_bd hr 4) (t_bd hr 5) (t_bd hr 6) g1 g2 g3 g4 g5 g6).mono (by decide)
  · exact (six hq.q1 hq.q2 hq.q3 hq.q4 hq.q5 hq.q6 (t_bd hr 1) (t_bd hr 2) (t_bd hr 3) (t_bd hr 4) (t_bd hr 5) (t_bd hr 6) h1 h2 h3 h4 h5 h6).mono (by decide)
theorem sumG_near {q : Int → Int} (hq : Pole q) {tick : Int} (ht : 0 ≤ tick ∧ tick ≤ 157766400000) {r r' : Int} (hr : In01 (rho r)) (hr' : In01 (rho r')) (hd : Bd 26500000 (rho r - rho r')) :
    Bd (10995116277 * 1208925819614629174706176) (sumG q r tick - sumG q r' tick) ∧ Bd (10995116277 * 1208925819614629174706176) (sumH q r tick - sumH q r' tick) := by
  obtain ⟨⟨g1, h1⟩, ⟨g2, h2⟩, ⟨g3, h3⟩, ⟨g4, h4⟩, ⟨g5, h5⟩, ⟨g6, h6⟩⟩ := nums1 ht
  have d := tau_near hr hr' hd
  constructor
  · unfold sumG
    rw [six_sub]
    exact (six hq.q1 hq.q2 hq.q3 hq.q4 hq.q5 hq.q6 (d 1) (d 2) (d 3) (d 4) (d 5) (d 6) g1 g2 g3 g4 g5 g6).mono (by decide)
  · unfold sumH
    rw [six_sub]
    exact (six hq.q1 hq.q2 hq.q3 hq.q4 hq.q5 hq.q6 (d 1) (d 2) (d 3) (d 4) (d 5) (d 6) h1 h2 h3 h4 h5 h6).mono (by decide)
structure Sgn (w : Int → Int) : Prop where
  (w1 : Bd 1 (w 1)) (w2 : Bd 1 (w 2)) (w3 : Bd 1 (w 3)) (w4 : Bd 1 (w 4)) (w5 : Bd 1 (w 5)) (w6 : Bd 1 (w 6))
theorem sgnN : Sgn wN := ⟨⟨by decide, by decide⟩, ⟨by decide, by decide⟩, ⟨by decide, by decide⟩, ⟨by decide, by decide⟩, ⟨by decide, by decide⟩, ⟨by decide, by decide⟩⟩
theorem sgnS : Sgn wS := ⟨⟨by decide, by decide⟩, ⟨by decide, by decide⟩, ⟨by decide, by decide⟩, ⟨by decide, by decide⟩, ⟨by decide, by decide⟩, ⟨by decide, by decide⟩⟩
theorem sumUp_six (w : Int → Int) (r tick : Int) : sumUp w r tick = (2 * w 1) * (tau r 1 * gk tick (1, 0)) + (3 * w 2) * (tau r 2 * gk tick (2, 0)) + (4 * w 3) * (tau r 3 * gk tick (3, 0)) + (5 * w 4) * (tau r 4 * gk tick (4, 0)) + (6 * w 5) * (tau r 5 * gk tick (5, 0)) + (7 * w 6) * (tau r 6 * gk tick (6, 0)) := by
  unfold sumUp
  grind
theorem sumUp_bd {w : Int → Int} (hw : Sgn w) {tick : Int} (ht : 0 ≤ tick ∧ tick ≤ 157766400000) {r : Int} (hr : In01 (rho r)) : Bd (93458488360960 * 1099511627776) (sumUp w r tick) := by
  obtain ⟨g1, g2, g3, g4, g5, g6⟩ := nums0 ht
  rw [sumUp_six]
  exact (six (scale_bd (by decide) hw.w1) (scale_bd (by decide) hw.w2) (scale_bd (by decide) hw.w3) (scale_bd (by decide) hw.w4) (scale_bd (by decide) hw.w5) (scale_bd (by decide) hw.w6) (t_bd hr 1) (t_bd hr 2) (t_bd hr 3) (t_bd hr 4) (t_bd hr 5) (t_bd hr 6) g1 g2 g3 g4 g5 g6).mono (by decide)
theorem sumUp_near {w : Int → Int} (hw : Sgn w) {tick : Int} (ht : 0 ≤ tick ∧ tick ≤ 157766400000) {r r' : Int} (hr : In01 (rho r)) (hr' : In01 (rho r')) (hd : Bd 26500000 (rho r - rho r')) :
    Bd (10995116277 * 1099511627776) (sumUp w r tick - sumUp w r' tick) := by
  obtain ⟨g1, g2, g3, g4, g5, g6⟩ := nums0 ht
  have d := tau_near hr hr' hd
  rw [sumUp_six, sumUp_six, six_sub]
  exact (six (scale_bd (by decide) hw.w1) (scale_bd (by decide) hw.w2) (scale_bd (by decide) hw.w3) (scale_bd (by decide) hw.w4) (scale_bd (by decide) hw.w5) (scale_bd (by decide) hw.w6) (d 1) (d 2) (d 3) (d 4) (d 5) (d 6) g1 g2 g3 g4 g5 g6).mono (by decide)
/-- The distances of a place near a pole. -/
theorem rad_is {x y z Z : Int} (hx : Bd 34359738368 x) (hy : Bd 34359738368 y) (hZ : 7013000000000 ≤ Z ∧ Z ≤ 9100000000000) (hz : z = Z ∨ z = -Z) :
    ∃ r w, norm x y z false = (r, false) ∧ norm x y 0 false = (w, false) ∧ Z ≤ r ∧ r ≤ Z + 168347100 ∧ 0 ≤ w ∧ w ≤ 48592008999 ∧ w * w ≤ x * x + y * y ∧ x * x + y * y < (w + 1) * (w + 1) := by
  have sx : x * x ≤ 34359738368 * 34359738368 := sq_le hx
  have sy : y * y ≤ 34359738368 * 34359738368 := sq_le hy
  have nx := sq_nonneg x
  have ny := sq_nonneg y
  have bz : Bd 9100000000000 z := by rcases hz with rfl | rfl <;> exact ⟨by omega, by omega⟩
  have ez : z * z = Z * Z := by rcases hz with rfl | rfl <;> grind
  obtain ⟨r, hr, r0, -, r1, r2⟩ := norm_is (a := x) (b := y) (c := z) 9100000000000 (hx.mono (by decide)) (hy.mono (by decide)) bz (by decide)
  obtain ⟨w, hw, w0, -, w1, w2⟩ := norm_is (a := x) (b := y) (c := 0) 34359738368 hx hy ⟨by decide, by decide⟩ (by decide)
  rw [ez] at r1 r2
  rw [Int.mul_zero, Int.add_zero] at w1 w2
  refine ⟨r, w, hr, hw, ?_, ?_, w0, ?_, w1, w2⟩
  · refine Int.not_lt.1 fun hn => ?_
    have : (r + 1) * (r + 1) ≤ Z * Z := Int.mul_le_mul (by omega) (by omega) (by omega) (by omega)
    generalize (r + 1) * (r + 1) = p at *
    generalize Z * Z = q at *
    omega
  · refine Int.not_lt.1 fun hn => ?_
    have h1 : (Z + 168347101) * (Z + 168347101) ≤ r * r := Int.mul_le_mul (by omega) (by omega) (by omega) (by omega)
    have e : (Z + 168347101) * (Z + 168347101) = Z * Z + 336694202 * Z + 28340746415104201 := by grind
    rw [e] at h1
    generalize r * r = p at *
    generalize Z * Z = q at *
    omega
  · refine Int.not_lt.1 fun hn => ?_
    have h1 : (48592009000 : Int) * 48592009000 ≤ w * w := Int.mul_le_mul (by omega) (by omega) (by omega) (by omega)
    generalize w * w = p at *
    omega
/-- The Earth's radius by distances that are near. -/
theorem rho_near {r r' Z : Int} (hZ : 7013000000000 ≤ Z ∧ Z ≤ 9100000000000) (h1 : Z ≤ r ∧ r ≤ Z + 168347100) (h2 : Z ≤ r' ∧ r' ≤ Z + 168347100) : Bd 26500000 (rho r - rho r') := by
  obtain ⟨-, i1, b1⟩ := rho_is (r := r) ⟨by omega, by omega⟩
  obtain ⟨-, i2, b2⟩ := rho_is (r := r') ⟨by omega, by omega⟩
  have p := (show Bd 1099511627776 (rho r') from ⟨by have := i2.1; omega, i2.2⟩).mul (show Bd 168347100 (r' - r) from ⟨by omega, by omega⟩)
  have e : (rho r - rho r') * r = (rho r * r - 7005208482886 * 1099511627776) - (rho r' * r' - 7005208482886 * 1099511627776) + rho r' * (r' - r) := by grind
  generalize rho r * r = A at *
  generalize rho r' * r' = B at *
  generalize rho r' * (r' - r) = C at *
  unfold Bd at *
  constructor
  · refine Int.not_lt.1 fun hn => ?_
    have h : (rho r - rho r') * r ≤ (-26500001) * r := Int.mul_le_mul_of_nonneg_right (by omega) (by omega)
    omega
  · refine Int.not_lt.1 fun hn => ?_
    have h : 26500001 * r ≤ (rho r - rho r') * r := Int.mul_le_mul_of_nonneg_right (by omega) (by omega)
    omega
/-- The direction of a place near a pole. -/
theorem dir_north {z r w : Int} (hz : 7013000000000 ≤ z ∧ z ≤ 9100000000000) (hr : z ≤ r ∧ r ≤ z + 168347100) (hw : 0 ≤ w ∧ w ≤ 48592008999) : ∃ c s, div z r false = (c, false) ∧ div w r false = (s, false) ∧ In cN c ∧ In sP s := by
  obtain ⟨c, hc, c1, c2⟩ := div_is (a := z) (q := r) 9100000000000 ⟨by omega, by omega⟩ (by decide) (by omega) (by omega)
  obtain ⟨s, hs, s1, s2⟩ := div_is (a := w) (q := r) 48592008999 ⟨by omega, by omega⟩ (by decide) (by omega) (by omega)
  refine ⟨c, s, hc, hs, ⟨?_, ?_⟩, ⟨?_, ?_⟩⟩
  · refine Int.not_lt.1 fun hn => ?_
    have hn : c < 1099485227776 := hn
    have : c * r ≤ 1099485227775 * r := Int.mul_le_mul_of_nonneg_right (by omega) (by omega)
    generalize c * r = p at *
    omega
  · refine Int.not_lt.1 fun hn => ?_
    have hn : 1099511627777 < c := hn
    have : 1099511627778 * r ≤ c * r := Int.mul_le_mul_of_nonneg_right (by omega) (by omega)
    generalize c * r = p at *
    omega
  · refine Int.not_lt.1 fun hn => ?_
    have hn : s < 0 := hn
    have : s * r ≤ (-1) * r := Int.mul_le_mul_of_nonneg_right (by omega) (by omega)
    generalize s * r = p at *
    omega
  · refine Int.not_lt.1 fun hn => ?_
    have hn : 7618500000 < s := hn
    have : 7618500001 * r ≤ s * r := Int.mul_le_mul_of_nonneg_right (by omega) (by omega)
    generalize s * r = p at *
    omega
theorem dir_south {z r w Z : Int} (hZ : 7013000000000 ≤ Z ∧ Z ≤ 9100000000000) (hz : z = -Z) (hr : Z ≤ r ∧ r ≤ Z + 168347100) (hw : 0 ≤ w ∧ w ≤ 48592008999) : ∃ c s, div z r false = (c, false) ∧ div w r false = (s, false) ∧ In cS c ∧ In sP s := by
  obtain ⟨c', s, -, hs, -, hS⟩ := dir_north hZ hr hw
  obtain ⟨c, hc, c1, c2⟩ := div_is (a := z) (q := r) 9100000000000 ⟨by omega, by omega⟩ (by decide) (by omega) (by omega)
  refine ⟨c, s, hc, hs, ⟨?_, ?_⟩, hS⟩
  · refine Int.not_lt.1 fun hn => ?_
    have hn : c < -1099511627777 := hn
    have : c * r ≤ (-1099511627778) * r := Int.mul_le_mul_of_nonneg_right (by omega) (by omega)
    generalize c * r = p at *
    omega
  · refine Int.not_lt.1 fun hn => ?_
    have hn : -1099485227776 < c := hn
    have : (-1099485227775) * r ≤ c * r := Int.mul_le_mul_of_nonneg_right (by omega) (by omega)
    generalize c * r = p at *
    omega
/-- The squares of the horizontal direction are 1 together, but for 2^-18. -/
theorem uv_one {x y w u v : Int} (hw : 1048576 ≤ w) (h1 : w * w ≤ x * x + y * y) (h2 : x * x + y * y < (w + 1) * (w + 1)) (hx : Bd w x) (hy : Bd w y) (hu : Bd w (2 * (u * w - x * 1099511627776))) (hv : Bd w (2 * (v * w - y * 1099511627776))) :
    Bd 4611686018427387904 (u * u + v * v - 1208925819614629174706176) := by
  obtain ⟨α, hα⟩ : ∃ α, α = u * w - x * 1099511627776 := ⟨_, rfl⟩
  obtain ⟨β, hβ⟩ : ∃ β, β = v * w - y * 1099511627776 := ⟨_, rfl⟩
  rw [← hα] at hu
  rw [← hβ] at hv
  have p1 := hx.mul hu
  have p2 := hy.mul hv
  have p3 := hu.mul hu
  have p4 := hv.mul hv
  have e : 4 * ((u * u + v * v - 1208925819614629174706176) * (w * w)) = 4 * 1208925819614629174706176 * (x * x + y * y - w * w) + 4398046511104 * (x * (2 * α) + y * (2 * β)) + (2 * α * (2 * α) + 2 * β * (2 * β)) := by
    have a1 : u * w = α + x * 1099511627776 := by omega
    have a2 : v * w = β + y * 1099511627776 := by omega
    grind
  have e2 : (w + 1) * (w + 1) = w * w + 2 * w + 1 := by grind
  rw [e2] at h2
  have h3 : 1048576 * w ≤ w * w := Int.mul_le_mul_of_nonneg_right hw (by omega)
  generalize x * (2 * α) = A at *
  generalize y * (2 * β) = B at *
  generalize 2 * α * (2 * α) = C at *
  generalize 2 * β * (2 * β) = D at *
  generalize x * x + y * y = S at *
  generalize u * u + v * v - 1208925819614629174706176 = E at *
  have hW : 0 < w * w := Int.mul_pos (by omega) (by omega)
  generalize w * w = W at *
  unfold Bd at *
  constructor
  · refine Int.not_lt.1 fun hn => ?_
    have : E * W ≤ (-4611686018427387905) * W := Int.mul_le_mul_of_nonneg_right (by omega) (by omega)
    generalize E * W = F at *
    omega
  · refine Int.not_lt.1 fun hn => ?_
    have : 4611686018427387905 * W ≤ E * W := Int.mul_le_mul_of_nonneg_right (by omega) (by omega)
    generalize E * W = F at *
    omega
/-- What the three sums say of the field. -/
theorem from_sums {sg U G H up south east c s u v a X Y Z : Int} (hsg : sg = 1 ∨ sg = -1) (hU : Bd (93458488360960 * 1099511627776) U) (hG : Bd (26388279066624 * 1208925819614629174706176) G) (hH : Bd (26388279066624 * 1208925819614629174706176) H)
    (h1 : Bd (2858730232218 * 1329227995784915872903807060280344576) (1329227995784915872903807060280344576 * up - 1208925819614629174706176 * U)) (h2 : Bd (1759218604442 * 1329227995784915872903807060280344576) (1329227995784915872903807060280344576 * -south - sg * (G * u + H * v)))
    (h3 : Bd (714682558055 * 1329227995784915872903807060280344576) (1329227995784915872903807060280344576 * east - (G * v - H * u)))
    (hc : Bd 26400000 (c - sg * 1099511627776)) (hs : In sP s) (hu : Bd 1099511627776 u) (hv : Bd 1099511627776 v) (huv : Bd 4611686018427387904 (u * u + v * v - 1208925819614629174706176))
    (ha : Bd 1099511627776 (1099511627776 * a - (up * s + south * c))) (hX : Bd 1099511627776 (1099511627776 * X - (a * u - east * v))) (hY : Bd 1099511627776 (1099511627776 * Y - (a * v + east * u))) (hZ : Bd 1099511627776 (1099511627776 * Z - (up * c - south * s))) :
    Bd (3 * 1208925819614629174706176) (1099511627776 * Z - sg * U) ∧ Bd (3 * 1329227995784915872903807060280344576) (1208925819614629174706176 * X + G) ∧ Bd (3 * 1329227995784915872903807060280344576) (1208925819614629174706176 * Y + H) := by
  have bs : Bd 7618500000 s := ⟨by have := hs.1; change 0 ≤ s at this; omega, hs.2⟩
  have bup : Bd 96317218593179 up := by unfold Bd at *; omega
  have g1 := hG.mul hu
  have g2 := hH.mul hv
  have bso : Bd 54535776737691 south := by
    generalize G * u = A at *
    generalize H * v = B at *
    unfold Bd at *
    rcases hsg with rfl | rfl <;> omega
  have k1 := bup.mul hc
  have k2 := bso.mul bs
  have k3 := bup.mul bs
  have k4 := bso.mul hc
  refine ⟨?_, ?_⟩
  · have e : up * c = up * (c - sg * 1099511627776) + sg * (1099511627776 * up) := by grind
    rw [e] at hZ
    generalize up * (c - sg * 1099511627776) = A at *
    generalize south * s = B at *
    unfold Bd at *
    rcases hsg with rfl | rfl <;> omega
  · have e : south * c = south * (c - sg * 1099511627776) + sg * (1099511627776 * south) := by grind
    rw [e] at ha
    have hA : Bd (2428230000000 * 1329227995784915872903807060280344576) (1329227995784915872903807060280344576 * a + (G * u + H * v)) := by
      generalize south * (c - sg * 1099511627776) = A at *
      generalize up * s = B at *
      generalize G * u + H * v = C at *
      unfold Bd at *
      rcases hsg with rfl | rfl <;> omega
    have m1 := hA.mul hu
    have m2 := h3.mul hv
    have m3 := hG.mul huv
    have m4 := hA.mul hv
    have m5 := h3.mul hu
    have m6 := hH.mul huv
    have e1 : 1329227995784915872903807060280344576 * (a * u - east * v) + G * 1208925819614629174706176 = (1329227995784915872903807060280344576 * a + (G * u + H * v)) * u - (1329227995784915872903807060280344576 * east - (G * v - H * u)) * v - G * (u * u + v * v - 1208925819614629174706176) := by grind
    have e2 : 1329227995784915872903807060280344576 * (a * v + east * u) + H * 1208925819614629174706176 = (1329227995784915872903807060280344576 * a + (G * u + H * v)) * v + (1329227995784915872903807060280344576 * east - (G * v - H * u)) * u - H * (u * u + v * v - 1208925819614629174706176) := by grind
    generalize (1329227995784915872903807060280344576 * a + (G * u + H * v)) * u = M1 at *
    generalize (1329227995784915872903807060280344576 * east - (G * v - H * u)) * v = M2 at *
    generalize G * (u * u + v * v - 1208925819614629174706176) = M3 at *
    generalize (1329227995784915872903807060280344576 * a + (G * u + H * v)) * v = M4 at *
    generalize (1329227995784915872903807060280344576 * east - (G * v - H * u)) * u = M5 at *
    generalize H * (u * u + v * v - 1208925819614629174706176) = M6 at *
    generalize a * u - east * v = N1 at *
    generalize a * v + east * u = N2 at *
    clear e h1 h2 hA ha hZ h3 g1 g2 k1 k2 k3 k4 huv
    unfold Bd at *
    constructor
    · omega
    · omega
theorem earP_is (x y z t : Int) : earP ⟨x, y, z⟩ t false =
    (let r := norm x y z false
    bif (bif (bif !(ckT t) then true else decide (r.1 < 6597069766656)) then true else decide (r.1 > 10995116277760)) then (V3.zero, true) else
    bif r.2 then (V3.zero, r.2) else
    let w := norm x y 0 r.2
    let c := div z r.1 w.2
    let s := div w.1 r.1 c.2
    bif decide (w.1 ≥ 1048576) then
      let u := div x w.1 s.2
      let v := div y w.1 u.2
      eBodyVP t r.1 c.1 s.1 u.1 v.1 v.2
    else eBodyVP t r.1 c.1 s.1 1099511627776 0 s.2) := rfl
/-- Horizontal directions. -/
theorem uv_is {x y w : Int} (hw : 1048576 ≤ w) (hw2 : w ≤ 48592008999) (h1 : w * w ≤ x * x + y * y) (h2 : x * x + y * y < (w + 1) * (w + 1)) :
    ∃ u v, div x w false = (u, false) ∧ div y w false = (v, false) ∧ Bd 1099511627776 u ∧ Bd 1099511627776 v ∧ Bd 4611686018427387904 (u * u + v * v - 1208925819614629174706176) := by
  have key : ∀ a : Int, a * a < (w + 1) * (w + 1) → Bd w a := by
    intro a ha
    constructor
    · refine Int.not_lt.1 fun hn => ?_
      have : (w + 1) * (w + 1) ≤ (-a) * (-a) := Int.mul_le_mul (by omega) (by omega) (by omega) (by omega)
      rw [Int.neg_mul_neg] at this
      omega
    · refine Int.not_lt.1 fun hn => ?_
      have : (w + 1) * (w + 1) ≤ a * a := Int.mul_le_mul (by omega) (by omega) (by omega) (by omega)
      omega
  have bx := key x (by have := sq_nonneg y; omega)
  have bY := key y (by have := sq_nonneg x; omega)
  obtain ⟨u, hu, nu⟩ := div_is (a := x) (q := w) w bx (by omega) (by omega) (by omega)
  obtain ⟨v, hv, nv⟩ := div_is (a := y) (q := w) w bY (by omega) (by omega) (by omega)
  have du := div_unit (a := x) (q := w) (bad := false) (by rw [hu]) (by omega) bx
  have dv := div_unit (a := y) (q := w) (bad := false) (by rw [hv]) (by omega) bY
  rw [hu] at du
  rw [hv] at dv
  exact ⟨u, v, hu, hv, du, dv, uv_one hw h1 h2 bx bY nu nv⟩
theorem body_at {w q : Int → Int} {sg : Int} {C : Iv} (hK : termsI C sP (poleK w q sg) = some ()) (hP : Pole q) (hS : Sgn w) (hsg : sg = 1 ∨ sg = -1) (hC : ∀ c, In C c → Bd 26400000 (c - sg * 1099511627776) ∧ Bd 1099511627777 c)
    {tick r c s u v : Int} (ht : 0 ≤ tick ∧ tick ≤ 157766400000) (hr : 7005208482886 ≤ r ∧ r ≤ 4611686018427387904) (hc : In C c) (hs : In sP s) (hu : Bd 1099511627776 u) (hv : Bd 1099511627776 v) (huv : Bd 4611686018427387904 (u * u + v * v - 1208925819614629174706176)) :
    ∃ X Y Z, eBodyVP tick r c s u v false = (⟨X, Y, Z⟩, false) ∧ Bd (3 * 1208925819614629174706176) (1099511627776 * Z - sg * sumUp w r tick) ∧ Bd (3 * 1329227995784915872903807060280344576) (1208925819614629174706176 * X + sumG q r tick) ∧ Bd (3 * 1329227995784915872903807060280344576) (1208925819614629174706176 * Y + sumH q r tick) := by
  obtain ⟨-, hr1, -⟩ := rho_is hr
  obtain ⟨e, he, hb, b1, b2, b3, r1, r2, r3⟩ := body_pole hK ht hr hc hs hu hv
  obtain ⟨X, Y, Z, a, hl, ha, hX, hY, hZ⟩ := last_is (c := c) (s := s) (u := u) (v := v) hb (b1.mono (by decide)) (b2.mono (by decide)) (b3.mono (by decide)) (hC c hc).2 (show Bd 1099511627777 s from ⟨by have h := hs.1; change 0 ≤ s at h; omega, by have h := hs.2; change s ≤ 7618500000 at h; omega⟩) (hu.mono (by decide)) (hv.mono (by decide))
  rw [mainU_is] at r1
  rw [mainS_is q sg r tick hu hv] at r2
  rw [mainE_is q r tick hu hv] at r3
  unfold Q3 at r1 r2 r3
  obtain ⟨g1, g2⟩ := sumG_bd hP ht hr1
  obtain ⟨z1, z2, z3⟩ := from_sums hsg (sumUp_bd hS ht hr1) g1 g2 r1 r2 r3 (hC c hc).1 hs hu hv huv ha hX hY hZ
  exact ⟨X, Y, Z, he.trans hl, z1, z2, z3⟩
/-- The field at a place near a pole. -/
theorem place_at {w q : Int → Int} {sg : Int} {C : Iv} (hK : termsI C sP (poleK w q sg) = some ()) (hP : Pole q) (hS : Sgn w) (hsg : sg = 1 ∨ sg = -1) (hC : ∀ c, In C c → Bd 26400000 (c - sg * 1099511627776) ∧ Bd 1099511627777 c)
    {tick x y z Z : Int} (ht : 0 ≤ tick ∧ tick ≤ 157766400000) (hx : Bd 34359738368 x) (hy : Bd 34359738368 y) (hZ : 7013000000000 ≤ Z ∧ Z ≤ 9100000000000) (hz : z = Z ∨ z = -Z)
    (hD : ∀ r w : Int, Z ≤ r ∧ r ≤ Z + 168347100 → 0 ≤ w ∧ w ≤ 48592008999 → ∃ c s, div z r false = (c, false) ∧ div w r false = (s, false) ∧ In C c ∧ In sP s) :
    ∃ r X Y V, earP ⟨x, y, z⟩ tick false = (⟨X, Y, V⟩, false) ∧ (Z ≤ r ∧ r ≤ Z + 168347100) ∧ Bd (3 * 1208925819614629174706176) (1099511627776 * V - sg * sumUp w r tick) ∧ Bd (3 * 1329227995784915872903807060280344576) (1208925819614629174706176 * X + sumG q r tick) ∧ Bd (3 * 1329227995784915872903807060280344576) (1208925819614629174706176 * Y + sumH q r tick) := by
  obtain ⟨r, W, hr, hw, r1, r2, w0, w1, w2, w3⟩ := rad_is hx hy hZ hz
  obtain ⟨c, s, hc, hs, ic, is⟩ := hD r W ⟨r1, r2⟩ ⟨w0, w1⟩
  have hk : ckT tick = true := by rw [ck_is]; simp [ht.1, ht.2]
  have k1 : decide (r < 6597069766656) = false := decide_eq_false (by omega)
  have k2 : decide (r > 10995116277760) = false := decide_eq_false (by omega)
  have e := earP_is x y z tick
  dsimp only at e
  rw [hr] at e
  dsimp only at e
  rw [hk, Bool.not_true, bf, k1, bf, k2, bf, bf, hw] at e
  dsimp only at e
  rw [hc] at e
  dsimp only at e
  rw [hs] at e
  dsimp only at e
  cases hd : decide (W ≥ 1048576) with
  | true =>
    obtain ⟨u, v, eu, ev, bu, bv, buv⟩ := uv_is (of_decide_eq_true hd) w1 w2 w3
    rw [hd, bt, eu] at e
    dsimp only at e
    rw [ev] at e
    obtain ⟨X, Y, V, h, z1, z2, z3⟩ := body_at hK hP hS hsg hC ht (r := r) ⟨by omega, by omega⟩ ic is bu bv buv
    exact ⟨r, X, Y, V, e.trans h, ⟨r1, r2⟩, z1, z2, z3⟩
  | false =>
    rw [hd, bf] at e
    obtain ⟨X, Y, V, h, z1, z2, z3⟩ := body_at hK hP hS hsg hC ht (r := r) (u := 1099511627776) (v := 0) ⟨by omega, by omega⟩ ic is ⟨by decide, by decide⟩ ⟨by decide, by decide⟩ ⟨by decide, by decide⟩
    exact ⟨r, X, Y, V, e.trans h, ⟨r1, r2⟩, z1, z2, z3⟩
/-- Two places above one another's pole: the fields are near. -/
theorem two_near {w q : Int → Int} {sg : Int} (hP : Pole q) (hS : Sgn w) (hsg : sg = 1 ∨ sg = -1) {tick Z r r' X Y V X' Y' V' : Int} (ht : 0 ≤ tick ∧ tick ≤ 157766400000) (hZ : 7013000000000 ≤ Z ∧ Z ≤ 9100000000000) (h1 : Z ≤ r ∧ r ≤ Z + 168347100) (h2 : Z ≤ r' ∧ r' ≤ Z + 168347100)
    (a1 : Bd (3 * 1208925819614629174706176) (1099511627776 * V - sg * sumUp w r tick)) (a2 : Bd (3 * 1329227995784915872903807060280344576) (1208925819614629174706176 * X + sumG q r tick)) (a3 : Bd (3 * 1329227995784915872903807060280344576) (1208925819614629174706176 * Y + sumH q r tick))
    (b1 : Bd (3 * 1208925819614629174706176) (1099511627776 * V' - sg * sumUp w r' tick)) (b2 : Bd (3 * 1329227995784915872903807060280344576) (1208925819614629174706176 * X' + sumG q r' tick)) (b3 : Bd (3 * 1329227995784915872903807060280344576) (1208925819614629174706176 * Y' + sumH q r' tick)) :
    Bd 8796093022208 (X - X') ∧ Bd 8796093022208 (Y - Y') ∧ Bd 8796093022208 (V - V') := by
  have hd := rho_near hZ h1 h2
  obtain ⟨-, i1, -⟩ := rho_is (r := r) ⟨by omega, by omega⟩
  obtain ⟨-, i2, -⟩ := rho_is (r := r') ⟨by omega, by omega⟩
  have n1 := sumUp_near hS ht i1 i2 hd
  obtain ⟨n2, n3⟩ := sumG_near hP ht i1 i2 hd
  refine ⟨?_, ?_, ?_⟩
  · clear n1 n3 a1 a3 b1 b3 hd
    unfold Bd at *
    omega
  · clear n1 n2 a1 a2 b1 b2 hd
    unfold Bd at *
    omega
  · clear n2 n3 a2 a3 b2 b3 hd
    unfold Bd at *
    rcases hsg with rfl | rfl <;> omega
section
variable (ea : V3 → Int → Bool → V3 × Bool) (nr : Op3)
def envLP : Env := [(8, .pure anyArgs yesF), (11, .flow 25 (vtF ea)), (13, .flow 25 (nrmF nr))]
def farB (d : Int) : Bool := bif decide (d > 8796093022208) then true else decide (d < -8796093022208)
theorem lpole_raw (p : V3) (t : Int) : acall Try.prog (envLP ea nr) 100 5 [p.av, I t] [] ansK =
    bif (bif (bif (bif (bif decide (p.z > 9100000000000) then true else decide (p.z < -9100000000000)) then true else (bif decide (p.z > -7013000000000) then decide (p.z < 7013000000000) else false)) then true else decide (t < 0)) then true else decide (t > 157766400000)) then some true else
    bif (bif (bif (bif decide (p.x > 34359738368) then true else decide (p.x < -34359738368)) then true else decide (p.y > 34359738368)) then true else decide (p.y < -34359738368)) then some true else
    let a := ea ⟨0, 0, p.z⟩ t false
    let b := ea p t a.2
    bif farB (wr .i64 (a.1.x - b.1.x)) then some false else
    bif farB (wr .i64 (a.1.y - b.1.y)) then some false else
    bif farB (wr .i64 (a.1.z - b.1.z)) then some false else
    bif !b.2 then some (an true (decide ((nr a.1.x a.1.y a.1.z b.2).1 > 10995116277760))) else some false := by kernel_rfl
end
/-- Later powers are smaller. -/
theorem tau_le {r : Int} (h : In01 (rho r)) (n : Nat) : tau r (n + 1) ≤ tau r n := by
  have h1 := tau_in h n
  obtain ⟨x, hx, i, b⟩ := mul_01 h1 h
  have e : tau r (n + 1) = x := by
    conv => lhs; unfold tau
    rw [hx]
  rw [e]
  have : tau r n * rho r ≤ tau r n * 1099511627776 := Int.mul_le_mul_of_nonneg_left h.2 h1.1
  generalize tau r n * rho r = p at *
  unfold Bd at b
  omega
theorem tau1_ge {r : Int} (h : 7013000000000 ≤ r ∧ r ≤ 9100168347100) : 483000000000 ≤ tau r 1 := by
  obtain ⟨-, i, b⟩ := rho_is (r := r) ⟨by omega, by omega⟩
  have h0 : 846000000000 ≤ rho r := by
    refine Int.not_lt.1 fun hn => ?_
    have : rho r * r ≤ 845999999999 * r := Int.mul_le_mul_of_nonneg_right (by omega) (by omega)
    generalize rho r * r = p at *
    unfold Bd at b
    omega
  have h1 : 650000000000 ≤ tau r 0 := by
    obtain ⟨x, hx, -, n⟩ := mul_01 i i
    have e : tau r 0 = x := by unfold tau; rw [hx]
    rw [e]
    have : (846000000000 : Int) * 846000000000 ≤ rho r * rho r := Int.mul_le_mul h0 h0 (by decide) (by omega)
    generalize rho r * rho r = p at *
    unfold Bd at n
    omega
  obtain ⟨x, hx, -, n⟩ := mul_01 (tau_in i 0) i
  have e : tau r 1 = x := by
    conv => lhs; unfold tau
    rw [hx]
  rw [e]
  have : (650000000000 : Int) * 846000000000 ≤ tau r 0 * rho r := Int.mul_le_mul h1 h0 (by decide) (by omega)
  generalize tau r 0 * rho r = p at *
  unfold Bd at n
  omega
theorem g10_is {tick : Int} (ht : 0 ≤ tick ∧ tick ≤ 157766400000) : gk tick (1, 0) ≤ -32000000000000 := by
  have h : numI (1, 0) (fun G _ => bif decide (G.2 ≤ -32000000000000) then some () else none) = some () := by kernel_rfl
  obtain ⟨g, h', G, H, hn, ig, ih, h⟩ := num_in (k := (1, 0)) (by decide) ht h
  have eg : gk tick (1, 0) = g := by unfold gk; rw [hn]
  rw [eg]
  cases hw : decide (G.2 ≤ -32000000000000) with
  | false => rw [hw] at h; cases h
  | true =>
    have := of_decide_eq_true hw
    unfold In at ig
    omega
theorem prod_sm {t t1 g L : Int} (h : 0 ≤ t ∧ t ≤ t1) (hg : Bd L g) : Bd (t1 * L) (t * g) := (show Bd t1 t from ⟨by omega, h.2⟩).mul hg
/-- The vertical's sum is great. -/
theorem sumUp_ge {w : Int → Int} (hS : Sgn w) (hw1 : w 1 = 1 ∨ w 1 = -1) {tick : Int} (ht : 0 ≤ tick ∧ tick ≤ 157766400000) {r : Int} (h : 7013000000000 ≤ r ∧ r ≤ 9100168347100) : sumUp w r tick ≥ 15 * 1208925819614629174706176 ∨ sumUp w r tick ≤ -(15 * 1208925819614629174706176) := by
  obtain ⟨-, hr, -⟩ := rho_is (r := r) ⟨by omega, by omega⟩
  obtain ⟨g1, g2, g3, g4, g5, g6⟩ := nums0 ht
  have l2 : tau r 2 ≤ tau r 1 := tau_le hr 1
  have l3 : tau r 3 ≤ tau r 2 := tau_le hr 2
  have l4 : tau r 4 ≤ tau r 3 := tau_le hr 3
  have l5 : tau r 5 ≤ tau r 4 := tau_le hr 4
  have l6 : tau r 6 ≤ tau r 5 := tau_le hr 5
  have p2 := scale_bd (n := 3) (by decide) (hS.w2.mul (prod_sm (t1 := tau r 1) ⟨(tau_in hr 2).1, by omega⟩ g2))
  have p3 := scale_bd (n := 4) (by decide) (hS.w3.mul (prod_sm (t1 := tau r 1) ⟨(tau_in hr 3).1, by omega⟩ g3))
  have p4 := scale_bd (n := 5) (by decide) (hS.w4.mul (prod_sm (t1 := tau r 1) ⟨(tau_in hr 4).1, by omega⟩ g4))
  have p5 := scale_bd (n := 6) (by decide) (hS.w5.mul (prod_sm (t1 := tau r 1) ⟨(tau_in hr 5).1, by omega⟩ g5))
  have p6 := scale_bd (n := 7) (by decide) (hS.w6.mul (prod_sm (t1 := tau r 1) ⟨(tau_in hr 6).1, by omega⟩ g6))
  have t1 := tau1_ge h
  have gg := g10_is ht
  have big : tau r 1 * gk tick (1, 0) ≤ tau r 1 * (-32000000000000) := Int.mul_le_mul_of_nonneg_left gg (by omega)
  unfold sumUp
  generalize w 2 * (tau r 2 * gk tick (2, 0)) = A2 at *
  generalize w 3 * (tau r 3 * gk tick (3, 0)) = A3 at *
  generalize w 4 * (tau r 4 * gk tick (4, 0)) = A4 at *
  generalize w 5 * (tau r 5 * gk tick (5, 0)) = A5 at *
  generalize w 6 * (tau r 6 * gk tick (6, 0)) = A6 at *
  generalize tau r 1 * gk tick (1, 0) = A1 at *
  unfold Bd at *
  rcases hw1 with e | e <;> rw [e] <;> omega
theorem or_no {a b : Bool} (h : (bif a then true else b) = false) : a = false ∧ b = false := by cases a <;> cases b <;> simp_all
theorem and_no {a b : Bool} (h : (bif a then b else false) = false) : a = false ∨ b = false := by cases a <;> cases b <;> simp_all
theorem far_no {d : Int} (h : Bd 8796093022208 d) : farB (wr .i64 d) = false := by
  have e : wr .i64 d = d := by
    have := h.1
    have := h.2
    rw [wr_i64]
    omega
  rw [e]
  unfold farB
  rw [decide_eq_false (by have := h.2; omega), bf]
  exact decide_eq_false (by have := h.1; omega)
theorem north_c : ∀ c, In cN c → Bd 26400000 (c - 1 * 1099511627776) ∧ Bd 1099511627777 c := by
  intro c h
  have h1 : 1099485227776 ≤ c := h.1
  have h2 : c ≤ 1099511627777 := h.2
  exact ⟨⟨by omega, by omega⟩, ⟨by omega, by omega⟩⟩
theorem south_c : ∀ c, In cS c → Bd 26400000 (c - (-1) * 1099511627776) ∧ Bd 1099511627777 c := by
  intro c h
  have h1 : -1099511627777 ≤ c := h.1
  have h2 : c ≤ -1099485227776 := h.2
  exact ⟨⟨by omega, by omega⟩, ⟨by omega, by omega⟩⟩
theorem norm_ge {V : V3} (hx : Bd 1125899906842624 V.x) (hy : Bd 1125899906842624 V.y) (hz : Bd 1125899906842624 V.z) (h : V.z ≥ 11000000000000 ∨ V.z ≤ -11000000000000) : (norm V.x V.y V.z false).1 > 10995116277760 := by
  obtain ⟨n, hn, n0, -, n1, n2⟩ := norm_is (a := V.x) (b := V.y) (c := V.z) 1125899906842624 hx hy hz (by decide)
  rw [hn]
  refine Int.not_le.1 fun hle => ?_
  have s1 : (n + 1) * (n + 1) ≤ 10995116277761 * 10995116277761 := Int.mul_le_mul (by dsimp only at hle; omega) (by dsimp only at hle; omega) (by omega) (by omega)
  have s2 : (11000000000000 : Int) * 11000000000000 ≤ V.z * V.z := by
    rcases h with h | h
    · exact Int.mul_le_mul h h (by decide) (by omega)
    · have e : (11000000000000 : Int) * 11000000000000 ≤ (-V.z) * (-V.z) := Int.mul_le_mul (by omega) (by omega) (by decide) (by omega)
      rw [Int.neg_mul_neg] at e
      exact e
  have := sq_nonneg V.x
  have := sq_nonneg V.y
  generalize V.x * V.x = A at *
  generalize V.y * V.y = B at *
  generalize V.z * V.z = C at *
  generalize (n + 1) * (n + 1) = D at *
  omega
theorem pair_law {w q : Int → Int} {sg : Int} {C : Iv} (hK : termsI C sP (poleK w q sg) = some ()) (hP : Pole q) (hS : Sgn w) (hw1 : w 1 = 1 ∨ w 1 = -1) (hsg : sg = 1 ∨ sg = -1) (hC : ∀ c, In C c → Bd 26400000 (c - sg * 1099511627776) ∧ Bd 1099511627777 c)
    {tick x y z Z : Int} (ht : 0 ≤ tick ∧ tick ≤ 157766400000) (hx : Bd 34359738368 x) (hy : Bd 34359738368 y) (hZ : 7013000000000 ≤ Z ∧ Z ≤ 9100000000000) (hz : z = Z ∨ z = -Z)
    (hD : ∀ r w : Int, Z ≤ r ∧ r ≤ Z + 168347100 → 0 ≤ w ∧ w ≤ 48592008999 → ∃ c s, div z r false = (c, false) ∧ div w r false = (s, false) ∧ In C c ∧ In sP s) :
    ∃ A B : V3, earP ⟨0, 0, z⟩ tick false = (A, false) ∧ earP ⟨x, y, z⟩ tick false = (B, false) ∧ Bd 8796093022208 (A.x - B.x) ∧ Bd 8796093022208 (A.y - B.y) ∧ Bd 8796093022208 (A.z - B.z) ∧ (norm A.x A.y A.z false).1 > 10995116277760 := by
  obtain ⟨r, X, Y, V, h, hr, a1, a2, a3⟩ := place_at hK hP hS hsg hC ht (x := 0) (y := 0) ⟨by decide, by decide⟩ ⟨by decide, by decide⟩ hZ hz hD
  obtain ⟨r', X', Y', V', h', hr', b1, b2, b3⟩ := place_at hK hP hS hsg hC ht hx hy hZ hz hD
  obtain ⟨d1, d2, d3⟩ := two_near hP hS hsg ht hZ hr hr' a1 a2 a3 b1 b2 b3
  obtain ⟨-, i, -⟩ := rho_is (r := r) ⟨by omega, by omega⟩
  have g0 := sumUp_bd hS ht i
  obtain ⟨g1, g2⟩ := sumG_bd hP ht i
  have ge := sumUp_ge hS hw1 ht (r := r) ⟨by omega, by omega⟩
  refine ⟨⟨X, Y, V⟩, ⟨X', Y', V'⟩, h, h', d1, d2, d3, norm_ge ?_ ?_ ?_ ?_⟩
  · clear a1 a3 b1 b2 b3 d1 d2 d3 g0 g2 ge
    unfold Bd at *; dsimp only; omega
  · clear a1 a2 b1 b2 b3 d1 d2 d3 g0 g1 ge
    unfold Bd at *; dsimp only; omega
  · clear a2 a3 b1 b2 b3 d1 d2 d3 g1 g2 ge
    unfold Bd at *; dsimp only
    rcases hsg with rfl | rfl <;> omega
  · clear a2 a3 b1 b2 b3 d1 d2 d3 g1 g2 g0
    unfold Bd at *; dsimp only
    rcases hsg with rfl | rfl <;> omega
theorem envLP_ok : EnvOk Try.prog (envLP earP norm) :=
  EnvOk.p (EnvOk.f (EnvOk.f ok_nil en_vNorm vnorm_con) en_Earth earth_con) (enter_of Try.func8 (by kernel_rfl) rfl) awake10_ok
theorem pole_law (p : V3) (t : Int) (w : World) : Calls Try.prog 5 #[.agg ⟨[.int .i64 p.x, .int .i64 p.y, .int .i64 p.z]⟩, .int .i64 t] w fun e w' => e = .returned (.bool true) ∧ Go.RowKit.Below w.heap.size w w' := by
  refine law_true envLP_ok ((lpole_raw earP norm p t).trans ?_) (RL.cons (vec_r p) (RL.cons (R_int _ _ _) (RL_nil.2 rfl)))
  have key : ∀ (b1 b2 : Bool) (Y : Option Bool), (b1 = false → b2 = false → Y = some true) → (bif b1 then some true else bif b2 then some true else Y) = some true := by
    intro b1 b2 Y h
    cases b1
    · cases b2
      · exact h rfl rfl
      · rfl
    · rfl
  refine key _ _ _ fun g1 g2 => ?_
  obtain ⟨g1, t2⟩ := or_no g1
  obtain ⟨g1, t1⟩ := or_no g1
  obtain ⟨g1, z3⟩ := or_no g1
  obtain ⟨z1, z2⟩ := or_no g1
  have z3 := and_no z3
  obtain ⟨g2, y2⟩ := or_no g2
  obtain ⟨g2, y1⟩ := or_no g2
  obtain ⟨x1, x2⟩ := or_no g2
  simp only [decide_eq_false_iff_not] at t1 t2 z1 z2 z3 x1 x2 y1 y2
  have ht : 0 ≤ t ∧ t ≤ 157766400000 := ⟨by omega, by omega⟩
  have hx : Bd 34359738368 p.x := ⟨by omega, by omega⟩
  have hy : Bd 34359738368 p.y := ⟨by omega, by omega⟩
  have main : ∃ A B : V3, earP ⟨0, 0, p.z⟩ t false = (A, false) ∧ earP ⟨p.x, p.y, p.z⟩ t false = (B, false) ∧ Bd 8796093022208 (A.x - B.x) ∧ Bd 8796093022208 (A.y - B.y) ∧ Bd 8796093022208 (A.z - B.z) ∧ (norm A.x A.y A.z false).1 > 10995116277760 := by
    rcases Int.le_total 0 p.z with h | h
    · have hZ : 7013000000000 ≤ p.z ∧ p.z ≤ 9100000000000 := ⟨by omega, by omega⟩
      exact pair_law north_ok poleN sgnN (.inl rfl) (.inl rfl) north_c ht hx hy hZ (.inl rfl) fun r w h1 h2 => dir_north hZ h1 h2
    · have hZ : 7013000000000 ≤ -p.z ∧ -p.z ≤ 9100000000000 := ⟨by omega, by omega⟩
      exact pair_law south_ok poleS sgnS (.inr rfl) (.inr rfl) south_c ht hx hy hZ (.inr (by omega)) fun r w h1 h2 => dir_south hZ (by omega) h1 h2
  obtain ⟨A, B, e1, e2, d1, d2, d3, hn⟩ := main
  have e2 : earP p t false = (B, false) := e2
  dsimp only
  rw [e1]
  dsimp only
  rw [e2]
  dsimp only
  rw [far_no d1, bf, far_no d2, bf, far_no d3, bf, Bool.not_false, bt, decide_eq_true hn]
  rfl
end Go.Proofs.Ytcagaaaibhifdaa.Fd

/- The field in the sky's axes, the program's and the reference's; the law. Conditions: none. -/
namespace Go.Proofs.Ytcagaaaibhifdaa.Fd
open Go Go.Proofs.Ytcagaaaibhifdaa.Ae Go.Proofs.Ytcagaaaibhifdaa.Fx Go.Proofs.Ytcagaaaibhifdaa.Lx Go.Proofs.Ytcagaaaibhifdaa.Tx Go.Proofs.Ytcagaaaibhifdaa.Te Go.Proofs.Ytcagaaaibhifdaa.Rx Go.Proofs.Ytcagaaaibhifdaa.Row Go.Proofs.Ytcagaaaibhifdaa.Ve

section
variable (ad su mu mo : Op2) (pa : Op3) (da tu si co : Op1) (ea sk rsk : V3 → Int → Bool → V3 × Bool)
def turnE (t : Int) (d : Int × Bool) : Int × Bool :=
  let p := pa 6908435304716 (t.tmod 86400000) 86400000 d.2
  let a := ad 5399947124839 p.1 p.2
  let m := mu 18914669620 d.1 a.2
  let b := ad a.1 m.1 m.2
  mo b.1 6908435304716 b.2
theorem turn_raw (t : Int) (bad : Bool) : acall Try.prog [(21, m2 25 ad), (22, m2 25 mu), (65, m2 25 mo), (19, m3 25 pa), (16, m1 25 da)] 100 39 [.ptr 0 0, I t] [.cells [.bool bad] 25] (flowK 25) =
    some (I (turnE ad mu mo pa t (da t bad)).1, (turnE ad mu mo pa t (da t bad)).2) := by kernel_rfl
theorem rturn_raw (t : Int) (bad : Bool) : acall Try.prog [(29, m2 27 ad), (30, m2 27 mu), (67, m2 27 mo), (26, m3 27 pa), (23, m1 27 da)] 100 42 [.ptr 0 0, I t] [.cells [.bool bad] 27] (flowK 27) =
    bif (da t bad).2 then some (I 0, (da t bad).2) else some (I (turnE ad mu mo pa t (da t bad)).1, (turnE ad mu mo pa t (da t bad)).2) := by kernel_rfl
def skyE {β : Type} (k : Int → Int → Int → Bool → β) (x y z t : Int) (bad : Bool) : β :=
  let q := tu t bad
  let c := co q.1 q.2
  let s := si q.1 c.2
  let x1 := mu x c.1 s.2
  let x2 := mu y s.1 x1.2
  let xx := ad x1.1 x2.1 x2.2
  let y1 := mu y c.1 xx.2
  let y2 := mu x s.1 y1.2
  let yy := su y1.1 y2.1 y2.2
  let b := ea ⟨xx.1, yy.1, z⟩ t yy.2
  let u1 := mu b.1.x c.1 b.2
  let u2 := mu b.1.y s.1 u1.2
  let u := su u1.1 u2.1 u2.2
  let v1 := mu b.1.y c.1 u.2
  let v2 := mu b.1.x s.1 v1.2
  let v := ad v1.1 v2.1 v2.2
  k u.1 v.1 b.1.z v.2
def envS : Env := [(21, m2 25 ad), (34, m2 25 su), (22, m2 25 mu), (41, m1 25 si), (40, m1 25 co), (39, m1 25 tu), (11, .flow 25 (vtF ea))]
theorem sky_raw (x y z t : Int) (bad : Bool) : acall Try.prog (envS ad su mu tu si co ea) 100 14 [.ptr 0 0, V3.av ⟨x, y, z⟩, I t] [.cells [.bool bad] 25] (flowK 25) =
    skyE ad su mu tu si co ea endE x y z t bad := by kernel_rfl
def renvS : Env := [(29, m2 27 ad), (37, m2 27 su), (30, m2 27 mu), (44, m1 27 si), (43, m1 27 co), (42, m1 27 tu), (12, .flow 27 (vtF ea))]
theorem rsky_raw (x y z t : Int) (bad : Bool) : acall Try.prog (renvS ad su mu tu si co ea) 100 15 [.ptr 0 0, V3.av ⟨x, y, z⟩, I t] [.cells [.bool bad] 27] (flowK 27) =
    skyE ad su mu tu si co ea endE x y z t bad := by kernel_rfl
theorem sky_v (x y z t : Int) (bad : Bool) : skyE ad su mu tu si co ea endE x y z t bad = someV (skyE ad su mu tu si co ea endV x y z t bad) := endE_v _ _ _ _
def envL10s : Env := [(8, .pure anyArgs yesF), (15, .flow 27 (vtF rsk)), (14, .flow 25 (vtF sk))]
theorem lsky_raw (p : V3) (t : Int) (b : Bool) : acall Try.prog (envL10s sk rsk) 100 6 [p.av, I t, .bool b] [] ansK =
    bif vEq (sk p t b).1 (rsk p t b).1 then some (an true ((sk p t b).2 == (rsk p t b).2)) else some false := by kernel_rfl
end
def turnP (t : Int) (bad : Bool) : Int × Bool := turnE add mul mod Fx.part t (daysP t bad)
theorem mod_badT (a b : Int) : mod a b true = (0, true) := rfl
theorem turnE_bad (t d : Int) : turnE add mul mod Fx.part t (d, true) = (0, true) := rfl
theorem turn_con : Meth 39 (int1 turnP) := by
  refine flow_of (EnvOk.f (EnvOk.f (EnvOk.f (EnvOk.f (EnvOk.f ok_nil (enter_of Try.func16 (by kernel_rfl) rfl) days_con) en_fPart part_con) en_fMod mod_con) Fx.en_mul mul_con) en_fAdd add_con) 100 _ _ (fun _ => true) _ ?_
  intro args g _ h bad
  obtain ⟨a, rfl, hg⟩ := int1_some h
  exact (turn_raw add mul mod Fx.part daysP a bad).trans (hg bad).symm
theorem rturn_con : RMeth 42 (int1 turnP) := by
  refine flow_of (EnvOk.f (EnvOk.f (EnvOk.f (EnvOk.f (EnvOk.f ok_nil (enter_of Try.func23 (by kernel_rfl) rfl) rdays_con) en_rPart rpart_con) en_rMod rmod_con) en_rMul rmul_con) en_rAdd radd_con) 100 _ _ (fun _ => true) _ ?_
  intro args g _ h bad
  obtain ⟨a, rfl, hg⟩ := int1_some h
  refine (rturn_raw add mul mod Fx.part daysP a bad).trans (Eq.trans (b := some (I (turnP a bad).1, (turnP a bad).2)) ?_ (hg bad).symm)
  unfold turnP
  generalize daysP a bad = d
  obtain ⟨d, b⟩ := d
  cases b with
  | true => rw [turnE_bad]; rfl
  | false => rw [bf]
def skyP (p : V3) (t : Int) (bad : Bool) : V3 × Bool := skyE add sub mul turnP sinP cosP earP endV p.x p.y p.z t bad
theorem sky_con : Meth 14 (vtF skyP) := by
  refine flow_of (EnvOk.f (EnvOk.f (EnvOk.f (EnvOk.f (EnvOk.f (EnvOk.f (EnvOk.f ok_nil en_Earth earth_con) (enter_of Try.func39 (by kernel_rfl) rfl) turn_con) (enter_of Try.func40 (by kernel_rfl) rfl) cos_con) (enter_of Try.func41 (by kernel_rfl) rfl) sin_con) Fx.en_mul mul_con) Fx.en_sub sub_con) en_fAdd add_con) 100 _ _ (fun _ => true) _ ?_
  intro args g _ h bad
  obtain ⟨p, t, rfl, hg⟩ := vtF_some h
  exact (sky_raw add sub mul turnP sinP cosP earP p.x p.y p.z t bad).trans ((sky_v add sub mul turnP sinP cosP earP p.x p.y p.z t bad).trans (congrArg some (hg bad).symm))
theorem rsky_con : RMeth 15 (vtF skyP) := by
  refine flow_of (EnvOk.f (EnvOk.f (EnvOk.f (EnvOk.f (EnvOk.f (EnvOk.f (EnvOk.f ok_nil en_rEarth rearth_con) (enter_of Try.func42 (by kernel_rfl) rfl) rturn_con) (enter_of Try.func43 (by kernel_rfl) rfl) rcos_con) (enter_of Try.func44 (by kernel_rfl) rfl) rsin_con) en_rMul rmul_con) en_rSub rsub_con) en_rAdd radd_con) 100 _ _ (fun _ => true) _ ?_
  intro args g _ h bad
  obtain ⟨p, t, rfl, hg⟩ := vtF_some h
  exact (rsky_raw add sub mul turnP sinP cosP earP p.x p.y p.z t bad).trans ((sky_v add sub mul turnP sinP cosP earP p.x p.y p.z t bad).trans (congrArg some (hg bad).symm))
theorem envL10s_ok : EnvOk Try.prog (envL10s skyP skyP) :=
  EnvOk.p (EnvOk.f (EnvOk.f ok_nil (enter_of Try.func14 (by kernel_rfl) rfl) sky_con) (enter_of Try.func15 (by kernel_rfl) rfl) rsky_con) (enter_of Try.func8 (by kernel_rfl) rfl) awake10_ok
theorem sky_law (p : V3) (t : Int) (b : Bool) (w : World) : Calls Try.prog 6 #[.agg ⟨[.int .i64 p.x, .int .i64 p.y, .int .i64 p.z]⟩, .int .i64 t, .bool b] w fun e w' => e = .returned (.bool true) ∧ Go.RowKit.Below w.heap.size w w' :=
  law_true envL10s_ok ((lsky_raw skyP skyP p t b).trans (by rw [vEq_refl]; simp [an])) (RL.cons (vec_r p) (RL.cons (R_int _ _ _) (RL.cons (R_bool _ _) (RL_nil.2 rfl))))
#print axioms sky_law
end Go.Proofs.Ytcagaaaibhifdaa.Fd

/- Polynomials of two numbers, with numbers for coefficients: what they come to, and how great that may be, told by their coefficients. Conditions: none. -/
namespace Go.Proofs.Ytcagaaaibhifdaa.Np
open Go

/-- Of one number. -/
def ev : List Int → Int → Int
  | [], _ => 0
  | c :: p, y => c + y * ev p y
def padd : List Int → List Int → List Int
  | [], q => q
  | p, [] => p
  | c :: p, d :: q => (c + d) :: padd p q
def pscl (k : Int) : List Int → List Int
  | [] => []
  | c :: p => (k * c) :: pscl k p
def pmul : List Int → List Int → List Int
  | [], _ => []
  | c :: p, q => padd (pscl c q) (0 :: pmul p q)
theorem ev_add (y : Int) : ∀ p q, ev (padd p q) y = ev p y + ev q y
  | [], q => by simp [padd, ev]
  | c :: p, [] => by simp [padd, ev]
  | c :: p, d :: q => by simp only [padd, ev, ev_add y p q, Int.mul_add]; omega
theorem ev_scl (y k : Int) : ∀ p, ev (pscl k p) y = k * ev p y
  | [] => by simp [pscl, ev]
  | c :: p => by simp only [pscl, ev, ev_scl y k p, Int.mul_add, Int.mul_left_comm y k]
theorem ev_mul (y : Int) : ∀ p q, ev (pmul p q) y = ev p y * ev q y
  | [], q => by simp [pmul, ev]
  | c :: p, q => by simp only [pmul, ev_add, ev_scl, ev, ev_mul y p q, Int.add_mul, Int.mul_assoc, Int.zero_add]
def bnd : List Int → Int → Int
  | [], _ => 0
  | c :: p, Y => (c.natAbs : Int) + Y * bnd p Y
theorem bnd_nonneg {Y : Int} (hY : 0 ≤ Y) : ∀ p, 0 ≤ bnd p Y
  | [] => by simp [bnd]
  | c :: p => by
    have := Int.mul_nonneg hY (bnd_nonneg hY p)
    simp only [bnd]; omega
theorem mul_le' {a b A B : Int} (h1 : -A ≤ a ∧ a ≤ A) (h2 : -B ≤ b ∧ b ≤ B) : -(A * B) ≤ a * b ∧ a * b ≤ A * B := by
  have key : (a * b).natAbs ≤ (A * B).natAbs := by
    rw [Int.natAbs_mul, Int.natAbs_mul]
    exact Nat.mul_le_mul (by omega) (by omega)
  have : 0 ≤ A * B := Int.mul_nonneg (by omega) (by omega)
  omega
theorem ev_bnd {y Y : Int} (hy : -Y ≤ y ∧ y ≤ Y) : ∀ p, -(bnd p Y) ≤ ev p y ∧ ev p y ≤ bnd p Y
  | [] => by simp [ev, bnd]
  | c :: p => by
    have := mul_le' hy (ev_bnd hy p)
    simp only [ev, bnd]; omega

/-! ### Of two -/
def ev2 : List (List Int) → Int → Int → Int
  | [], _, _ => 0
  | c :: p, x, y => ev c y + x * ev2 p x y
def qadd : List (List Int) → List (List Int) → List (List Int)
  | [], q => q
  | p, [] => p
  | c :: p, d :: q => padd c d :: qadd p q
def qscl (k : List Int) : List (List Int) → List (List Int)
  | [] => []
  | c :: p => pmul k c :: qscl k p
def qmul : List (List Int) → List (List Int) → List (List Int)
  | [], _ => []
  | c :: p, q => qadd (qscl c q) ([] :: qmul p q)
theorem ev2_add (x y : Int) : ∀ p q, ev2 (qadd p q) x y = ev2 p x y + ev2 q x y
  | [], q => by simp [qadd, ev2]
  | c :: p, [] => by simp [qadd, ev2]
  | c :: p, d :: q => by simp only [qadd, ev2, ev_add, ev2_add x y p q, Int.mul_add]; omega
theorem ev2_scl (x y : Int) (k : List Int) : ∀ p, ev2 (qscl k p) x y = ev k y * ev2 p x y
  | [] => by simp [qscl, ev2]
  | c :: p => by simp only [qscl, ev2, ev_mul, ev2_scl x y k p, Int.mul_add, Int.mul_left_comm x]
theorem ev2_mul (x y : Int) : ∀ p q, ev2 (qmul p q) x y = ev2 p x y * ev2 q x y
  | [], q => by simp [qmul, ev2]
  | c :: p, q => by simp only [qmul, ev2_add, ev2_scl, ev2, ev, ev2_mul x y p q, Int.add_mul, Int.mul_assoc, Int.zero_add]
def bnd2 : List (List Int) → Int → Int → Int
  | [], _, _ => 0
  | c :: p, X, Y => bnd c Y + X * bnd2 p X Y
theorem ev2_bnd {x y X Y : Int} (hx : -X ≤ x ∧ x ≤ X) (hy : -Y ≤ y ∧ y ≤ Y) : ∀ p, -(bnd2 p X Y) ≤ ev2 p x y ∧ ev2 p x y ≤ bnd2 p X Y
  | [] => by simp [ev2, bnd2]
  | c :: p => by
    have h1 := mul_le' hx (ev2_bnd hx hy p)
    have h2 := ev_bnd hy c
    simp only [ev2, bnd2]; omega

/-! ### Terms -/
inductive E where
  | x | y
  | c (n : Int)
  | add (a b : E)
  | sub (a b : E)
  | mul (a b : E)
def E.at (x y : Int) : E → Int
  | .x => x
  | .y => y
  | .c n => n
  | .add a b => a.at x y + b.at x y
  | .sub a b => a.at x y - b.at x y
  | .mul a b => a.at x y * b.at x y
def E.nf : E → List (List Int)
  | .x => [[], [1]]
  | .y => [[0, 1]]
  | .c n => [[n]]
  | .add a b => qadd a.nf b.nf
  | .sub a b => qadd a.nf (qscl [-1] b.nf)
  | .mul a b => qmul a.nf b.nf
theorem E.nf_at (x y : Int) : ∀ e : E, ev2 e.nf x y = e.at x y
  | .x => by simp [E.nf, E.at, ev2, ev]
  | .y => by simp [E.nf, E.at, ev2, ev]
  | .c n => by simp [E.nf, E.at, ev2, ev]
  | .add a b => by simp only [E.nf, E.at, ev2_add, E.nf_at x y a, E.nf_at x y b]
  | .sub a b => by
    have h : ev [-1] y = -1 := by simp [ev]
    simp only [E.nf, E.at, ev2_add, ev2_scl, E.nf_at x y a, E.nf_at x y b, h]; omega
  | .mul a b => by simp only [E.nf, E.at, ev2_mul, E.nf_at x y a, E.nf_at x y b]
/-- A term is small, told by its coefficients. -/
theorem E.small (e : E) {x y X Y K : Int} (hx : -X ≤ x ∧ x ≤ X) (hy : -Y ≤ y ∧ y ≤ Y) (h : decide (bnd2 e.nf X Y ≤ K) = true) : -K ≤ e.at x y ∧ e.at x y ≤ K := by
  have := ev2_bnd hx hy e.nf
  rw [E.nf_at] at this
  have := of_decide_eq_true h
  omega
#print axioms E.small
end Go.Proofs.Ytcagaaaibhifdaa.Np

/- The squares of the two series are 1 together, but for few units. Conditions: angles of 0 to half of pi. The sine and the cosine of an angle below half of pi: there, and their squares 1 together. Conditions: as each says. -/
namespace Go.Proofs.Ytcagaaaibhifdaa.Ns
open Go Go.Proofs.Ytcagaaaibhifdaa.Ae Go.Proofs.Ytcagaaaibhifdaa.Fx Go.Proofs.Ytcagaaaibhifdaa.Tx Go.Proofs.Ytcagaaaibhifdaa.Nx Go.Proofs.Ytcagaaaibhifdaa.Np

/-- hor, as a term. -/
def horE (first : Int) : Nat → E × Int → E × Int
  | 0, s => s
  | k + 1, s => horE first k (.sub (.c (1099511627776 * (s.2 * (dv first k * 1208925819614629174706176)))) (.mul (.mul .x .x) s.1), s.2 * (dv first k * 1208925819614629174706176))
theorem horE_at (t y first : Int) : ∀ (k : Nat) (s : E × Int), hor t first k (s.1.at t y, s.2) = ((horE first k s).1.at t y, (horE first k s).2)
  | 0, s => rfl
  | k + 1, s => by
    unfold hor horE
    rw [← horE_at t y first k]
    rfl
abbrev cE : E × Int := horE 0 10 (.c 1099511627776, 1)
abbrev sE : E × Int := horE 1 10 (.c 1099511627776, 1)
def oneE : E := .sub (.add (.mul (.c (cE.2 * cE.2)) (.mul (.mul .x sE.1) (.mul .x sE.1))) (.mul (.c (1099511627776 * sE.2 * (1099511627776 * sE.2))) (.mul cE.1 cE.1))) (.c (1099511627776 * 1099511627776 * (cE.2 * cE.2 * (1099511627776 * sE.2 * (1099511627776 * sE.2)))))
theorem oneE_small {t : Int} (ht : 0 ≤ t ∧ t ≤ 1727108826179) : -(1000000000000 * (cE.2 * cE.2 * (1099511627776 * sE.2 * (1099511627776 * sE.2)))) ≤ oneE.at t 0 ∧ oneE.at t 0 ≤ 1000000000000 * (cE.2 * cE.2 * (1099511627776 * sE.2 * (1099511627776 * sE.2))) :=
  E.small oneE (X := 1727108826179) (Y := 0) ⟨by omega, ht.2⟩ ⟨by decide, by decide⟩ (by kernel_rfl)
/-- A square, by what stands near. -/
theorem sq_near {s b X S : Int} (hb : 0 < b) (h : -(32 * b) ≤ 16 * (s * b - X) ∧ 16 * (s * b - X) ≤ 32 * b) (hs : -S ≤ s ∧ s ≤ S) :
    -((4 * S + 4) * (b * b)) ≤ s * s * (b * b) - X * X ∧ s * s * (b * b) - X * X ≤ (4 * S + 4) * (b * b) := by
  generalize he : s * b - X = e at h
  have hX : X = s * b - e := by omega
  have hsb := mul_le' hs (show -b ≤ b ∧ b ≤ b by omega)
  have k := mul_le' (a := e) (b := 2 * (s * b) - e) (A := 2 * b) (B := 2 * (S * b) + 2 * b) ⟨by omega, by omega⟩ ⟨by omega, by omega⟩
  have e1 : s * s * (b * b) - X * X = e * (2 * (s * b) - e) := by
    rw [hX]
    have m1 : s * s * (b * b) = (s * b) * (s * b) := by rw [Int.mul_assoc s s, Int.mul_left_comm s b b, ← Int.mul_assoc s b]
    rw [m1]
    generalize s * b = y
    rw [Int.mul_sub, Int.sub_mul, Int.sub_mul, Int.mul_sub]
    have m2 : e * (2 * y) = 2 * (y * e) := by rw [Int.mul_left_comm, Int.mul_comm e y]
    have m3 : e * y = y * e := Int.mul_comm ..
    rw [m2, m3]; omega
  have e2 : 2 * b * (2 * (S * b) + 2 * b) = (4 * S + 4) * (b * b) := by
    have m1 : 2 * b * (2 * (S * b)) = 4 * S * (b * b) := by
      rw [Int.mul_assoc 2 b, Int.mul_left_comm b 2, Int.mul_left_comm b S b, ← Int.mul_assoc 2 2, ← Int.mul_assoc (2 * 2) S]; rfl
    have m2 : 2 * b * (2 * b) = 4 * (b * b) := by rw [Int.mul_assoc 2 b, Int.mul_left_comm b 2, ← Int.mul_assoc 2 2]; rfl
    rw [Int.mul_add, m1, m2, Int.add_mul]
  rw [e1, ← e2]
  exact k
theorem one_abs {s c X Y b0 b1 : Int} (h0 : 0 < b0) (h1 : 0 < b1) (hs : -(32 * b1) ≤ 16 * (s * b1 - X) ∧ 16 * (s * b1 - X) ≤ 32 * b1) (hc : -(32 * b0) ≤ 16 * (c * b0 - Y) ∧ 16 * (c * b0 - Y) ≤ 32 * b0)
    (sB : -1737000000000 ≤ s ∧ s ≤ 1737000000000) (cB : -1099511627776 ≤ c ∧ c ≤ 1099511627776)
    (hP : -(1000000000000 * (b0 * b0 * (b1 * b1))) ≤ b0 * b0 * (X * X) + b1 * b1 * (Y * Y) - 1099511627776 * 1099511627776 * (b0 * b0 * (b1 * b1)) ∧ b0 * b0 * (X * X) + b1 * b1 * (Y * Y) - 1099511627776 * 1099511627776 * (b0 * b0 * (b1 * b1)) ≤ 1000000000000 * (b0 * b0 * (b1 * b1))) :
    -13194139533312 ≤ s * s + c * c - 1208925819614629174706176 ∧ s * s + c * c - 1208925819614629174706176 ≤ 13194139533312 := by
  have ds := sq_near h1 hs sB
  have dc := sq_near h0 hc cB
  have p0 : 0 < b0 * b0 := Int.mul_pos h0 h0
  have p1 : 0 < b1 * b1 := Int.mul_pos h1 h1
  generalize b0 * b0 = a0 at *
  generalize b1 * b1 = a1 at *
  have pM : 0 < a0 * a1 := Int.mul_pos p0 p1
  have u1 := Int.mul_le_mul_of_nonneg_left ds.1 (show 0 ≤ a0 by omega)
  have u2 := Int.mul_le_mul_of_nonneg_left ds.2 (show 0 ≤ a0 by omega)
  have v1 := Int.mul_le_mul_of_nonneg_left dc.1 (show 0 ≤ a1 by omega)
  have v2 := Int.mul_le_mul_of_nonneg_left dc.2 (show 0 ≤ a1 by omega)
  rw [Int.mul_sub] at u1 u2 v1 v2
  have r1 : a0 * (s * s * a1) = s * s * (a0 * a1) := Int.mul_left_comm ..
  have r2 : a1 * (c * c * a0) = c * c * (a0 * a1) := by rw [Int.mul_left_comm, Int.mul_comm a1 a0]
  have r3 : a0 * ((4 * 1737000000000 + 4) * a1) = (4 * 1737000000000 + 4) * (a0 * a1) := Int.mul_left_comm ..
  have r4 : a1 * ((4 * 1099511627776 + 4) * a0) = (4 * 1099511627776 + 4) * (a0 * a1) := by rw [Int.mul_left_comm, Int.mul_comm a1 a0]
  rw [Int.mul_neg, r1, r3] at u1
  rw [r1, r3] at u2
  rw [Int.mul_neg, r2, r4] at v1
  rw [r2, r4] at v2
  have tot : (s * s + c * c - 1208925819614629174706176) * (a0 * a1) = s * s * (a0 * a1) + c * c * (a0 * a1) - 1208925819614629174706176 * (a0 * a1) := by rw [Int.sub_mul, Int.add_mul]
  generalize s * s + c * c - 1208925819614629174706176 = D at *
  generalize a0 * a1 = M at *
  generalize s * s * M = sM at *
  generalize c * c * M = cM at *
  generalize a0 * (X * X) = XM at *
  generalize a1 * (Y * Y) = YM at *
  constructor
  · refine Int.le_of_mul_le_mul_right (a := M) ?_ pM
    rw [tot]; omega
  · refine Int.le_of_mul_le_mul_right (a := M) ?_ pM
    rw [tot]; omega
end Go.Proofs.Ytcagaaaibhifdaa.Ns

namespace Go.Proofs.Ytcagaaaibhifdaa.Ns
open Go Go.Proofs.Ytcagaaaibhifdaa.Ae Go.Proofs.Ytcagaaaibhifdaa.Fx Go.Proofs.Ytcagaaaibhifdaa.Tx Go.Proofs.Ytcagaaaibhifdaa.Nx Go.Proofs.Ytcagaaaibhifdaa.Np

theorem cE_pos : 0 < cE.2 := of_decide_eq_true (by kernel_rfl)
theorem sE_pos : 0 < sE.2 := of_decide_eq_true (by kernel_rfl)
theorem err0 : err 0 10 0 = 31 := by kernel_rfl
theorem err1 : err 1 10 0 = 15 := by kernel_rfl
theorem sq_arg {t : Int} (ht : 0 ≤ t ∧ t ≤ 1727108826179) : ∃ u, mul t t false = (u, false) ∧ (2 * (u * 1099511627776 - t * t) ≤ 1099511627776 ∧ -1099511627776 ≤ 2 * (u * 1099511627776 - t * t)) ∧ (0 ≤ u ∧ u ≤ 2713000000000) := by
  obtain ⟨u, hu, u1, u2⟩ := mul_is (a := t) (b := t) (A := 1727108826179) (B := 1727108826179) ⟨by omega, ht.2⟩ ⟨by omega, ht.2⟩ (by decide) (by decide) (by decide)
  have tt : 0 ≤ t * t ∧ t * t ≤ 2982904897465403235740041 := ⟨Int.mul_nonneg ht.1 ht.1, Int.mul_le_mul ht.2 ht.2 ht.1 (by decide)⟩
  exact ⟨u, hu, ⟨u1, u2⟩, by omega⟩
theorem cos_ser {t : Int} (ht : 0 ≤ t ∧ t ≤ 1727108826179) : ∃ c, serP t 0 false = (c, false) ∧ (-1099511627776 ≤ c ∧ c ≤ 1099511627776) ∧ (-(32 * cE.2) ≤ 16 * (c * cE.2 - cE.1.at t 0) ∧ 16 * (c * cE.2 - cE.1.at t 0) ≤ 32 * cE.2) := by
  obtain ⟨u, hu, u1, u2⟩ := sq_arg ht
  obtain ⟨v, hv, -, -, vb, -, ve⟩ := serL_ok (first := 0) (.inl rfl) ht u1 u2 10 1099511627776 1099511627776 1 0 (by decide) (by decide) (by decide) ⟨by decide, by decide⟩ ⟨by decide, by decide⟩
  have hh := horE_at t 0 0 10 (.c 1099511627776, 1)
  change hor t 0 10 (1099511627776, 1) = (cE.1.at t 0, cE.2) at hh
  rw [hh, err0] at ve
  dsimp only at ve
  have hp := cE_pos
  refine ⟨v, ?_, vb, by omega⟩
  unfold serP
  simp only [hu, hv]
  rfl
theorem sin_ser {t : Int} (ht : 0 ≤ t ∧ t ≤ 1727108826179) : ∃ s, serP t 1 false = (s, false) ∧ (0 ≤ s ∧ s ≤ 1737000000000) ∧ (-(32 * (1099511627776 * sE.2)) ≤ 16 * (s * (1099511627776 * sE.2) - t * sE.1.at t 0) ∧ 16 * (s * (1099511627776 * sE.2) - t * sE.1.at t 0) ≤ 32 * (1099511627776 * sE.2)) := by
  obtain ⟨u, hu, u1, u2⟩ := sq_arg ht
  obtain ⟨v, hv, -, -, vb, v0, ve⟩ := serL_ok (first := 1) (.inr rfl) ht u1 u2 10 1099511627776 1099511627776 1 0 (by decide) (by decide) (by decide) ⟨by decide, by decide⟩ ⟨by decide, by decide⟩
  have hh := horE_at t 0 1 10 (.c 1099511627776, 1)
  change hor t 1 10 (1099511627776, 1) = (sE.1.at t 0, sE.2) at hh
  rw [hh, err1] at ve
  dsimp only at ve
  have hp := sE_pos
  have v0 := v0 rfl
  obtain ⟨s, hs, s1, s2⟩ := mul_is (a := t) (b := v) (A := 1727108826179) (B := 1099511627776) ⟨by omega, ht.2⟩ vb (by decide) (by decide) (by decide)
  have tv0 := Int.mul_nonneg ht.1 v0
  have tv := mul_le' (a := t) (b := v) (A := 1727108826179) (B := 1099511627776) ⟨by omega, ht.2⟩ vb
  refine ⟨s, ?_, by omega, ?_⟩
  · unfold serP
    simp only [hu, hv]
    rw [show ((1 : Int) == 1) = true from rfl, bt]
    exact hs
  · generalize hb : sE.2 = b at *
    generalize sE.1.at t 0 = A at *
    have k1 := mul_le' (a := t) (b := 16 * (v * b - A)) (A := 1727108826179) (B := 15 * b) ⟨by omega, ht.2⟩ ve
    generalize he : 2 * (s * 1099511627776 - t * v) = e at s1 s2
    have k2 := mul_le' (a := e) (b := b) (A := 1099511627776) (B := b) ⟨by omega, by omega⟩ ⟨by omega, by omega⟩
    have e1 : t * (16 * (v * b - A)) = 16 * (t * v * b) - 16 * (t * A) := by rw [Int.mul_left_comm, Int.mul_sub, Int.mul_sub, ← Int.mul_assoc t v b]
    have e2 : e * b = 2 * (s * (1099511627776 * b)) - 2 * (t * v * b) := by rw [← he, Int.mul_assoc, Int.sub_mul, Int.mul_sub, Int.mul_assoc s]
    rw [e1] at k1
    rw [e2] at k2
    generalize t * v * b = T at *
    generalize t * A = U at *
    generalize s * (1099511627776 * b) = W at *
    omega
/-- The squares are 1 together. -/
theorem pair_one {t : Int} (ht : 0 ≤ t ∧ t ≤ 1727108826179) : ∃ s c, serP t 1 false = (s, false) ∧ serP t 0 false = (c, false) ∧ (0 ≤ s ∧ s ≤ 1737000000000) ∧ (-1099511627776 ≤ c ∧ c ≤ 1099511627776) ∧
    (-13194139533312 ≤ s * s + c * c - 1208925819614629174706176 ∧ s * s + c * c - 1208925819614629174706176 ≤ 13194139533312) := by
  obtain ⟨s, hs, sb, se⟩ := sin_ser ht
  obtain ⟨c, hc, cb, ce⟩ := cos_ser ht
  refine ⟨s, c, hs, hc, sb, cb, ?_⟩
  have hP := oneE_small ht
  have e : oneE.at t 0 = cE.2 * cE.2 * (t * sE.1.at t 0 * (t * sE.1.at t 0)) + 1099511627776 * sE.2 * (1099511627776 * sE.2) * (cE.1.at t 0 * cE.1.at t 0) - 1099511627776 * 1099511627776 * (cE.2 * cE.2 * (1099511627776 * sE.2 * (1099511627776 * sE.2))) := by kernel_rfl
  rw [e] at hP
  have p0 := cE_pos
  have p1 := sE_pos
  exact one_abs p0 (Int.mul_pos (by decide) p1) se ce ⟨by omega, sb.2⟩ cb hP
#print axioms pair_one
end Go.Proofs.Ytcagaaaibhifdaa.Ns

/- The sine and the cosine of any angle, by the series' values and the quarter. Conditions: as each says. -/
namespace Go.Proofs.Ytcagaaaibhifdaa.Ns
open Go Go.Proofs.Ytcagaaaibhifdaa.Ae Go.Proofs.Ytcagaaaibhifdaa.Fx Go.Proofs.Ytcagaaaibhifdaa.Tx Go.Proofs.Ytcagaaaibhifdaa.Nx Go.Proofs.Ytcagaaaibhifdaa.Np

def Sv (t : Int) : Int := (serP t 1 false).1
def Cv (t : Int) : Int := (serP t 0 false).1
def sv (a : Int) : Int := (sinP a false).1
def cv (a : Int) : Int := (cosP a false).1

theorem ser_is {t : Int} (ht : 0 ≤ t ∧ t ≤ 1727108826179) : serP t 1 false = (Sv t, false) ∧ serP t 0 false = (Cv t, false) ∧ (0 ≤ Sv t ∧ Sv t ≤ 1099511627789) ∧ (-1099511627776 ≤ Cv t ∧ Cv t ≤ 1099511627776) ∧
    (-13194139533312 ≤ Sv t * Sv t + Cv t * Cv t - 1208925819614629174706176 ∧ Sv t * Sv t + Cv t * Cv t - 1208925819614629174706176 ≤ 13194139533312) ∧
    (-(32 * (1099511627776 * sE.2)) ≤ 16 * (Sv t * (1099511627776 * sE.2) - t * sE.1.at t 0) ∧ 16 * (Sv t * (1099511627776 * sE.2) - t * sE.1.at t 0) ≤ 32 * (1099511627776 * sE.2)) ∧
    (-(32 * cE.2) ≤ 16 * (Cv t * cE.2 - cE.1.at t 0) ∧ 16 * (Cv t * cE.2 - cE.1.at t 0) ≤ 32 * cE.2) := by
  obtain ⟨s, c, hs, hc, sb, cb, hP⟩ := pair_one ht
  obtain ⟨s', hs', -, se⟩ := sin_ser ht
  obtain ⟨c', hc', -, ce⟩ := cos_ser ht
  have es : Sv t = s := by unfold Sv; rw [hs]
  have es' : Sv t = s' := by unfold Sv; rw [hs']
  have ec : Cv t = c := by unfold Cv; rw [hc]
  have ec' : Cv t = c' := by unfold Cv; rw [hc']
  subst es ec
  rw [← es'] at se
  rw [← ec'] at ce
  refine ⟨hs, hc, ⟨sb.1, ?_⟩, cb, hP, se, ce⟩
  refine Int.not_lt.1 fun hn => ?_
  have h1 : (1099511627790 : Int) * 1099511627790 ≤ Sv t * Sv t := Int.mul_le_mul (by omega) (by omega) (by decide) (by omega)
  have h2 : 0 ≤ Cv t * Cv t := by
    have := Int.natAbs_mul_self (a := Cv t)
    omega
  omega

theorem mod_is {a m : Int} (ha : -4611686018427387904 ≤ a ∧ a ≤ 4611686018427387904) (hm : 0 < m) (hm' : m ≤ 4611686018427387904) : mod a m false = (a % m, false) := by
  unfold mod
  rw [if_neg (show ¬ m ≤ 0 by omega), lift2 (okn_of ha) (okn_of (by omega))]; rfl

/-- What a quarter does to the two. -/
def quad (k S C s c : Int) : Prop := (k = 0 ∧ s = S ∧ c = C) ∨ (k = 1 ∧ s = C ∧ c = -S) ∨ (k = 2 ∧ s = -S ∧ c = -C) ∨ (k = 3 ∧ s = -C ∧ c = S)
theorem turnP_is {a q : Int} (ha : -4611686018427387904 ≤ a ∧ a ≤ 4611686018427387904) {k t : Int} (e1 : (a % 6908435304716).tdiv 1727108826179 = k) (e2 : (a % 6908435304716).tmod 1727108826179 = t) :
    turnP a q false = bif decide ((wr .i64 (wr .i64 k + q)).tmod 4 > 1) then (wr .i64 (0 - (serP t (wr .i64 (1 - ((wr .i64 (wr .i64 k + q)).tmod 4).tmod 2)) false).1), (serP t (wr .i64 (1 - ((wr .i64 (wr .i64 k + q)).tmod 4).tmod 2)) false).2) else serP t (wr .i64 (1 - ((wr .i64 (wr .i64 k + q)).tmod 4).tmod 2)) false := by
  unfold turnP
  rw [mod_is ha (by decide) (by decide)]
  dsimp only
  rw [bf, e1, e2]
theorem turn_is {a : Int} (ha : -4611686018427387904 ≤ a ∧ a ≤ 4611686018427387904) :
    ∃ k t : Int, a % 6908435304716 = k * 1727108826179 + t ∧ 0 ≤ t ∧ t < 1727108826179 ∧ (sinP a false = (sv a, false) ∧ cosP a false = (cv a, false) ∧ quad k (Sv t) (Cv t) (sv a) (cv a)) := by
  obtain ⟨k, t, e1, e2, -, e4, hk, er, t0, t1⟩ := quarter (r := a % 6908435304716) (by omega) (by omega)
  refine ⟨k, t, er, t0, t1, ?_⟩
  obtain ⟨hs, hc, sb, cb, -⟩ := ser_is (t := t) ⟨t0, by omega⟩
  have key : ∀ q : Int, q = 0 ∨ q = 1 → turnP a q false = ((turnP a q false).1, false) ∧ ((turnP a q false).1 = if (k + q) % 4 = 0 then Sv t else if (k + q) % 4 = 1 then Cv t else if (k + q) % 4 = 2 then -Sv t else -Cv t) := by
    intro q hq
    have hkq : (k + q) % 4 = 0 ∨ (k + q) % 4 = 1 ∨ (k + q) % 4 = 2 ∨ (k + q) % 4 = 3 := by omega
    have em : (wr .i64 (wr .i64 k + q)).tmod 4 = (k + q) % 4 := by
      rw [e4, w64_in (by omega) (by omega)]
      exact Int.tmod_eq_emod_of_nonneg (by omega)
    rw [turnP_is ha e1 e2, em]
    have wn : ∀ x : Int, -1099511627789 ≤ x → x ≤ 1099511627789 → wr .i64 (0 - x) = -x := fun x h1 h2 => by rw [w64_in (by omega) (by omega)]; omega
    rcases hkq with h | h | h | h <;> rw [h]
    · rw [show wr .i64 (1 - (0 : Int).tmod 2) = 1 from by decide, show decide ((0 : Int) > 1) = false from by decide, bf, hs]; exact ⟨rfl, rfl⟩
    · rw [show wr .i64 (1 - (1 : Int).tmod 2) = 0 from by decide, show decide ((1 : Int) > 1) = false from by decide, bf, hc]; exact ⟨rfl, rfl⟩
    · rw [show wr .i64 (1 - (2 : Int).tmod 2) = 1 from by decide, show decide ((2 : Int) > 1) = true from by decide, bt, hs, wn _ (by omega) (by omega)]; exact ⟨rfl, rfl⟩
    · rw [show wr .i64 (1 - (3 : Int).tmod 2) = 0 from by decide, show decide ((3 : Int) > 1) = true from by decide, bt, hc, wn _ (by omega) (by omega)]; exact ⟨rfl, rfl⟩
  obtain ⟨k0, s0⟩ := key 0 (.inl rfl)
  obtain ⟨k1, s1⟩ := key 1 (.inr rfl)
  refine ⟨k0, k1, ?_⟩
  have es : sv a = (turnP a 0 false).1 := rfl
  have ec : cv a = (turnP a 1 false).1 := rfl
  rw [es, ec, s0, s1]
  unfold quad
  rcases hk with rfl | rfl | rfl | rfl
  · exact .inl ⟨rfl, rfl, rfl⟩
  · exact .inr (.inl ⟨rfl, rfl, rfl⟩)
  · exact .inr (.inr (.inl ⟨rfl, rfl, rfl⟩))
  · exact .inr (.inr (.inr ⟨rfl, rfl, rfl⟩))

/-- All that is said of a sine and a cosine apart from their angle. -/
theorem sc_is {a : Int} (ha : -4611686018427387904 ≤ a ∧ a ≤ 4611686018427387904) :
    sinP a false = (sv a, false) ∧ cosP a false = (cv a, false) ∧ (-1099511627789 ≤ sv a ∧ sv a ≤ 1099511627789) ∧ (-1099511627789 ≤ cv a ∧ cv a ≤ 1099511627789) ∧
    (-13194139533312 ≤ sv a * sv a + cv a * cv a - 1208925819614629174706176 ∧ sv a * sv a + cv a * cv a - 1208925819614629174706176 ≤ 13194139533312) := by
  obtain ⟨k, t, -, t0, t1, h1, h2, hq⟩ := turn_is ha
  obtain ⟨-, -, sb, cb, hP, -⟩ := ser_is (t := t) ⟨t0, by omega⟩
  refine ⟨h1, h2, ?_⟩
  generalize Sv t = S at *
  generalize Cv t = C at *
  rcases hq with ⟨-, h3, h4⟩ | ⟨-, h3, h4⟩ | ⟨-, h3, h4⟩ | ⟨-, h3, h4⟩ <;> rw [h3, h4] <;> refine ⟨by omega, by omega, ?_⟩ <;> grind
#print axioms sc_is
end Go.Proofs.Ytcagaaaibhifdaa.Ns

/- The field's exact sums over boxes: the powers of a direction, the numbers, the terms, and their sums. Conditions: as each says. -/
namespace Go.Proofs.Ytcagaaaibhifdaa.Fd
open Go Go.Proofs.Ytcagaaaibhifdaa.Ae Go.Proofs.Ytcagaaaibhifdaa.Fx Go.Proofs.Ytcagaaaibhifdaa.Lx Go.Proofs.Ytcagaaaibhifdaa.Tx Go.Proofs.Ytcagaaaibhifdaa.Te Go.Proofs.Ytcagaaaibhifdaa.Rx Go.Proofs.Ytcagaaaibhifdaa.Row Go.Proofs.Ytcagaaaibhifdaa.Ve Go.Proofs.Ytcagaaaibhifdaa.Nx Go.Proofs.Ytcagaaaibhifdaa.Ns

section
variable {α : Type}
/-! ### Exact products -/
def prI (A B : Iv) : Iv := (mn (mn (A.1 * B.1) (A.1 * B.2)) (mn (A.2 * B.1) (A.2 * B.2)), mx (mx (A.1 * B.1) (A.1 * B.2)) (mx (A.2 * B.1) (A.2 * B.2)))
theorem pr_in {A B : Iv} {a b : Int} (ha : In A a) (hb : In B b) : In (prI A B) (a * b) := mul_cor ha hb
theorem adI_in {A B : Iv} {a b : Int} (ha : In A a) (hb : In B b) : In (addI A B) (a + b) := by
  unfold In addI at *
  dsimp only
  omega
theorem suI_in {A B : Iv} {a b : Int} (ha : In A a) (hb : In B b) : In (subI A B) (a - b) := by
  unfold In subI at *
  dsimp only
  omega

/-! ### The powers of a direction -/
def csL (U V : Iv) : Nat → Iv → Iv → (List (Iv × Iv) → Option α) → Option α
  | 0, C, S, K => K [(C, S)]
  | n + 1, C, S, K => mulK C U fun a => mulK S V fun b => subK a b fun C' => mulK S U fun d => mulK C V fun e => addK d e fun S' => csL U V n C' S' fun l => K ((C, S) :: l)
/-- What a list of intervals says of the powers from m on. -/
def CsIn (u v : Int) : Nat → List (Iv × Iv) → Prop
  | _, [] => True
  | m, p :: l => (In p.1 (cs u v m).1.1 ∧ In p.2 (cs u v m).1.2) ∧ CsIn u v (m + 1) l
theorem csL_in {U V : Iv} {u v : Int} (hu : In U u) (hv : In V v) (bu : Bd 1099511627776 u) (bv : Bd 1099511627776 v) : ∀ (n m : Nat) (C S : Iv) (K : List (Iv × Iv) → Option α) (r : α), m + n ≤ 6 → csL U V n C S K = some r →
    In C (cs u v m).1.1 → In S (cs u v m).1.2 → ∃ l, l.length = n + 1 ∧ CsIn u v m l ∧ K l = some r
  | 0, m, C, S, K, r, _, h, hC, hS => ⟨[(C, S)], rfl, ⟨⟨hC, hS⟩, trivial⟩, h⟩
  | n + 1, m, C, S, K, r, hm, h, hC, hS => by
    unfold csL at h
    obtain ⟨a, A, ea, ia, h⟩ := mulK_in h hC hu
    obtain ⟨b, B, eb, ib, h⟩ := mulK_in h hS hv
    obtain ⟨c', C', ec, ic, h⟩ := subK_in h ia ib
    obtain ⟨d, D, ed, id, h⟩ := mulK_in h hS hu
    obtain ⟨e, E, ee, ie, h⟩ := mulK_in h hC hv
    obtain ⟨s', S', es, is, h⟩ := addK_in h id ie
    have hst := cs_step bu bv (m := m) (by omega)
    unfold next nextG at hst
    simp only [ea, eb, ec, ed, ee, es, Prod.mk.injEq, and_true] at hst
    obtain ⟨l, h1, h2, h3⟩ := csL_in hu hv bu bv n (m + 1) C' S' (fun l => K ((C, S) :: l)) r (by omega) h (by rw [← hst]; exact ic) (by rw [← hst]; exact is)
    exact ⟨(C, S) :: l, by simp [h1], ⟨⟨hC, hS⟩, h2⟩, h3⟩
def zcs : Iv × Iv := (ptI 0, ptI 0)
theorem CsIn.get {u v : Int} : ∀ (l : List (Iv × Iv)) (m j : Nat), CsIn u v m l → j < l.length → In (l.getD j zcs).1 (cs u v (m + j)).1.1 ∧ In (l.getD j zcs).2 (cs u v (m + j)).1.2
  | [], _, j, _, hj => by simp at hj
  | p :: l, m, 0, h, _ => h.1
  | p :: l, m, j + 1, h, hj => by
    have := CsIn.get l (m + 1) j h.2 (by simpa using hj)
    rw [show m + (j + 1) = m + 1 + j by omega]
    simpa using this

/-! ### Middles and widths -/
/-- A middle, a width, and the greatest size. -/
structure Cr where
  c : Int
  r : Nat
  m : Nat
def CrOk (e : Cr) (y : Int) : Prop := Bd (e.r : Int) (y - e.c) ∧ e.m = e.c.natAbs + e.r
def crK (A : Iv) (K : Cr → Option α) : Option α := fI ((A.1 + A.2) / 2) fun c => fN (A.2 - c).toNat fun r => fN (c.natAbs + r) fun m => K ⟨c, r, m⟩
theorem crK_in {A : Iv} {K : Cr → Option α} {r : α} (h : crK A K = some r) {y : Int} (hy : In A y) : ∃ e, CrOk e y ∧ K e = some r := by
  unfold crK at h
  rw [fI_eq, fN_eq, fN_eq] at h
  refine ⟨_, ⟨?_, rfl⟩, h⟩
  unfold In at hy
  dsimp only
  constructor <;> omega
/-- What a number is in parts of t. -/
def CrT (t : Int) (e : Cr) (x : Int) : Prop := Bd (t * (e.r : Int)) (x - t * e.c) ∧ e.m = e.c.natAbs + e.r
theorem natAbs_bd (c : Int) : Bd (c.natAbs : Int) c := ⟨by omega, by omega⟩
theorem crT_of {t x y : Int} {e : Cr} (ht : 0 ≤ t) (h : CrOk e y) (hx : x = t * y) : CrT t e x := by
  refine ⟨?_, h.2⟩
  have := (show Bd t t from ⟨by omega, by omega⟩).mul h.1
  have e1 : x - t * e.c = t * (y - e.c) := by rw [hx]; grind
  rw [e1]; exact this
theorem crT_mul {t x y : Int} {a b : Cr} (ht : 0 ≤ t) (hx : CrT t a x) (hy : CrOk b y) : Bd (t * ((a.c.natAbs * b.r + a.r * b.m : Nat) : Int)) (x * y - t * (a.c * b.c)) := by
  have bt : Bd t t := ⟨by omega, by omega⟩
  have b1 := bt.mul ((natAbs_bd a.c).mul hy.1)
  have b2 := hx.1.mul (show Bd ((b.m : Nat) : Int) y from by
    have h := hy.1
    have h2 := hy.2
    have h3 := natAbs_bd b.c
    unfold Bd at *
    omega)
  have e1 : x * y - t * (a.c * b.c) = t * (a.c * (y - b.c)) + (x - t * a.c) * y := by grind
  rw [e1]
  refine (b1.add b2).mono (Int.le_of_eq ?_)
  push_cast
  grind

/-! ### The three sums -/
def mac (a b : Cr) (c : Int) (t : Nat) (K : Int → Nat → Option α) : Option α := fI (c + a.c * b.c) fun c => fN (t + (a.c.natAbs * b.r + a.r * b.m)) fun t => K c t
def CrZ (T : Int) (c : Int) (t : Nat) (z : Int) : Prop := Bd (T * (t : Int)) (z - T * c)
theorem CrT.z {T x : Int} {e : Cr} (h : CrT T e x) : CrZ T e.c e.r x := h.1
theorem mac_in {a b : Cr} {c : Int} {t : Nat} {K : Int → Nat → Option α} {r : α} (h : mac a b c t K = some r) {T x y z : Int} (hT : 0 ≤ T) (hx : CrZ T a.c a.r x) (hy : CrOk b y) (hz : CrZ T c t z) :
    ∃ c' t', CrZ T c' t' (z + x * y) ∧ K c' t' = some r := by
  unfold mac at h
  rw [fI_eq, fN_eq] at h
  refine ⟨_, _, ?_, h⟩
  have h0 := crT_mul (a := ⟨a.c, a.r, a.c.natAbs + a.r⟩) hT ⟨hx, rfl⟩ hy
  have h1 := Bd.add hz h0
  unfold CrZ
  have e1 : z + x * y - T * (c + a.c * b.c) = z - T * c + (x * y - T * (a.c * b.c)) := by grind
  rw [e1]
  refine h1.mono (Int.le_of_eq ?_)
  push_cast
  grind
theorem mac_tot {a b : Cr} {c : Int} {t : Nat} {K : Int → Nat → Option α} {r : α} (h : mac a b c t K = some r) : ∃ c' t', K c' t' = some r := by
  unfold mac at h
  rw [fI_eq, fN_eq] at h
  exact ⟨_, _, h⟩
/-- The sums' middles and widths. -/
structure Ac where
  c1 : Int
  t1 : Nat
  c2 : Int
  t2 : Nat
  c3 : Int
  t3 : Nat
structure AcIn (T : Int) (A : Ac) (z1 z2 z3 : Int) : Prop where
  h1 : CrZ T A.c1 A.t1 z1
  h2 : CrZ T A.c2 A.t2 z2
  h3 : CrZ T A.c3 A.t3 z3
/-- The sums over the degrees, of one order: with g, and with h. -/
structure Lm where
  g : Ac
  h : Ac
abbrev Nm := MK × Cr × Cr
def NmIn (tick : Int) : List MK → List Nm → Prop
  | [], [] => True
  | k :: l, e :: L => (e.1 = k ∧ CrOk e.2.1 (gk tick k) ∧ CrOk e.2.2 (hk tick k)) ∧ NmIn tick l L
  | _, _ => False
def nmK : List MK → (List Nm → Option α) → Option α
  | [], K => K []
  | k :: ks, K => numI k fun G H => crK G fun g => crK H fun h => nmK ks fun l => K ((k, g, h) :: l)
theorem numI_tot {k : MK} {K : Iv → Iv → Option α} {r : α} (h : numI k K = some r) : ∃ G H, K G H = some r := by
  unfold numI at h
  rw [fI_eq, fI_eq] at h
  cases hb : has tabB k.1 k.2 with
  | false => rw [hb, bf] at h; exact ⟨_, _, h⟩
  | true =>
    rw [hb, bt, fI_eq, fI_eq] at h
    unfold mulK addK at h
    obtain ⟨g1, h⟩ := gate h
    obtain ⟨g2, h⟩ := gate h
    obtain ⟨g3, h⟩ := gate h
    obtain ⟨g4, h⟩ := gate h
    exact ⟨_, _, h⟩
theorem nmK_in {tick : Int} (ht : 0 ≤ tick ∧ tick ≤ 157766400000) {r : α} : ∀ (ks : List MK) (K : List Nm → Option α), (∀ k ∈ ks, k ∈ keys27) → nmK ks K = some r → ∃ l, NmIn tick ks l ∧ K l = some r
  | [], K, _, h => ⟨[], trivial, h⟩
  | k :: ks, K, hk, h => by
    unfold nmK at h
    have hkk := hk k (by simp)
    obtain ⟨g, h', G, H, hn, ig, ih, h⟩ := num_in hkk ht h
    have eg : gk tick k = g := by unfold gk; rw [hn]
    have eh : Fd.hk tick k = h' := by unfold Fd.hk; rw [hn]
    obtain ⟨a, oa, h⟩ := crK_in h ig
    obtain ⟨b, ob, h⟩ := crK_in h ih
    obtain ⟨l, hl, hK⟩ := nmK_in ht ks _ (fun k hk' => hk k (by simp [hk'])) h
    exact ⟨(k, a, b) :: l, ⟨⟨rfl, by rw [eg]; exact oa, by rw [eh]; exact ob⟩, hl⟩, hK⟩

/-! ### What is made of a box of latitudes -/
def InT (T : Int) (A : Iv) (x : Int) : Prop := T * A.1 ≤ x ∧ x ≤ T * A.2
theorem prT_in {T : Int} (hT : 0 < T) {A B : Iv} {x y : Int} (hx : InT T A x) (hy : In B y) : InT T (prI A B) (x * y) := by
  have h12 : A.1 ≤ A.2 := Int.le_of_mul_le_mul_left (Int.le_trans hx.1 hx.2) hT
  have l := (mul_cor (A := A) (B := B) (a := A.1) (b := y) ⟨Int.le_refl _, h12⟩ hy)
  have h := (mul_cor (A := A) (B := B) (a := A.2) (b := y) ⟨h12, Int.le_refl _⟩ hy)
  have T0 : 0 ≤ T := by omega
  have l1 := Int.mul_le_mul_of_nonneg_left l.1 T0
  have l2 := Int.mul_le_mul_of_nonneg_left l.2 T0
  have h1 := Int.mul_le_mul_of_nonneg_left h.1 T0
  have h2 := Int.mul_le_mul_of_nonneg_left h.2 T0
  have e1 : T * (A.1 * y) = T * A.1 * y := by grind
  have e2 : T * (A.2 * y) = T * A.2 * y := by grind
  rw [e1] at l1 l2
  rw [e2] at h1 h2
  rcases Int.le_total 0 y with hy0 | hy0
  · have a1 := Int.mul_le_mul_of_nonneg_right hx.1 hy0
    have a2 := Int.mul_le_mul_of_nonneg_right hx.2 hy0
    exact ⟨Int.le_trans l1 a1, Int.le_trans a2 h2⟩
  · have a1 := Int.mul_le_mul_of_nonpos_right hx.1 hy0
    have a2 := Int.mul_le_mul_of_nonpos_right hx.2 hy0
    exact ⟨Int.le_trans h1 a2, Int.le_trans a1 l2⟩
theorem crT_in {A : Iv} {K : Cr → Option α} {r : α} (h : crK A K = some r) {T x : Int} (hT : 0 < T) (hx : InT T A x) : ∃ e, CrT T e x ∧ K e = some r := by
  unfold crK at h
  rw [fI_eq, fN_eq, fN_eq] at h
  refine ⟨_, ⟨?_, rfl⟩, h⟩
  dsimp only
  have h12 : A.1 ≤ A.2 := Int.le_of_mul_le_mul_left (Int.le_trans hx.1 hx.2) hT
  have T0 : 0 ≤ T := by omega
  obtain ⟨h1, h2⟩ := hx
  generalize hc : (A.1 + A.2) / 2 = c
  have u1 : A.2 - c = (((A.2 - c).toNat : Nat) : Int) := by omega
  rw [← u1]
  have m1 : T * (c - A.1) ≤ T * (A.2 - c) := Int.mul_le_mul_of_nonneg_left (by omega) T0
  have e1 : T * (c - A.1) = T * c - T * A.1 := by grind
  have e2 : T * (A.2 - c) = T * A.2 - T * c := by grind
  rw [e1] at m1
  rw [e2] at m1 ⊢
  constructor <;> omega
/-- In parts of the first power's: the powers of the ratio. -/
def sg (n : Int) : Iv := bif n == 1 then (1099511627776, 1099511627776) else bif n == 2 then (836129616998, 1098315776002) else bif n == 3 then (635839329717, 1097121224861) else bif n == 4 then (483527487839, 1095927972939) else bif n == 5 then (367701116569, 1094736018822) else (279620320512, 1093545361100)
def SgOk (r : Int) : Prop := 0 < tau r 1 ∧ ∀ n : Int, 1 ≤ n ∧ n ≤ 6 → InT (tau r 1) (sg n) (1099511627776 * tau r n.toNat)
def xk (r : Int) (T : MK → Tri) (k : MK) : Int × Int × Int := (1099511627776 * tau r k.1.toNat * (T k).1 * (k.1 + 1), 1099511627776 * tau r k.1.toNat * (T k).2.1, 1099511627776 * tau r k.1.toNat * (T k).2.2 * k.2)
def accM (TI : TTI) : List Nm → Lm → (Lm → Option α) → Option α
  | [], A, K => K A
  | (k, g, h) :: ks, A, K => fV (prI (sg k.1) (lookI k TI).1) fun X => fV (prI (sg k.1) (lookI k TI).2.1) fun Y => fV (prI (sg k.1) (lookI k TI).2.2) fun Z =>
      crK (prI X (ptI (k.1 + 1))) fun a => crK Y fun b => crK (prI Z (ptI k.2)) fun c =>
      mac a g A.g.c1 A.g.t1 fun c1 t1 => mac b g A.g.c2 A.g.t2 fun c2 t2 => mac c g A.g.c3 A.g.t3 fun c3 t3 =>
      mac a h A.h.c1 A.h.t1 fun d1 s1 => mac b h A.h.c2 A.h.t2 fun d2 s2 => mac c h A.h.c3 A.h.t3 fun d3 s3 => accM TI ks ⟨⟨c1, t1, c2, t2, c3, t3⟩, ⟨d1, s1, d2, s2, d3, s3⟩⟩ K
theorem accM_in {TI : TTI} {T : MK → Tri} {r tick : Int} (hr : SgOk r) (hT : ∀ k, In3 (lookI k TI) (T k)) {o : α} : ∀ (ks : List MK) (l : List Nm) (A : Lm) (K : Lm → Option α) (z1 z2 z3 w1 w2 w3 : Int), (∀ k ∈ ks, k ∈ keys27) → NmIn tick ks l → accM TI l A K = some o →
    AcIn (tau r 1) A.g z1 z2 z3 → AcIn (tau r 1) A.h w1 w2 w3 →
    ∃ A', AcIn (tau r 1) A'.g (z1 + sumW (fun k => (xk r T k).1 * gk tick k) ks) (z2 + sumW (fun k => (xk r T k).2.1 * gk tick k) ks) (z3 + sumW (fun k => (xk r T k).2.2 * gk tick k) ks) ∧
      AcIn (tau r 1) A'.h (w1 + sumW (fun k => (xk r T k).1 * hk tick k) ks) (w2 + sumW (fun k => (xk r T k).2.1 * hk tick k) ks) (w3 + sumW (fun k => (xk r T k).2.2 * hk tick k) ks) ∧ K A' = some o
  | [], [], A, K, z1, z2, z3, w1, w2, w3, _, _, h, hg, hh => ⟨A, by simpa only [sumW, Int.add_zero] using hg, by simpa only [sumW, Int.add_zero] using hh, h⟩
  | [], _ :: _, _, _, _, _, _, _, _, _, _, hl, _, _, _ => hl.elim
  | _ :: _, [], _, _, _, _, _, _, _, _, _, hl, _, _, _ => hl.elim
  | k :: ks, (k', g, h') :: l, A, K, z1, z2, z3, w1, w2, w3, hk, hl, h, hg, hh => by
    obtain ⟨⟨e, og, oh⟩, hl⟩ := hl
    dsimp only at e og oh
    subst e
    unfold accM at h
    have hkk := hk k' (by simp)
    obtain ⟨n1, n6, -, -⟩ := key_bd k' hkk
    have hs := hr.2 k'.1 ⟨n1, n6⟩
    obtain ⟨i1, i2, i3⟩ := hT k'
    rw [fV_eq, fV_eq, fV_eq] at h
    have j1 := prT_in hr.1 (prT_in hr.1 hs i1) (pt_in (k'.1 + 1))
    have j2 := prT_in hr.1 hs i2
    have j3 := prT_in hr.1 (prT_in hr.1 hs i3) (pt_in k'.2)
    have T0 := Int.le_of_lt hr.1
    obtain ⟨a, oa, h⟩ := crT_in h hr.1 j1
    obtain ⟨b, ob, h⟩ := crT_in h hr.1 j2
    obtain ⟨c, oc, h⟩ := crT_in h hr.1 j3
    obtain ⟨c1, t1, d1, h⟩ := mac_in h T0 oa.z og hg.h1
    obtain ⟨c2, t2, d2, h⟩ := mac_in h T0 ob.z og hg.h2
    obtain ⟨c3, t3, d3, h⟩ := mac_in h T0 oc.z og hg.h3
    obtain ⟨c4, t4, d4, h⟩ := mac_in h T0 oa.z oh hh.h1
    obtain ⟨c5, t5, d5, h⟩ := mac_in h T0 ob.z oh hh.h2
    obtain ⟨c6, t6, d6, h⟩ := mac_in h T0 oc.z oh hh.h3
    obtain ⟨A', e1, e2, e3⟩ := accM_in hr hT ks l ⟨⟨c1, t1, c2, t2, c3, t3⟩, ⟨c4, t4, c5, t5, c6, t6⟩⟩ K _ _ _ _ _ _ (fun k hk' => hk k (by simp [hk'])) hl h ⟨d1, d2, d3⟩ ⟨d4, d5, d6⟩
    refine ⟨A', ?_, ?_, e3⟩
    · unfold sumW; unfold xk at *; simpa only [Int.add_assoc] using e1
    · unfold sumW; unfold xk at *; simpa only [Int.add_assoc] using e2
def zAc : Ac := ⟨0, 0, 0, 0, 0, 0⟩
theorem zAc_in (T : Int) : AcIn T zAc 0 0 0 := ⟨by simp [CrZ, Bd, zAc], by simp [CrZ, Bd, zAc], by simp [CrZ, Bd, zAc]⟩
def lmsK (TI : TTI) : List (List Nm) → (List Lm → Option α) → Option α
  | [], K => K []
  | l :: ls, K => accM TI l ⟨zAc, zAc⟩ fun A => lmsK TI ls fun L => K (A :: L)
/-- One order's sums. -/
def LmIn (T : Int) (x : MK → Int × Int × Int) (tick : Int) (ks : List MK) (A : Lm) : Prop :=
  AcIn T A.g (sumW (fun k => (x k).1 * gk tick k) ks) (sumW (fun k => (x k).2.1 * gk tick k) ks) (sumW (fun k => (x k).2.2 * gk tick k) ks) ∧
  AcIn T A.h (sumW (fun k => (x k).1 * hk tick k) ks) (sumW (fun k => (x k).2.1 * hk tick k) ks) (sumW (fun k => (x k).2.2 * hk tick k) ks)
def All2 {A B : Type} (R : A → B → Prop) : List A → List B → Prop
  | [], [] => True
  | a :: l, b :: m => R a b ∧ All2 R l m
  | _, _ => False
theorem lmsK_in {TI : TTI} {T : MK → Tri} {r tick : Int} (hr : SgOk r) (hT : ∀ k, In3 (lookI k TI) (T k)) {o : α} : ∀ (kss : List (List MK)) (ls : List (List Nm)) (K : List Lm → Option α), (∀ ks ∈ kss, ∀ k ∈ ks, k ∈ keys27) → All2 (NmIn tick) kss ls → lmsK TI ls K = some o →
    ∃ L, All2 (LmIn (tau r 1) (xk r T) tick) kss L ∧ K L = some o
  | [], [], K, _, _, h => ⟨[], trivial, h⟩
  | [], _ :: _, _, _, hl, _ => hl.elim
  | _ :: _, [], _, _, hl, _ => hl.elim
  | ks :: kss, l :: ls, K, hk, hl, h => by
    unfold lmsK at h
    obtain ⟨A, h1, h2, h⟩ := accM_in hr hT ks l ⟨zAc, zAc⟩ _ 0 0 0 0 0 0 (hk ks (by simp)) hl.1 h (zAc_in _) (zAc_in _)
    obtain ⟨L, hL, hK⟩ := lmsK_in hr hT kss ls _ (fun ks hks => hk ks (by simp [hks])) hl.2 h
    simp only [Int.zero_add] at h1 h2
    exact ⟨A :: L, ⟨⟨h1, h2⟩, hL⟩, hK⟩
/-- A direction's powers. -/
def crsK : List (Iv × Iv) → (List (Cr × Cr) → Option α) → Option α
  | [], K => K []
  | p :: l, K => crK p.1 fun a => crK p.2 fun b => crsK l fun E => K ((a, b) :: E)
def CsOk (u v : Int) : Nat → List (Cr × Cr) → Prop
  | _, [] => True
  | m, p :: l => (CrOk p.1 (cs u v m).1.1 ∧ CrOk p.2 (cs u v m).1.2) ∧ CsOk u v (m + 1) l
theorem crsK_in {u v : Int} {r : α} : ∀ (l : List (Iv × Iv)) (m : Nat) (K : List (Cr × Cr) → Option α), CsIn u v m l → crsK l K = some r → ∃ E, E.length = l.length ∧ CsOk u v m E ∧ K E = some r
  | [], m, K, _, h => ⟨[], rfl, trivial, h⟩
  | p :: l, m, K, hc, h => by
    unfold crsK at h
    obtain ⟨a, oa, h⟩ := crK_in h hc.1.1
    obtain ⟨b, ob, h⟩ := crK_in h hc.1.2
    obtain ⟨E, e1, e2, e3⟩ := crsK_in l (m + 1) _ hc.2 h
    exact ⟨(a, b) :: E, by simp [e1], ⟨⟨oa, ob⟩, e2⟩, e3⟩
theorem crsK_tot {r : α} : ∀ (l : List (Iv × Iv)) (K : List (Cr × Cr) → Option α), crsK l K = some r → ∃ E, K E = some r
  | [], K, h => ⟨[], h⟩
  | p :: l, K, h => by
    unfold crsK crK at h
    simp only [fI_eq, fN_eq] at h
    obtain ⟨E, h⟩ := crsK_tot l _ h
    exact ⟨_, h⟩
theorem csL_tot {U V : Iv} : ∀ (n : Nat) (C S : Iv) (K : List (Iv × Iv) → Option α) (r : α), csL U V n C S K = some r → ∃ l, K l = some r
  | 0, C, S, K, r, h => ⟨_, h⟩
  | n + 1, C, S, K, r, h => by
    unfold csL mulK subK addK at h
    obtain ⟨g1, h⟩ := gate h
    obtain ⟨g2, h⟩ := gate h
    obtain ⟨g3, h⟩ := gate h
    obtain ⟨g4, h⟩ := gate h
    obtain ⟨g5, h⟩ := gate h
    obtain ⟨g6, h⟩ := gate h
    obtain ⟨l, hl⟩ := csL_tot n _ _ _ r h
    exact ⟨_, hl⟩
def cr1 (A : Ac) : Cr := ⟨A.c1, A.t1, 0⟩
def cr2 (A : Ac) : Cr := ⟨A.c2, A.t2, 0⟩
def cr3 (A : Ac) : Cr := ⟨A.c3, A.t3, 0⟩
def cr3n (A : Ac) : Cr := ⟨-A.c3, A.t3, 0⟩
def dotM : List Lm → List (Cr × Cr) → Ac → (Ac → Option α) → Option α
  | [], _, A, K => K A
  | e :: L, (c, s) :: E, A, K => mac (cr1 e.g) c A.c1 A.t1 fun c1 t1 => mac (cr1 e.h) s c1 t1 fun c1 t1 => mac (cr2 e.g) c A.c2 A.t2 fun c2 t2 => mac (cr2 e.h) s c2 t2 fun c2 t2 =>
      mac (cr3 e.g) s A.c3 A.t3 fun c3 t3 => mac (cr3n e.h) c c3 t3 fun c3 t3 => dotM L E ⟨c1, t1, c2, t2, c3, t3⟩ K
  | _, _, _, _ => none
theorem dotM_tot : ∀ (L : List Lm) (E : List (Cr × Cr)) (A : Ac) (K : Ac → Option α) (r : α), dotM L E A K = some r → ∃ A, K A = some r
  | [], _, A, K, r, h => ⟨A, h⟩
  | _ :: _, [], _, _, _, h => by simp [dotM] at h
  | e :: L, (c, s) :: E, A, K, r, h => by
    unfold dotM at h
    obtain ⟨_, _, h⟩ := mac_tot h
    obtain ⟨_, _, h⟩ := mac_tot h
    obtain ⟨_, _, h⟩ := mac_tot h
    obtain ⟨_, _, h⟩ := mac_tot h
    obtain ⟨_, _, h⟩ := mac_tot h
    obtain ⟨_, _, h⟩ := mac_tot h
    exact dotM_tot L E _ K r h
/-- All keys of an order: the same power. -/
def ordOk : Nat → List (List MK) → Prop
  | _, [] => True
  | m, ks :: l => (∀ k ∈ ks, k.2.toNat = m) ∧ ordOk (m + 1) l
def sumG2 (f : MK → Int) : List (List MK) → Int
  | [] => 0
  | ks :: l => sumW f ks + sumG2 f l
theorem sumW_add (f g : MK → Int) (a b : Int) : ∀ l : List MK, sumW f l * a + sumW g l * b = sumW (fun k => f k * a + g k * b) l
  | [] => by unfold sumW; grind
  | k :: l => by
    have := sumW_add f g a b l
    unfold sumW
    grind
theorem sumW_eqOn {f g : MK → Int} : ∀ {l : List MK}, (∀ k ∈ l, f k = g k) → sumW f l = sumW g l
  | [], _ => rfl
  | k :: l, h => by
    unfold sumW
    rw [h k (by simp), sumW_eqOn (fun k hk => h k (by simp [hk]))]
theorem crz_neg {T : Int} {A : Ac} {z : Int} (h : CrZ T A.c3 A.t3 z) : CrZ T (cr3n A).c (cr3n A).r (-z) := by
  unfold CrZ cr3n at *
  dsimp only
  have := h.neg
  have e : -z - T * -A.c3 = -(z - T * A.c3) := by grind
  rw [e]; exact this
theorem dotM_in {T : Int} (hT : 0 ≤ T) {x : MK → Int × Int × Int} {tick u v : Int} {K : Ac → Option α} {r : α} : ∀ (kss : List (List MK)) (m : Nat) (L : List Lm) (E : List (Cr × Cr)) (A : Ac) (z1 z2 z3 : Int), dotM L E A K = some r → ordOk m kss → All2 (LmIn T x tick) kss L → CsOk u v m E → AcIn T A z1 z2 z3 →
    ∃ A', AcIn T A' (z1 + sumG2 (fun k => (x k).1 * (gk tick k * cm u v k + hk tick k * sm u v k)) kss) (z2 + sumG2 (fun k => (x k).2.1 * (gk tick k * cm u v k + hk tick k * sm u v k)) kss) (z3 + sumG2 (fun k => (x k).2.2 * (gk tick k * sm u v k - hk tick k * cm u v k)) kss) ∧ K A' = some r
  | [], m, [], E, A, z1, z2, z3, h, _, _, _, hA => ⟨A, by simpa only [sumG2, Int.add_zero] using hA, by unfold dotM at h; exact h⟩
  | [], _, _ :: _, _, _, _, _, _, _, _, hL, _, _ => hL.elim
  | _ :: _, _, [], _, _, _, _, _, _, _, hL, _, _ => hL.elim
  | _ :: _, _, _ :: _, [], _, _, _, _, h, _, _, _, _ => by simp [dotM] at h
  | ks :: kss, m, e :: L, (c, s) :: E, A, z1, z2, z3, h, ho, hL, hE, hA => by
    unfold dotM at h
    obtain ⟨⟨lg, lh⟩, hL⟩ := hL
    obtain ⟨⟨oc, os⟩, hE⟩ := hE
    obtain ⟨c1, t1, d1, h⟩ := mac_in (a := cr1 e.g) h hT lg.h1 oc hA.h1
    obtain ⟨c1, t1, d1, h⟩ := mac_in (a := cr1 e.h) h hT lh.h1 os d1
    obtain ⟨c2, t2, d2, h⟩ := mac_in (a := cr2 e.g) h hT lg.h2 oc hA.h2
    obtain ⟨c2, t2, d2, h⟩ := mac_in (a := cr2 e.h) h hT lh.h2 os d2
    obtain ⟨c3, t3, d3, h⟩ := mac_in (a := cr3 e.g) h hT lg.h3 os hA.h3
    obtain ⟨c3, t3, d3, h⟩ := mac_in (a := cr3n e.h) h hT (crz_neg lh.h3) oc d3
    obtain ⟨A', hA', hK⟩ := dotM_in hT kss (m + 1) L E ⟨c1, t1, c2, t2, c3, t3⟩ _ _ _ h ho.2 hL hE ⟨d1, d2, d3⟩
    refine ⟨A', ?_, hK⟩
    have key : ∀ (f : MK → Int), sumW (fun k => f k * gk tick k) ks * (cs u v m).1.1 + sumW (fun k => f k * hk tick k) ks * (cs u v m).1.2 = sumW (fun k => f k * (gk tick k * cm u v k + hk tick k * sm u v k)) ks := by
      intro f
      rw [sumW_add]
      refine sumW_eqOn fun k hk => ?_
      unfold cm sm
      rw [ho.1 k hk]
      grind
    have key2 : ∀ (f : MK → Int), sumW (fun k => f k * gk tick k) ks * (cs u v m).1.2 + -(sumW (fun k => f k * hk tick k) ks) * (cs u v m).1.1 = sumW (fun k => f k * (gk tick k * sm u v k - hk tick k * cm u v k)) ks := by
      intro f
      have e1 : -(sumW (fun k => f k * hk tick k) ks) * (cs u v m).1.1 = sumW (fun k => f k * hk tick k) ks * -(cs u v m).1.1 := by grind
      rw [e1, sumW_add]
      refine sumW_eqOn fun k hk => ?_
      unfold cm sm
      rw [ho.1 k hk]
      grind
    unfold sumG2
    rw [← key, ← key, ← key2]
    simpa only [Int.add_assoc] using hA'
end
#print axioms dotM_in
end Go.Proofs.Ytcagaaaibhifdaa.Fd
