/- Intervals of the field, and one step of its sum. Conditions: as each says. -/
import Derived.Test.YtlkclpkpggapbaaFd12
namespace Go.Proofs.Ytlkclpkpggapbaa.Fd
open Go Go.Proofs.Ytlkclpkpggapbaa.Ae Go.Proofs.Ytlkclpkpggapbaa.Fx Go.Proofs.Ytlkclpkpggapbaa.Lx Go.Proofs.Ytlkclpkpggapbaa.Tx Go.Proofs.Ytlkclpkpggapbaa.Te Go.Proofs.Ytlkclpkpggapbaa.Rx Go.Proofs.Ytlkclpkpggapbaa.Row Go.Proofs.Ytlkclpkpggapbaa.Ve Go.Proofs.Ytlkclpkpggapbaa.Nx Go.Proofs.Ytlkclpkpggapbaa.Ns

abbrev Iv := Int × Int
/-- Between the ends. -/
def In (A : Iv) (x : Int) : Prop := A.1 ≤ x ∧ x ≤ A.2
def okI (A : Iv) : Bool := decide (-1125899906842624 ≤ A.1) && decide (A.2 ≤ 1125899906842624)
def mn (a b : Int) : Int := bif decide (a ≤ b) then a else b
def mx (a b : Int) : Int := bif decide (a ≤ b) then b else a
theorem mn_le (a b : Int) : mn a b ≤ a ∧ mn a b ≤ b := by
  unfold mn
  cases h : decide (a ≤ b) with
  | true => have := of_decide_eq_true h; rw [bt]; omega
  | false => have := of_decide_eq_false h; rw [bf]; omega
theorem le_mx (a b : Int) : a ≤ mx a b ∧ b ≤ mx a b := by
  unfold mx
  cases h : decide (a ≤ b) with
  | true => have := of_decide_eq_true h; rw [bt]; omega
  | false => have := of_decide_eq_false h; rw [bf]; omega
def mulI (A B : Iv) : Iv :=
  ((2 * mn (mn (A.1 * B.1) (A.1 * B.2)) (mn (A.2 * B.1) (A.2 * B.2)) - 1099511627776) / 2199023255552,
   (2 * mx (mx (A.1 * B.1) (A.1 * B.2)) (mx (A.2 * B.1) (A.2 * B.2)) + 1099511627776) / 2199023255552)
def addI (A B : Iv) : Iv := (A.1 + B.1, A.2 + B.2)
def subI (A B : Iv) : Iv := (A.1 - B.2, A.2 - B.1)
def ptI (x : Int) : Iv := (x, x)
theorem pt_in (x : Int) : In (ptI x) x := ⟨Int.le_refl _, Int.le_refl _⟩
theorem ok_bd {A : Iv} (h : okI A = true) {x : Int} (hx : In A x) : Bd 1125899906842624 x := by
  unfold okI at h
  simp only [Bool.and_eq_true, decide_eq_true_eq] at h
  unfold In at hx
  exact ⟨by omega, by omega⟩
theorem lin {l h x k : Int} (h1 : l ≤ x) (h2 : x ≤ h) : (l * k ≤ x * k ∧ x * k ≤ h * k) ∨ (h * k ≤ x * k ∧ x * k ≤ l * k) := by
  rcases Int.le_total 0 k with hk | hk
  · exact .inl ⟨Int.mul_le_mul_of_nonneg_right h1 hk, Int.mul_le_mul_of_nonneg_right h2 hk⟩
  · exact .inr ⟨Int.mul_le_mul_of_nonpos_right h2 hk, Int.mul_le_mul_of_nonpos_right h1 hk⟩
theorem mul_cor {A B : Iv} {a b : Int} (ha : In A a) (hb : In B b) :
    mn (mn (A.1 * B.1) (A.1 * B.2)) (mn (A.2 * B.1) (A.2 * B.2)) ≤ a * b ∧ a * b ≤ mx (mx (A.1 * B.1) (A.1 * B.2)) (mx (A.2 * B.1) (A.2 * B.2)) := by
  have h1 := lin (k := B.1) ha.1 ha.2
  have h2 := lin (k := B.2) ha.1 ha.2
  have h3 := lin (k := a) hb.1 hb.2
  rw [Int.mul_comm B.1, Int.mul_comm B.2, Int.mul_comm b] at h3
  have m1 := mn_le (A.1 * B.1) (A.1 * B.2)
  have m2 := mn_le (A.2 * B.1) (A.2 * B.2)
  have m3 := mn_le (mn (A.1 * B.1) (A.1 * B.2)) (mn (A.2 * B.1) (A.2 * B.2))
  have x1 := le_mx (A.1 * B.1) (A.1 * B.2)
  have x2 := le_mx (A.2 * B.1) (A.2 * B.2)
  have x3 := le_mx (mx (A.1 * B.1) (A.1 * B.2)) (mx (A.2 * B.1) (A.2 * B.2))
  omega
theorem mul_in {A B : Iv} {a b : Int} (hA : okI A = true) (hB : okI B = true) (ha : In A a) (hb : In B b) : ∃ r, mul a b false = (r, false) ∧ In (mulI A B) r := by
  have ba := ok_bd hA ha
  have bb := ok_bd hB hb
  obtain ⟨r, hr, r1, r2⟩ := mul_is ba bb (by decide) (by decide) (by decide)
  have hc := mul_cor ha hb
  refine ⟨r, hr, ?_⟩
  unfold In mulI
  dsimp only
  generalize a * b = p at *
  generalize mn (mn (A.1 * B.1) (A.1 * B.2)) (mn (A.2 * B.1) (A.2 * B.2)) = m at *
  generalize mx (mx (A.1 * B.1) (A.1 * B.2)) (mx (A.2 * B.1) (A.2 * B.2)) = M at *
  omega
theorem add_in {A B : Iv} {a b : Int} (hA : okI A = true) (hB : okI B = true) (ha : In A a) (hb : In B b) : add a b false = (a + b, false) ∧ In (addI A B) (a + b) := by
  have ba := ok_bd hA ha
  have bb := ok_bd hB hb
  unfold Bd at ba bb
  unfold In addI at *
  exact ⟨add_is (by omega) (by omega) (by omega), by dsimp only; omega⟩
theorem sub_in {A B : Iv} {a b : Int} (hA : okI A = true) (hB : okI B = true) (ha : In A a) (hb : In B b) : sub a b false = (a - b, false) ∧ In (subI A B) (a - b) := by
  have ba := ok_bd hA ha
  have bb := ok_bd hB hb
  unfold Bd at ba bb
  unfold In subI at *
  exact ⟨sub_is (by omega) (by omega) (by omega), by dsimp only; omega⟩
/-! ### One after the other, each number forced -/
section
variable {α : Type}
def fV (A : Iv) (k : Iv → Option α) : Option α := fI A.1 fun l => fI A.2 fun h => k (l, h)
theorem fV_eq (A : Iv) (k : Iv → Option α) : fV A k = k A := by unfold fV; rw [fI_eq, fI_eq]
def mulK (A B : Iv) (k : Iv → Option α) : Option α := bif okI A && okI B then fV (mulI A B) k else none
def addK (A B : Iv) (k : Iv → Option α) : Option α := bif okI A && okI B then fV (addI A B) k else none
def subK (A B : Iv) (k : Iv → Option α) : Option α := bif okI A && okI B then fV (subI A B) k else none
theorem gate {b : Bool} {A : Iv} {k : Iv → Option α} {r : α} (h : (bif b then fV A k else none) = some r) : b = true ∧ k A = some r := by
  cases b
  · cases h
  · rw [bt, fV_eq] at h; exact ⟨rfl, h⟩
theorem mulK_in {A B : Iv} {k : Iv → Option α} {r : α} (h : mulK A B k = some r) {a b : Int} (ha : In A a) (hb : In B b) : ∃ x X, mul a b false = (x, false) ∧ In X x ∧ k X = some r := by
  obtain ⟨h1, h2⟩ := gate h
  obtain ⟨hA, hB⟩ := Bool.and_eq_true_iff.1 h1
  obtain ⟨x, hx, hi⟩ := mul_in hA hB ha hb
  exact ⟨x, _, hx, hi, h2⟩
theorem addK_in {A B : Iv} {k : Iv → Option α} {r : α} (h : addK A B k = some r) {a b : Int} (ha : In A a) (hb : In B b) : ∃ x X, add a b false = (x, false) ∧ In X x ∧ k X = some r := by
  obtain ⟨h1, h2⟩ := gate h
  obtain ⟨hA, hB⟩ := Bool.and_eq_true_iff.1 h1
  obtain ⟨hx, hi⟩ := add_in hA hB ha hb
  exact ⟨_, _, hx, hi, h2⟩
theorem subK_in {A B : Iv} {k : Iv → Option α} {r : α} (h : subK A B k = some r) {a b : Int} (ha : In A a) (hb : In B b) : ∃ x X, sub a b false = (x, false) ∧ In X x ∧ k X = some r := by
  obtain ⟨h1, h2⟩ := gate h
  obtain ⟨hA, hB⟩ := Bool.and_eq_true_iff.1 h1
  obtain ⟨hx, hi⟩ := sub_in hA hB ha hb
  exact ⟨_, _, hx, hi, h2⟩
abbrev TriI := Iv × Iv × Iv
def In3 (V : TriI) (v : Tri) : Prop := In V.1 v.1 ∧ In V.2.1 v.2.1 ∧ In V.2.2 v.2.2
def coreI (c s : Iv) (x y : TriI) (q1 q2 : Iv) (k : TriI → Option α) : Option α :=
  mulK c x.1 fun t1 => mulK q2 t1 fun t2 => mulK q1 y.1 fun t3 => subK t2 t3 fun P =>
  mulK c x.2.1 fun u1 => mulK s x.1 fun u2 => subK u1 u2 fun u3 => mulK q2 u3 fun u4 => mulK q1 y.2.1 fun u5 => subK u4 u5 fun D =>
  mulK c x.2.2 fun v1 => mulK q2 v1 fun v2 => mulK q1 y.2.2 fun v3 => subK v2 v3 fun Qq => k (P, D, Qq)
theorem coreI_in {C S : Iv} {X Y : TriI} {q1 q2 : Int} {k : TriI → Option α} {r : α} (h : coreI C S X Y (ptI q1) (ptI q2) k = some r) {c s : Int} {x y : Tri} (hc : In C c) (hs : In S s) (hx : In3 X x) (hy : In3 Y y) :
    ∃ v V, core false c s x y ((q1, q2), false) = (v, false) ∧ In3 V v ∧ k V = some r := by
  unfold coreI at h
  obtain ⟨t1, T1, e1, i1, h⟩ := mulK_in h hc hx.1
  obtain ⟨t2, T2, e2, i2, h⟩ := mulK_in h (pt_in q2) i1
  obtain ⟨t3, T3, e3, i3, h⟩ := mulK_in h (pt_in q1) hy.1
  obtain ⟨P, PI, e4, i4, h⟩ := subK_in h i2 i3
  obtain ⟨u1, U1, e5, i5, h⟩ := mulK_in h hc hx.2.1
  obtain ⟨u2, U2, e6, i6, h⟩ := mulK_in h hs hx.1
  obtain ⟨u3, U3, e7, i7, h⟩ := subK_in h i5 i6
  obtain ⟨u4, U4, e8, i8, h⟩ := mulK_in h (pt_in q2) i7
  obtain ⟨u5, U5, e9, i9, h⟩ := mulK_in h (pt_in q1) hy.2.1
  obtain ⟨D, DI, e10, i10, h⟩ := subK_in h i8 i9
  obtain ⟨v1, V1, e11, i11, h⟩ := mulK_in h hc hx.2.2
  obtain ⟨v2, V2, e12, i12, h⟩ := mulK_in h (pt_in q2) i11
  obtain ⟨v3, V3', e13, i13, h⟩ := mulK_in h (pt_in q1) hy.2.2
  obtain ⟨W, WI, e14, i14, h⟩ := subK_in h i12 i13
  refine ⟨(P, D, W), (PI, DI, WI), ?_, ⟨i4, i10, i14⟩, h⟩
  unfold core coreG coreDG
  dsimp only
  rw [bf]
  simp only [e1, e2, e3, e4, e5, e6, e7, e8, e9, e10, e11, e12, e13, e14]
end
section
variable (ad mu : Op2) (pa : Op3) (sq : Op1)
def jcG (n : Int) (bad : Bool) : Int × Bool :=
  let p0 := pa 1099511627776 (2 * n - 1) (2 * n) bad
  sq p0.1 p0.2
def diaE (c s : Int) (x : Tri) (j : Int × Bool) : Tri × Bool :=
  let t1 := mu s x.1 j.2
  let P := mu j.1 t1.1 t1.2
  let u1 := mu s x.2.1 P.2
  let u2 := mu c x.1 u1.2
  let u3 := ad u1.1 u2.1 u2.2
  let D := mu j.1 u3.1 u3.2
  let v1 := mu s x.2.2 D.2
  let Qq := mu j.1 v1.1 v1.2
  ((P.1, D.1, Qq.1), Qq.2)
theorem dia_is (c s n : Int) (x : Tri) (bad : Bool) : diaG ad mu pa sq c s n x bad = diaE ad mu c s x (jcG pa sq n bad) := by kernel_rfl
end
def jcP : Int → Bool → Int × Bool := jcG Fx.part sqrt
def diaP : Int → Int → Tri → Int × Bool → Tri × Bool := diaE add mul
theorem dia_p (c s n : Int) (x : Tri) (bad : Bool) : diaG add mul Fx.part sqrt c s n x bad = diaP c s x (jcP n bad) := dia_is add mul Fx.part sqrt c s n x bad
section
variable {α : Type}
def diaI (C S : Iv) (X : TriI) (j : Iv) (k : TriI → Option α) : Option α :=
  mulK S X.1 fun t1 => mulK j t1 fun P => mulK S X.2.1 fun u1 => mulK C X.1 fun u2 => addK u1 u2 fun u3 => mulK j u3 fun D => mulK S X.2.2 fun v1 => mulK j v1 fun Qq => k (P, D, Qq)
theorem diaI_in {C S : Iv} {X : TriI} {j : Int} {k : TriI → Option α} {r : α} (h : diaI C S X (ptI j) k = some r) {c s : Int} {x : Tri} (hc : In C c) (hs : In S s) (hx : In3 X x) :
    ∃ v V, diaP c s x (j, false) = (v, false) ∧ In3 V v ∧ k V = some r := by
  unfold diaI at h
  obtain ⟨t1, T1, e1, i1, h⟩ := mulK_in h hs hx.1
  obtain ⟨P, PI, e2, i2, h⟩ := mulK_in h (pt_in j) i1
  obtain ⟨u1, U1, e3, i3, h⟩ := mulK_in h hs hx.2.1
  obtain ⟨u2, U2, e4, i4, h⟩ := mulK_in h hc hx.1
  obtain ⟨u3, U3, e5, i5, h⟩ := addK_in h i3 i4
  obtain ⟨D, DI, e6, i6, h⟩ := mulK_in h (pt_in j) i5
  obtain ⟨v1, V1, e7, i7, h⟩ := mulK_in h hs hx.2.2
  obtain ⟨W, WI, e8, i8, h⟩ := mulK_in h (pt_in j) i7
  refine ⟨(P, D, W), (PI, DI, WI), ?_, ⟨i2, i6, i8⟩, h⟩
  unfold diaP diaE
  dsimp only
  simp only [e1, e2, e3, e4, e5, e6, e7, e8]
abbrev TTI := List (MK × TriI)
def lookI (k : MK) : TTI → TriI
  | [] => (ptI 0, ptI 0, ptI 0)
  | (k', v) :: l => bif keqB k k' then v else lookI k l
def putI (k : MK) (v : TriI) : TTI → TTI
  | [] => [(k, v)]
  | e :: l => bif kltB k e.1 then (k, v) :: e :: l else e :: putI k v l
def RelL : TTI → TT → Prop
  | [], [] => True
  | (k, V) :: TI, (k', v) :: T => k = k' ∧ In3 V v ∧ RelL TI T
  | _, _ => False
theorem RelL.look : ∀ {TI : TTI} {T : TT}, RelL TI T → ∀ k, In3 (lookI k TI) (lookT k T)
  | [], [], _, k => ⟨pt_in 0, pt_in 0, pt_in 0⟩
  | (k1, V) :: TI, (k2, v) :: T, ⟨e, h1, h2⟩, k => by
    subst e
    unfold lookI lookT
    cases keqB k k1 with
    | true => exact h1
    | false => rw [bf, bf]; exact RelL.look h2 k
  | [], _ :: _, h, _ => h.elim
  | _ :: _, [], h, _ => h.elim
theorem RelL.put {k : MK} {V : TriI} {v : Tri} (hv : In3 V v) : ∀ {TI : TTI} {T : TT}, RelL TI T → RelL (putI k V TI) (putT' k v T)
  | [], [], _ => ⟨rfl, hv, trivial⟩
  | (k1, V1) :: TI, (k2, v1) :: T, ⟨e, h1, h2⟩ => by
    subst e
    unfold putI putT'
    dsimp only
    cases kltB k k1 with
    | true => exact ⟨rfl, hv, rfl, h1, h2⟩
    | false => exact ⟨rfl, h1, RelL.put hv h2⟩
  | [], _ :: _, h => h.elim
  | _ :: _, [], h => h.elim
def forceI : TTI → (TTI → Option α) → Option α
  | [], K => K []
  | e :: T, K => forceI T fun T => K (e :: T)
theorem forceI_eq : ∀ (T : TTI) (K : TTI → Option α), forceI T K = K T
  | [], K => rfl
  | e :: T, K => by unfold forceI; exact forceI_eq T _
def stepI (C S : Iv) (k : MK) (T : TTI) (K : TriI → Option α) : Option α :=
  bif k.1 == k.2 then fI (jcP k.1 false).1 fun j => diaI C S (lookI (k.1 - 1, k.1 - 1) T) (ptI j) K
  else fI (preP k.1 k.2 false).1.1 fun q1 => fI (preP k.1 k.2 false).1.2 fun q2 => coreI C S (lookI (k.1 - 1, k.2) T) (lookI (k.1 - 2, k.2) T) (ptI q1) (ptI q2) K
def foldI (C S : Iv) : List MK → TTI → (TTI → Option α) → Option α
  | [], T, K => K T
  | k :: l, T, K => stepI C S k T fun V => forceI (putI k V T) fun T => foldI C S l T K
end
theorem pre_flag : ∀ k ∈ below, (preP k.1 k.2 false).2 = false := by
  intro k hk
  simp only [below, List.mem_cons, List.not_mem_nil, or_false] at hk
  rcases hk with rfl | rfl | rfl | rfl | rfl | rfl | rfl | rfl | rfl | rfl | rfl | rfl | rfl | rfl | rfl | rfl | rfl | rfl | rfl | rfl | rfl <;> (change _ = _; kernel_rfl)
theorem jc_flag {n : Int} (h : 2 ≤ n ∧ n ≤ 6) : (jcP n false).2 = false := by
  have : n = 2 ∨ n = 3 ∨ n = 4 ∨ n = 5 ∨ n = 6 := by omega
  rcases this with rfl | rfl | rfl | rfl | rfl <;> (change _ = _; kernel_rfl)
def goodK (k : MK) : Prop := (k ∈ below ∧ (k.1 == k.2) = false) ∨ ((k.1 == k.2) = true ∧ 2 ≤ k.1 ∧ k.1 ≤ 6)
def stepTP (c s : Int) (k : MK) (T : TT) (bad : Bool) : Tri × Bool := stepT add sub mul div rootP Fx.part sqrt c s k T bad
theorem stepI_in {α : Type} {C S : Iv} {k : MK} {TI : TTI} {T : TT} {K : TriI → Option α} {r : α} (h : stepI C S k TI K = some r) (hk : goodK k) (hT : RelL TI T) {c s : Int} (hc : In C c) (hs : In S s) :
    ∃ v V, stepTP c s k T false = (v, false) ∧ In3 V v ∧ K V = some r := by
  unfold stepI at h
  unfold stepTP stepT
  rcases hk with ⟨hb, he⟩ | ⟨he, hn⟩
  · rw [he, bf, fI_eq, fI_eq] at h
    rw [he, bf, rnd_core]
    obtain ⟨v, V, e, i, h⟩ := coreI_in h hc hs (hT.look (k.1 - 1, k.2)) (hT.look (k.1 - 2, k.2))
    refine ⟨v, V, ?_, i, h⟩
    have hf := pre_flag k hb
    generalize preP k.1 k.2 false = q at hf e ⊢
    obtain ⟨⟨q1, q2⟩, b⟩ := q
    dsimp only at hf e
    rw [hf]; exact e
  · rw [he, bt, fI_eq] at h
    rw [he, bt, dia_p]
    obtain ⟨v, V, e, i, h⟩ := diaI_in h hc hs (hT.look (k.1 - 1, k.1 - 1))
    refine ⟨v, V, ?_, i, h⟩
    have hf := jc_flag hn
    generalize jcP k.1 false = q at hf e ⊢
    obtain ⟨q, b⟩ := q
    dsimp only at hf e
    rw [hf]; exact e
def foldTP (c s : Int) (l : List MK) (T : TT) (bad : Bool) : TT × Bool := foldT add sub mul div rootP Fx.part sqrt c s l T bad
theorem foldTP_cons (c s : Int) (k : MK) (l : List MK) (T : TT) (bad : Bool) : foldTP c s (k :: l) T bad = foldTP c s l (putT' k (stepTP c s k T bad).1 T) (stepTP c s k T bad).2 := rfl
theorem foldI_in {α : Type} {C S : Iv} {K : TTI → Option α} {r : α} {c s : Int} (hc : In C c) (hs : In S s) : ∀ {l : List MK} {TI : TTI} {T : TT}, foldI C S l TI K = some r → (∀ k ∈ l, goodK k) → RelL TI T →
    ∃ TI' T', foldTP c s l T false = (T', false) ∧ RelL TI' T' ∧ K TI' = some r
  | [], TI, T, h, _, hT => ⟨TI, T, rfl, hT, h⟩
  | k :: l, TI, T, h, hl, hT => by
    unfold foldI at h
    obtain ⟨v, V, e, i, h⟩ := stepI_in h (hl k (List.mem_cons_self ..)) hT hc hs
    rw [forceI_eq] at h
    rw [foldTP_cons, e]
    exact foldI_in hc hs h (fun k hk => hl k (List.mem_cons_of_mem _ hk)) (hT.put i)
theorem rounds_good : ∀ k ∈ rounds, goodK k := by
  intro k hk
  simp only [rounds, List.mem_cons, List.not_mem_nil, or_false] at hk
  rcases hk with rfl | rfl | rfl | rfl | rfl | rfl | rfl | rfl | rfl | rfl | rfl | rfl | rfl | rfl | rfl | rfl | rfl | rfl | rfl | rfl | rfl | rfl | rfl | rfl | rfl | rfl <;> first | exact .inl ⟨by decide, by decide⟩ | exact .inr ⟨by decide, by decide⟩
def startI (C S : Iv) : TTI := [((0, 0), (ptI 1099511627776, ptI 0, ptI 0)), ((1, 1), (S, C, ptI 1099511627776))]
def termsI {α : Type} (C S : Iv) (K : TTI → Option α) : Option α := foldI C S rounds (startI C S) K
/-- The terms lie between the ends that are found. -/
theorem terms_in {α : Type} {C S : Iv} {K : TTI → Option α} {r : α} (h : termsI C S K = some r) {c s : Int} (hc : In C c) (hs : In S s) :
    ∃ TI T, termsP c s false = (T, false) ∧ RelL TI T ∧ K TI = some r := by
  have h0 : RelL (startI C S) [((0, 0), (1099511627776, 0, 0)), ((1, 1), (s, c, 1099511627776))] := ⟨rfl, ⟨pt_in _, pt_in _, pt_in _⟩, rfl, ⟨hs, hc, pt_in _⟩, trivial⟩
  obtain ⟨TI, T, e, h1, h2⟩ := foldI_in hc hs h rounds_good h0
  exact ⟨TI, T, e, h1, h2⟩
/-- Days and years of a right tick. -/
theorem year_in {t : Int} (ht : 0 ≤ t ∧ t ≤ 157766400000) : ∃ d y, daysP t false = (d, false) ∧ div d 401596622045184 false = (y, false) ∧ In (0, 5497558138880) y := by
  have hk : ckT t = true := by rw [ck_is]; simp [ht.1, ht.2]
  obtain ⟨d, hd, d1, d2⟩ := part_is (a := 1099511627776) (p := t) (q := 86400000) 1099511627776 157766400000 ⟨by decide, by decide⟩ ⟨by omega, by omega⟩ (by decide) (by decide) (by decide) (by decide)
  have hb : Bd 4611686018427387 d := ⟨by omega, by omega⟩
  obtain ⟨y, hy, y1, y2⟩ := div_is (a := d) (q := 401596622045184) 4611686018427387 hb (by decide) (by decide) (by decide)
  refine ⟨d, y, ?_, hy, ?_⟩
  · unfold daysP
    rw [hk]; exact hd
  · unfold In
    dsimp only
    omega
def cst (g : Int) : Int × Bool := Fx.part 1099511627776 g 10000 false
theorem cst_true (g : Int) : Fx.part 1099511627776 g 10000 true = (0, true) := rfl
theorem cst_in {g : Int} (h : Bd 1000000 g) : cst g = ((cst g).1, false) := by
  obtain ⟨r, hr, -⟩ := part_is (a := 1099511627776) (p := g) (q := 10000) 1099511627776 1000000 ⟨by decide, by decide⟩ h (by decide) (by decide) (by decide) (by decide)
  have e : cst g = (r, false) := hr
  rw [e]
section
variable {α : Type}
def numI (k : MK) (K : Iv → Iv → Option α) : Option α :=
  fI (cst (pickG tabA k.1 k.2)).1 fun p => fI (cst (pickH tabA k.1 k.2)).1 fun q =>
  bif has tabB k.1 k.2 then
    fI (cst (pickG tabB k.1 k.2)).1 fun p1 => fI (cst (pickH tabB k.1 k.2)).1 fun q1 =>
    mulK (0, 5497558138880) (ptI p1) fun a => addK (ptI p) a fun g => mulK (0, 5497558138880) (ptI q1) fun b => addK (ptI q) b fun h => K g h
  else K (ptI p) (ptI q)
end
theorem tab_bd : ∀ k ∈ keys27, has tabA k.1 k.2 = true ∧ Bd 1000000 (pickG tabA k.1 k.2) ∧ Bd 1000000 (pickH tabA k.1 k.2) ∧ Bd 1000000 (pickG tabB k.1 k.2) ∧ Bd 1000000 (pickH tabB k.1 k.2) := by
  have h : keys27.all (fun k => has tabA k.1 k.2 && (decide (-1000000 ≤ pickG tabA k.1 k.2 ∧ pickG tabA k.1 k.2 ≤ 1000000) && (decide (-1000000 ≤ pickH tabA k.1 k.2 ∧ pickH tabA k.1 k.2 ≤ 1000000) && (decide (-1000000 ≤ pickG tabB k.1 k.2 ∧ pickG tabB k.1 k.2 ≤ 1000000) && decide (-1000000 ≤ pickH tabB k.1 k.2 ∧ pickH tabB k.1 k.2 ≤ 1000000))))) = true := by kernel_rfl
  intro k hk
  have := List.all_eq_true.1 h k hk
  simp only [Bool.and_eq_true, decide_eq_true_eq] at this
  exact this
theorem num_in {α : Type} {k : MK} (hk : k ∈ keys27) {t : Int} (ht : 0 ≤ t ∧ t ≤ 157766400000) {K : Iv → Iv → Option α} {r : α} (h : numI k K = some r) :
    ∃ g h' G H, numP k.1 k.2 t false = ((g, h'), false) ∧ In G g ∧ In H h' ∧ K G H = some r := by
  obtain ⟨a1, a2, a3, a4, a5⟩ := tab_bd k hk
  obtain ⟨d, y, hd, hy, iy⟩ := year_in ht
  have c1 := cst_in a2
  have c2 := cst_in a3
  have c3 := cst_in a4
  have c4 := cst_in a5
  unfold numI at h
  rw [fI_eq, fI_eq] at h
  unfold numP
  rw [a1, hd]
  dsimp only
  rw [Bool.not_true, bf, bf]
  unfold numEP
  dsimp only
  change (cst (pickG tabA k.1 k.2)) = _ at c1
  unfold cst at c1 c2 c3 c4 h
  generalize (Fx.part 1099511627776 (pickG tabA k.1 k.2) 10000 false).1 = p at *
  generalize (Fx.part 1099511627776 (pickH tabA k.1 k.2) 10000 false).1 = q at *
  generalize (Fx.part 1099511627776 (pickG tabB k.1 k.2) 10000 false).1 = p1 at *
  generalize (Fx.part 1099511627776 (pickH tabB k.1 k.2) 10000 false).1 = q1 at *
  simp only [c1, c2, hy, c3]
  cases hb : has tabB k.1 k.2 with
  | false =>
    rw [hb, bf] at h
    rw [bf]
    exact ⟨p, q, _, _, rfl, pt_in p, pt_in q, h⟩
  | true =>
    rw [hb, bt, fI_eq, fI_eq] at h
    obtain ⟨x1, X1, e1, i1, h⟩ := mulK_in h iy (pt_in p1)
    obtain ⟨x2, X2, e2, i2, h⟩ := addK_in h (pt_in p) i1
    obtain ⟨x3, X3, e3, i3, h⟩ := mulK_in h iy (pt_in q1)
    obtain ⟨x4, X4, e4, i4, h⟩ := addK_in h (pt_in q) i3
    rw [bt]
    simp only [e1, e2, c4, e3, e4]
    exact ⟨x2, x4, X2, X4, rfl, i2, i4, h⟩
def In01 (x : Int) : Prop := 0 ≤ x ∧ x ≤ 1099511627776
/-- A product of two numbers between 0 and 1. -/
theorem mul_01 {a b : Int} (ha : In01 a) (hb : In01 b) : ∃ r, mul a b false = (r, false) ∧ In01 r ∧ Bd 1099511627776 (2 * (r * 1099511627776 - a * b)) := by
  have h1 : Bd 1099511627776 a := ⟨by have := ha.1; omega, ha.2⟩
  have h2 : Bd 1099511627776 b := ⟨by have := hb.1; omega, hb.2⟩
  obtain ⟨r, hr, r1, r2⟩ := mul_is h1 h2 (by decide) (by decide) (by decide)
  have hp : 0 ≤ a * b := Int.mul_nonneg ha.1 hb.1
  have hq := h1.mul h2
  generalize a * b = p at *
  refine ⟨r, hr, ?_, ⟨by omega, r1⟩⟩
  unfold Bd at hq
  exact ⟨by omega, by omega⟩
def rho (r : Int) : Int := (div 7005208482886 r false).1
def tau (r : Int) : Nat → Int
  | 0 => (mul (rho r) (rho r) false).1
  | n + 1 => (mul (tau r n) (rho r) false).1
theorem rho_is {r : Int} (h : 7005208482886 ≤ r ∧ r ≤ 4611686018427387904) : div 7005208482886 r false = (rho r, false) ∧ In01 (rho r) ∧ Bd r (2 * (rho r * r - 7005208482886 * 1099511627776)) := by
  obtain ⟨x, hx, b1, b2⟩ := div_is (a := 7005208482886) (q := r) 7005208482886 ⟨by decide, by decide⟩ (by decide) (by omega) (by omega)
  have e : rho r = x := by unfold rho; rw [hx]
  rw [e]
  refine ⟨hx, ⟨?_, ?_⟩, b1, b2⟩
  · refine Int.not_lt.1 fun hn => ?_
    have : x * r ≤ (-1) * r := Int.mul_le_mul_of_nonneg_right (by omega) (by omega)
    generalize x * r = p at *
    omega
  · refine Int.not_lt.1 fun hn => ?_
    have : 1099511627777 * r ≤ x * r := Int.mul_le_mul_of_nonneg_right (by omega) (by omega)
    generalize x * r = p at *
    omega
theorem tau_in {r : Int} (h : In01 (rho r)) : ∀ n, In01 (tau r n)
  | 0 => by
    obtain ⟨x, hx, hi, -⟩ := mul_01 h h
    unfold tau; rw [hx]; exact hi
  | n + 1 => by
    obtain ⟨x, hx, hi, -⟩ := mul_01 (tau_in h n) h
    unfold tau; rw [hx]; exact hi
theorem tau_zero {r : Int} (h : In01 (rho r)) : mul (rho r) (rho r) false = (tau r 0, false) := by
  obtain ⟨x, hx, -, -⟩ := mul_01 h h
  unfold tau; rw [hx]
theorem tau_succ {r : Int} (h : In01 (rho r)) (n : Nat) : mul (tau r n) (rho r) false = (tau r (n + 1), false) := by
  obtain ⟨x, hx, -, -⟩ := mul_01 (tau_in h n) h
  conv => rhs; unfold tau
  rw [hx]
/-- Products of near numbers are near. -/
theorem mul_near {a b a' b' d e : Int} (ha : In01 a) (hb : In01 b) (ha' : In01 a') (hb' : In01 b') (h1 : Bd d (a - a')) (h2 : Bd e (b - b')) : ∃ r r', mul a b false = (r, false) ∧ mul a' b' false = (r', false) ∧ In01 r ∧ In01 r' ∧ Bd (d + e + 1) (r - r') := by
  obtain ⟨r, hr, i1, n1⟩ := mul_01 ha hb
  obtain ⟨r', hr', i2, n2⟩ := mul_01 ha' hb'
  refine ⟨r, r', hr, hr', i1, i2, ?_⟩
  have p1 := h1.mul (show Bd 1099511627776 b from ⟨by have := hb.1; omega, hb.2⟩)
  have p2 := (show Bd 1099511627776 a' from ⟨by have := ha'.1; omega, ha'.2⟩).mul h2
  have e1 : a * b - a' * b' = (a - a') * b + a' * (b - b') := by grind
  generalize a * b = p at *
  generalize a' * b' = q at *
  generalize (a - a') * b = x at *
  generalize a' * (b - b') = y at *
  unfold Bd at *
  omega
theorem tau_near {r r' d : Int} (h : In01 (rho r)) (h' : In01 (rho r')) (hd : Bd d (rho r - rho r')) : ∀ n : Nat, Bd ((n + 2) * (d + 1)) (tau r n - tau r' n)
  | 0 => by
    obtain ⟨x, x', hx, hx', -, -, hb⟩ := mul_near h h h' h' hd hd
    unfold tau; rw [hx, hx']
    unfold Bd at *
    dsimp only
    omega
  | n + 1 => by
    have ih := tau_near h h' hd n
    obtain ⟨x, x', hx, hx', -, -, hb⟩ := mul_near (tau_in h n) h (tau_in h' n) h' ih hd
    unfold tau; rw [hx, hx']
    have e : ((n + 1 : Nat) + 2 : Int) * (d + 1) = (n + 2) * (d + 1) + (d + 1) := by grind
    rw [e]
    generalize ((n : Int) + 2) * (d + 1) = k at *
    unfold Bd at *
    dsimp only
    omega
theorem prod_near3 {ev y a1 a2 P t : Int} (h0 : Bd 1099511627776 (1099511627776 * ev - y)) (h1 : Bd 1099511627776 (2 * (a1 * 1099511627776 - ev * P))) (h2 : Bd 1099511627776 (2 * (a2 * 1099511627776 - t * a1))) (ht : In01 t) (hP : Bd 8796093022208 P) :
    Bd (9 * 1329227995784915872903807060280344576) (1329227995784915872903807060280344576 * a2 - t * P * y) := by
  have bt : Bd 1099511627776 t := ⟨by have := ht.1; omega, ht.2⟩
  have p1 := bt.mul h1
  have p2 := (bt.mul hP).mul h0
  have e : 2 * (1329227995784915872903807060280344576 * a2 - t * P * y) = 1208925819614629174706176 * (2 * (a2 * 1099511627776 - t * a1)) + 1099511627776 * (t * (2 * (a1 * 1099511627776 - ev * P))) + 2 * (t * P * (1099511627776 * ev - y)) := by grind
  generalize t * (2 * (a1 * 1099511627776 - ev * P)) = A at *
  generalize t * P * (1099511627776 * ev - y) = B at *
  generalize t * P * y = C at *
  generalize t * a1 = D at *
  unfold Bd at *
  omega
section
variable {α : Type}
theorem mulK_inr {A B : Iv} {k : Iv → Option α} {r : α} (h : mulK A B k = some r) {a b : Int} (ha : In A a) (hb : In B b) : ∃ x X, mul a b false = (x, false) ∧ In X x ∧ Bd 1099511627776 (2 * (x * 1099511627776 - a * b)) ∧ k X = some r := by
  obtain ⟨h1, h2⟩ := gate h
  obtain ⟨hA, hB⟩ := Bool.and_eq_true_iff.1 h1
  obtain ⟨x, hx, hi⟩ := mul_in hA hB ha hb
  obtain ⟨r, hr, r1, r2⟩ := mul_is (ok_bd hA ha) (ok_bd hB hb) (by decide) (by decide) (by decide)
  rw [hr] at hx
  obtain ⟨rfl, -⟩ := Prod.mk.inj hx
  exact ⟨_, _, hr, hi, ⟨by omega, r1⟩, h2⟩
def parI (n : Int) (A : Iv) : Iv := (A.1 * n, A.2 * n)
def partK (n : Int) (A : Iv) (k : Iv → Option α) : Option α := bif okI A && decide (0 ≤ n ∧ n ≤ 7) then fV (parI n A) k else none
theorem partK_in {n : Int} {A : Iv} {k : Iv → Option α} {r : α} (h : partK n A k = some r) {a : Int} (ha : In A a) : ∃ X, Fx.part a n 1 false = (a * n, false) ∧ In X (a * n) ∧ k X = some r := by
  obtain ⟨h1, h2⟩ := gate h
  obtain ⟨hA, hn⟩ := Bool.and_eq_true_iff.1 h1
  have hn := of_decide_eq_true hn
  obtain ⟨r', hr, b1, b2⟩ := part_is (a := a) (p := n) (q := 1) 1125899906842624 7 (ok_bd hA ha) ⟨by omega, by omega⟩ (by decide) (by decide) (by decide) (by decide)
  have e : r' = a * n := by
    generalize a * n = p at *
    omega
  rw [e] at hr
  exact ⟨_, hr, ⟨Int.mul_le_mul_of_nonneg_right ha.1 hn.1, Int.mul_le_mul_of_nonneg_right ha.2 hn.1⟩, h2⟩
def gateK (A B C X : Iv) (k : Option α) : Option α := bif okI A && (okI B && (okI C && okI X)) then k else none
theorem gateK_in {A B C X : Iv} {k : Option α} {r : α} (h : gateK A B C X k = some r) : okI A = true ∧ okI B = true ∧ okI C = true ∧ okI X = true ∧ k = some r := by
  unfold gateK at h
  cases hb : okI A && (okI B && (okI C && okI X)) with
  | false => rw [hb] at h; cases h
  | true =>
    rw [hb, bt] at h
    simp only [Bool.and_eq_true] at hb
    exact ⟨hb.1, hb.2.1, hb.2.2.1, hb.2.2.2, h⟩
def t01 : Iv := (0, 1099511627776)
def incI (k : MK) (G H C S : Iv) (X : TriI) (K : Iv → Iv → Iv → Option α) : Option α :=
  mulK G C fun e1 => mulK H S fun e2 => addK e1 e2 fun ev => mulK G S fun o1 => mulK H C fun o2 => subK o1 o2 fun od =>
  mulK ev X.1 fun a1 => mulK t01 a1 fun a2 => partK (k.1 + 1) a2 fun a3 =>
  mulK ev X.2.1 fun b1 => mulK t01 b1 fun b2 =>
  mulK od X.2.2 fun c1 => mulK t01 c1 fun c2 => partK k.2 c2 fun c3 => gateK a3 b2 c3 t01 (K a3 b2 c3)
end
def near9 (n z y : Int) : Prop := Bd (n * (9 * 1329227995784915872903807060280344576)) (1329227995784915872903807060280344576 * z - y)
theorem step_near {α : Type} {k : MK} {G H C S : Iv} {X : TriI} {K : Iv → Iv → Iv → Option α} {r : α} (h : incI k G H C S X K = some r) {g h' c s t tick up0 south0 east0 : Int} {x : Tri}
    (hn : numP k.1 k.2 tick false = ((g, h'), false)) (hg : In G g) (hh : In H h') (hc : In C c) (hs : In S s) (hx : In3 X x) (ht : In01 t)
    (x1 : Bd 8796093022208 x.1) (x2 : Bd 8796093022208 x.2.1) (x3 : Bd 8796093022208 x.2.2)
    (u0 : Bd 1125899906842624 up0) (s0 : Bd 1125899906842624 south0) (e0 : Bd 1125899906842624 east0) :
    ∃ od a2 b2 c2 A B C', mid tick k (t, false) c s x up0 south0 = ((up0 + a2 * (k.1 + 1), south0 - b2, od), false) ∧ eastP t od x.2.2 k.2 east0 false = (east0 + c2 * k.2, false) ∧
      In A (a2 * (k.1 + 1)) ∧ In B b2 ∧ In C' (c2 * k.2) ∧ near9 1 a2 (t * x.1 * (g * c + h' * s)) ∧ near9 1 b2 (t * x.2.1 * (g * c + h' * s)) ∧ near9 1 c2 (t * x.2.2 * (g * s - h' * c)) ∧ K A B C' = some r := by
  unfold incI at h
  obtain ⟨e1, E1, m1, i1, n1, h⟩ := mulK_inr h hg hc
  obtain ⟨e2, E2, m2, i2, n2, h⟩ := mulK_inr h hh hs
  obtain ⟨h1, h2⟩ := gate h
  obtain ⟨o1, o2⟩ := Bool.and_eq_true_iff.1 h1
  obtain ⟨m3, i3⟩ := add_in o1 o2 i1 i2
  replace h := h2
  obtain ⟨e4, E4, m4, i4, n4, h⟩ := mulK_inr h hg hs
  obtain ⟨e5, E5, m5, i5, n5, h⟩ := mulK_inr h hh hc
  obtain ⟨h1, h2⟩ := gate h
  obtain ⟨o1, o2⟩ := Bool.and_eq_true_iff.1 h1
  obtain ⟨m6, i6⟩ := sub_in o1 o2 i4 i5
  replace h := h2
  have it : In t01 t := ht
  obtain ⟨a1, A1, ma1, ia1, na1, h⟩ := mulK_inr h i3 hx.1
  obtain ⟨a2, A2, ma2, ia2, na2, h⟩ := mulK_inr h it ia1
  obtain ⟨A3, ma3, ia3, h⟩ := partK_in h ia2
  obtain ⟨b1, B1, mb1, ib1, nb1, h⟩ := mulK_inr h i3 hx.2.1
  obtain ⟨b2, B2, mb2, ib2, nb2, h⟩ := mulK_inr h it ib1
  obtain ⟨c1, C1, mc1, ic1, nc1, h⟩ := mulK_inr h i6 hx.2.2
  obtain ⟨c2, C2, mc2, ic2, nc2, h⟩ := mulK_inr h it ic1
  obtain ⟨C3, mc3, ic3, h⟩ := partK_in h ic2
  obtain ⟨k1, k2, k3, -, h⟩ := gateK_in h
  have b3 := ok_bd k1 ia3
  have b4 := ok_bd k2 ib2
  have b5 := ok_bd k3 ic3
  have s1 := add_is (a := up0) (b := a2 * (k.1 + 1)) (by unfold Bd at *; omega) (by unfold Bd at *; omega) (by unfold Bd at *; omega)
  have s2 := sub_is (a := south0) (b := b2) (by unfold Bd at *; omega) (by unfold Bd at *; omega) (by unfold Bd at *; omega)
  have s3 := add_is (a := east0) (b := c2 * k.2) (by unfold Bd at *; omega) (by unfold Bd at *; omega) (by unfold Bd at *; omega)
  have y1 : Bd 1099511627776 (1099511627776 * (e1 + e2) - (g * c + h' * s)) := by
    generalize g * c = p at *
    generalize h' * s = q at *
    unfold Bd at *
    omega
  have y2 : Bd 1099511627776 (1099511627776 * (e4 - e5) - (g * s - h' * c)) := by
    generalize g * s = p at *
    generalize h' * c = q at *
    unfold Bd at *
    omega
  refine ⟨e4 - e5, a2, b2, c2, A3, B2, C3, ?_, ?_, ia3, ib2, ic3, ?_, ?_, ?_, h⟩
  · unfold mid midG
    dsimp only
    simp only [hn, m1, m2, m3, m4, m5, m6, ma1, ma2, ma3, mb1, mb2, s1, s2]
  · unfold eastP eastG
    simp only [mc1, mc2, mc3, s3]
  · exact (prod_near3 y1 na1 na2 ht x1).mono (by omega)
  · exact (prod_near3 y1 nb1 nb2 ht x2).mono (by omega)
  · exact (prod_near3 y2 nc1 nc2 ht x3).mono (by omega)
end Go.Proofs.Ytlkclpkpggapbaa.Fd
