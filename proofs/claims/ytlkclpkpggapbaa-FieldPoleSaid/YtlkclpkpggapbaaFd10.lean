/- The field in the Earth's axes, the program's and the reference's: the same plain function. Conditions: none. -/
import Derived.Test.YtlkclpkpggapbaaFd7
import Derived.Test.YtlkclpkpggapbaaFd9
import Derived.Test.YtlkclpkpggapbaaNb0
namespace Go.Proofs.Ytlkclpkpggapbaa.Fd
open Go Go.Proofs.Ytlkclpkpggapbaa.Ae Go.Proofs.Ytlkclpkpggapbaa.Fx Go.Proofs.Ytlkclpkpggapbaa.Lx Go.Proofs.Ytlkclpkpggapbaa.Tx Go.Proofs.Ytlkclpkpggapbaa.Te Go.Proofs.Ytlkclpkpggapbaa.Rx Go.Proofs.Ytlkclpkpggapbaa.Row Go.Proofs.Ytlkclpkpggapbaa.Ve Go.Proofs.Ytlkclpkpggapbaa.Nx Go.Proofs.Ytlkclpkpggapbaa.Ns

section
variable (ad su mu di : Op2) (pa nr : Op3) (nu : Op3p) (tm : TmF)
/-- Both ways' common part of a step: up, south, and what east is made of. -/
def midG (tick : Int) (k : MK) (t : Int × Bool) (cos sin : Int) (x : Tri) (up0 south0 : Int) : (Int × Int × Int) × Bool :=
  let g := nu k.1 k.2 tick t.2
  let e1 := mu g.1.1 cos g.2
  let e2 := mu g.1.2 sin e1.2
  let ev := ad e1.1 e2.1 e2.2
  let o1 := mu g.1.1 sin ev.2
  let o2 := mu g.1.2 cos o1.2
  let od := su o1.1 o2.1 o2.2
  let a1 := mu ev.1 x.1 od.2
  let a2 := mu t.1 a1.1 a1.2
  let a3 := pa a2.1 (k.1 + 1) 1 a2.2
  let up := ad up0 a3.1 a3.2
  let b1 := mu ev.1 x.2.1 up.2
  let b2 := mu t.1 b1.1 b1.2
  let south := su south0 b2.1 b2.2
  ((up.1, south.1, od.1), south.2)
def nextG (u v : Int) (cos sin : Int) (bad : Bool) : (Int × Int) × Bool :=
  let d1 := mu cos u bad
  let d2 := mu sin v d1.2
  let d := su d1.1 d2.1 d2.2
  let d3 := mu sin u d.2
  let d4 := mu cos v d3.2
  let d' := ad d3.1 d4.1 d4.2
  ((d.1, d'.1), d'.2)
def eastG (t od q m east0 : Int) (bad : Bool) : Int × Bool :=
  let c1 := mu od q bad
  let c2 := mu t c1.1 c1.2
  let c3 := pa c2.1 m 1 c2.2
  ad east0 c3.1 c3.2
def stG (u v tick : Int) (T : MK → Tri) (k : MK) (t : Int × Bool) (cos sin : Int) (e : Es) : Es :=
  let M := midG ad su mu pa nu tick k t cos sin (T k) e.up e.south
  let E := eastG ad mu pa t.1 M.1.2.2 (T k).2.2 k.2 e.east M.2
  let N := nextG ad su mu u v cos sin E.2
  ⟨t.1, N.1.1, N.1.2, M.1.1, M.1.2.1, E.1, N.2⟩
def rstG (tick : Int) (T : MK → Tri) (k : MK) (t : Int × Bool) (cos sin : Int) (e : Es) : Es :=
  let M := midG ad su mu pa nu tick k t cos sin (T k) e.up e.south
  bif k.2 == 0 then ⟨t.1, 0, 0, M.1.1, M.1.2.1, e.east, M.2⟩ else
  let E := eastG ad mu pa t.1 M.1.2.2 (T k).2.2 k.2 e.east M.2
  ⟨t.1, 0, 0, M.1.1, M.1.2.1, E.1, E.2⟩
theorem eStep_st (u v ratio tick : Int) (T : MK → Tri) (k : MK) (e : Es) : eStep ad su mu pa nu u v ratio tick T k e =
    stG ad su mu pa nu u v tick T k (bif k.2 == 0 then mu e.t ratio e.bad else (e.t, e.bad)) (bif k.2 == 0 then 1099511627776 else e.cos) (bif k.2 == 0 then 0 else e.sin) e := by kernel_rfl
theorem reStep_st (ratio tick : Int) (C : Nat → Int × Int) (T : MK → Tri) (k : MK) (e : Es) : reStep ad su mu pa nu ratio tick C T k e =
    rstG ad su mu pa nu tick T k (bif k.2 == 0 then mu e.t ratio e.bad else (e.t, e.bad)) (C k.2.toNat).1 (C k.2.toNat).2 e := by kernel_rfl
theorem csn_next (u v : Int) (bad : Bool) (m : Nat) : csn ad su mu u v bad (m + 1) = nextG ad su mu u v (csn ad su mu u v bad m).1.1 (csn ad su mu u v bad m).1.2 (csn ad su mu u v bad m).2 := by kernel_rfl
end
theorem part_flag {a p q : Int} {bad : Bool} (h : (Fx.part a p q bad).2 = false) : bad = false ∧ okn a = true := by
  unfold Fx.part at h
  obtain ⟨h1, h2, -⟩ := lift_got h
  exact ⟨h1, h2 a (by simp)⟩
theorem numP_bad (n m t : Int) : (numP n m t true).2 = true := by
  have hd : daysP t true = (0, true) := by
    unfold daysP
    cases (!(ckT t)) <;> rfl
  unfold numP
  rw [hd]
  dsimp only
  cases !(has tabA n m) <;> rfl
def mid : Int → MK → Int × Bool → Int → Int → Tri → Int → Int → (Int × Int × Int) × Bool := midG add sub mul Fx.part numP
def next : Int → Int → Int → Int → Bool → (Int × Int) × Bool := nextG add sub mul
def eastP : Int → Int → Int → Int → Int → Bool → Int × Bool := eastG add mul Fx.part
theorem mid_bad (tick : Int) (k : MK) (t : Int) (cos sin : Int) (x : Tri) (up0 south0 : Int) : (mid tick k (t, true) cos sin x up0 south0).2 = true := by
  unfold mid midG
  dsimp only
  have h := numP_bad k.1 k.2 tick
  generalize numP k.1 k.2 tick true = g at h ⊢
  obtain ⟨g, b⟩ := g
  dsimp only at h ⊢
  subst h
  simp only [mul_badT, add_badT, sub_badT, part_badT]
theorem mid_flag {tick : Int} {k : MK} {t : Int × Bool} {cos sin : Int} {x : Tri} {up0 south0 : Int} (h : (mid tick k t cos sin x up0 south0).2 = false) : okn t.1 = true ∧ okn (mid tick k t cos sin x up0 south0).1.2.2 = true := by
  unfold mid midG at h ⊢
  dsimp only at h ⊢
  obtain ⟨h1, -⟩ := sub_flag h
  obtain ⟨h2, kt, -⟩ := mul_flag h1
  obtain ⟨h3, -⟩ := mul_flag h2
  obtain ⟨h4, -⟩ := add_flag h3
  obtain ⟨h5, -⟩ := part_flag h4
  obtain ⟨h6, -⟩ := mul_flag h5
  obtain ⟨h7, -⟩ := mul_flag h6
  obtain ⟨-, -, -, h8⟩ := sub_flag h7
  exact ⟨kt, h8⟩
theorem east_bad (t od q m e0 : Int) : eastP t od q m e0 true = (0, true) := rfl
theorem next_bad (u v c s : Int) : next u v c s true = ((0, 0), true) := rfl
theorem part_zero : Fx.part 0 0 1 false = (0, false) := by kernel_rfl
theorem add_zero' {a : Int} (h : okn a = true) : add a 0 false = (a, false) := by
  unfold add
  rw [lift2 h (by decide), Int.add_zero, if_pos h]; rfl
theorem east_zero {t od e0 : Int} (ht : okn t = true) (ho : okn od = true) (he : okn e0 = true) : eastP t od 0 0 e0 false = (e0, false) := by
  unfold eastP eastG
  rw [mul_zero' ho]
  dsimp only
  rw [mul_zero' ht]
  dsimp only
  rw [part_zero]
  dsimp only
  exact add_zero' he
theorem east_ok {t od q m e0 : Int} {bad : Bool} (h : (eastP t od q m e0 bad).2 = false) : bad = false ∧ okn (eastP t od q m e0 bad).1 = true := by
  unfold eastP eastG at h ⊢
  dsimp only at h ⊢
  obtain ⟨h1, -, -, h2⟩ := add_flag h
  obtain ⟨h3, -⟩ := part_flag h1
  obtain ⟨h4, -⟩ := mul_flag h3
  obtain ⟨h5, -⟩ := mul_flag h4
  exact ⟨h5, h2⟩
/-- The cosines and sines of the multiples. -/
def cs (u v : Int) (m : Nat) : (Int × Int) × Bool := csn add sub mul u v false m
def BB : Nat → Int
  | 0 => 1099511627776
  | m + 1 => 2 * BB m + 2
theorem BB_le : ∀ m, m ≤ 7 → 0 ≤ BB m ∧ BB m ≤ 1125899906842624 := by
  intro m hm
  have : m = 0 ∨ m = 1 ∨ m = 2 ∨ m = 3 ∨ m = 4 ∨ m = 5 ∨ m = 6 ∨ m = 7 := by omega
  rcases this with rfl | rfl | rfl | rfl | rfl | rfl | rfl | rfl <;> decide
theorem mul_u {x u B : Int} (hB : 0 ≤ B ∧ B ≤ 1125899906842624) (hx : Bd B x) (hu : Bd 1099511627776 u) : ∃ r, mul x u false = (r, false) ∧ Bd (B + 1) r := by
  obtain ⟨r, hr, r1, r2⟩ := mul_is (a := x) (b := u) hx hu (by omega) (by decide) (by omega)
  have h := hx.mul hu
  generalize x * u = p at *
  refine ⟨r, hr, ?_⟩
  unfold Bd at *
  omega
theorem next_is {c s u v B : Int} (hB : 0 ≤ B ∧ B ≤ 1125899906842624) (hc : Bd B c) (hs : Bd B s) (hu : Bd 1099511627776 u) (hv : Bd 1099511627776 v) : ∃ c' s', next u v c s false = ((c', s'), false) ∧ Bd (2 * B + 2) c' ∧ Bd (2 * B + 2) s' := by
  obtain ⟨d1, h1, b1⟩ := mul_u hB hc hu
  obtain ⟨d2, h2, b2⟩ := mul_u hB hs hv
  obtain ⟨d3, h3, b3⟩ := mul_u hB hs hu
  obtain ⟨d4, h4, b4⟩ := mul_u hB hc hv
  have h5 := sub_is (a := d1) (b := d2) (by unfold Bd at *; omega) (by unfold Bd at *; omega) (by unfold Bd at *; omega)
  have h6 := add_is (a := d3) (b := d4) (by unfold Bd at *; omega) (by unfold Bd at *; omega) (by unfold Bd at *; omega)
  refine ⟨d1 - d2, d3 + d4, ?_, by unfold Bd at *; omega, by unfold Bd at *; omega⟩
  unfold next nextG
  simp only [h1, h2, h5, h3, h4, h6]
theorem cs_ok {u v : Int} (hu : Bd 1099511627776 u) (hv : Bd 1099511627776 v) : ∀ m, m ≤ 7 → (cs u v m).2 = false ∧ Bd (BB m) (cs u v m).1.1 ∧ Bd (BB m) (cs u v m).1.2
  | 0, _ => ⟨rfl, (show Bd 1099511627776 1099511627776 from ⟨by decide, by decide⟩), (show Bd 1099511627776 0 from ⟨by decide, by decide⟩)⟩
  | m + 1, hm => by
    obtain ⟨h1, h2, h3⟩ := cs_ok hu hv m (by omega)
    obtain ⟨c, s, hn, bc, bs⟩ := next_is (BB_le m (by omega)) h2 h3 hu hv
    have e : cs u v (m + 1) = next u v (cs u v m).1.1 (cs u v m).1.2 (cs u v m).2 := csn_next add sub mul u v false m
    rw [e, h1, hn]
    exact ⟨rfl, bc, bs⟩
theorem cs_step {u v : Int} (hu : Bd 1099511627776 u) (hv : Bd 1099511627776 v) {m : Nat} (hm : m ≤ 6) : next u v (cs u v m).1.1 (cs u v m).1.2 false = ((cs u v (m + 1)).1, false) := by
  have h1 := (cs_ok hu hv m (by omega)).1
  have h2 := (cs_ok hu hv (m + 1) (by omega)).1
  have e : cs u v (m + 1) = next u v (cs u v m).1.1 (cs u v m).1.2 (cs u v m).2 := csn_next add sub mul u v false m
  rw [h1] at e
  rw [← e, ← h2]
/-- Two states of the two ways. -/
def Rel (u v : Int) (m : Nat) (e e' : Es) : Prop :=
  (e.bad = true ∧ e'.bad = true) ∨ (e.bad = false ∧ e'.bad = false ∧ e.t = e'.t ∧ e.up = e'.up ∧ e.south = e'.south ∧ e.east = e'.east ∧ okn e.east = true ∧ (m ≠ 0 → (e.cos, e.sin) = (cs u v m).1))
def stP : Int → Int → Int → (MK → Tri) → MK → Int × Bool → Int → Int → Es → Es := stG add sub mul Fx.part numP
def rstP : Int → (MK → Tri) → MK → Int × Bool → Int → Int → Es → Es := rstG add sub mul Fx.part numP
theorem st_is (u v tick : Int) (T : MK → Tri) (k : MK) (t : Int × Bool) (cos sin : Int) (e : Es) : stP u v tick T k t cos sin e =
    ⟨t.1, (next u v cos sin (eastP t.1 (mid tick k t cos sin (T k) e.up e.south).1.2.2 (T k).2.2 k.2 e.east (mid tick k t cos sin (T k) e.up e.south).2).2).1.1, (next u v cos sin (eastP t.1 (mid tick k t cos sin (T k) e.up e.south).1.2.2 (T k).2.2 k.2 e.east (mid tick k t cos sin (T k) e.up e.south).2).2).1.2,
      (mid tick k t cos sin (T k) e.up e.south).1.1, (mid tick k t cos sin (T k) e.up e.south).1.2.1, (eastP t.1 (mid tick k t cos sin (T k) e.up e.south).1.2.2 (T k).2.2 k.2 e.east (mid tick k t cos sin (T k) e.up e.south).2).1,
      (next u v cos sin (eastP t.1 (mid tick k t cos sin (T k) e.up e.south).1.2.2 (T k).2.2 k.2 e.east (mid tick k t cos sin (T k) e.up e.south).2).2).2⟩ := rfl
theorem rst_is (tick : Int) (T : MK → Tri) (k : MK) (t : Int × Bool) (cos sin : Int) (e : Es) : rstP tick T k t cos sin e =
    bif k.2 == 0 then ⟨t.1, 0, 0, (mid tick k t cos sin (T k) e.up e.south).1.1, (mid tick k t cos sin (T k) e.up e.south).1.2.1, e.east, (mid tick k t cos sin (T k) e.up e.south).2⟩ else
    ⟨t.1, 0, 0, (mid tick k t cos sin (T k) e.up e.south).1.1, (mid tick k t cos sin (T k) e.up e.south).1.2.1, (eastP t.1 (mid tick k t cos sin (T k) e.up e.south).1.2.2 (T k).2.2 k.2 e.east (mid tick k t cos sin (T k) e.up e.south).2).1,
      (eastP t.1 (mid tick k t cos sin (T k) e.up e.south).1.2.2 (T k).2.2 k.2 e.east (mid tick k t cos sin (T k) e.up e.south).2).2⟩ := rfl
theorem st_rel {u v tick : Int} (hu : Bd 1099511627776 u) (hv : Bd 1099511627776 v) {T : MK → Tri} {k : MK} {m : Nat} (hm : m ≤ 6) (hk : k.2 = (m : Int)) (hT : m = 0 → (T k).2.2 = 0) {t : Int × Bool} {e e' : Es} (h1 : e.up = e'.up) (h2 : e.south = e'.south) (h3 : e.east = e'.east) (h4 : okn e.east = true) :
    Rel u v (m + 1) (stP u v tick T k t (cs u v m).1.1 (cs u v m).1.2 e) (rstP tick T k t (cs u v m).1.1 (cs u v m).1.2 e') := by
  rw [st_is, rst_is, ← h1, ← h2, ← h3]
  have hf := @mid_flag tick k t (cs u v m).1.1 (cs u v m).1.2 (T k) e.up e.south
  have hn := cs_step hu hv hm
  generalize mid tick k t (cs u v m).1.1 (cs u v m).1.2 (T k) e.up e.south = M at *
  cases hM : M.2 with
  | true =>
    rw [east_bad, next_bad]
    refine .inl ⟨rfl, ?_⟩
    cases k.2 == 0 <;> rfl
  | false =>
    obtain ⟨ht, ho⟩ := hf hM
    cases hz : (k.2 == 0) with
    | true =>
      have hk0 : k.2 = 0 := by simpa using hz
      have hm0 : m = 0 := by omega
      rw [hT hm0, hk0, east_zero ht ho h4]
      dsimp only
      rw [hn, bt]
      exact .inr ⟨rfl, rfl, rfl, rfl, rfl, rfl, h4, fun _ => rfl⟩
    | false =>
      rw [bf]
      have he := @east_ok t.1 M.1.2.2 (T k).2.2 k.2 e.east false
      generalize eastP t.1 M.1.2.2 (T k).2.2 k.2 e.east false = E at *
      cases hE : E.2 with
      | true => rw [next_bad]; exact .inl ⟨rfl, rfl⟩
      | false => rw [hn]; exact .inr ⟨rfl, rfl, rfl, rfl, rfl, rfl, (he hE).2, fun _ => rfl⟩
theorem st_bad (u v tick : Int) (T : MK → Tri) (k : MK) (t : Int) (cos sin : Int) (e : Es) : (stP u v tick T k (t, true) cos sin e).bad = true := by
  rw [st_is, mid_bad, east_bad, next_bad]
theorem rst_bad (tick : Int) (T : MK → Tri) (k : MK) (t : Int) (cos sin : Int) (e : Es) : (rstP tick T k (t, true) cos sin e).bad = true := by
  rw [rst_is, mid_bad, east_bad]
  cases k.2 == 0 <;> rfl
def eStepP (u v ratio tick : Int) (T : MK → Tri) (k : MK) (e : Es) : Es := eStep add sub mul Fx.part numP u v ratio tick T k e
def reStepP (ratio tick : Int) (C : Nat → Int × Int) (T : MK → Tri) (k : MK) (e : Es) : Es := reStep add sub mul Fx.part numP ratio tick C T k e
theorem step_rel {u v ratio tick : Int} (hu : Bd 1099511627776 u) (hv : Bd 1099511627776 v) {T : MK → Tri} {k : MK} {m m0 : Nat} (hm : m ≤ 6) (hk : k.2 = (m : Int)) (hm0 : m = 0 ∨ m = m0) (hT : m = 0 → (T k).2.2 = 0) {e e' : Es} (h : Rel u v m0 e e') :
    Rel u v (m + 1) (eStepP u v ratio tick T k e) (reStepP ratio tick (fun j => (cs u v j).1) T k e') := by
  unfold eStepP reStepP
  rw [eStep_st, reStep_st]
  have hkm : k.2.toNat = m := by omega
  rw [hkm]
  rcases h with ⟨hb, hb'⟩ | ⟨hb, hb', g1, g2, g3, g4, g5, g6⟩
  · rw [hb, hb']
    refine .inl ⟨?_, ?_⟩
    · cases k.2 == 0
      · exact st_bad ..
      · exact st_bad ..
    · cases k.2 == 0
      · exact rst_bad ..
      · exact rst_bad ..
  · rw [hb, hb', g1]
    cases hz : (k.2 == 0) with
    | true =>
      have h0 : m = 0 := by
        have : k.2 = 0 := by simpa using hz
        omega
      subst h0
      exact st_rel hu hv (by decide) hk hT g2 g3 g4 g5
    | false =>
      have hne : m ≠ 0 := fun e => by
        rw [e] at hk
        rw [hk] at hz
        simp at hz
      obtain rfl : m = m0 := hm0.resolve_left hne
      have c1 : e.cos = (cs u v m).1.1 := by rw [← g6 hne]
      have c2 : e.sin = (cs u v m).1.2 := by rw [← g6 hne]
      rw [bf, bf, bf, c1, c2]
      exact st_rel hu hv hm hk hT g2 g3 g4 g5
def okL : List MK → Nat → Bool
  | [], _ => true
  | k :: l, m => decide (0 ≤ k.2 ∧ k.2 ≤ 6) && (k.2 == 0 || k.2 == (m : Int)) && okL l (k.2.toNat + 1)
theorem fold_rel {u v ratio tick : Int} (hu : Bd 1099511627776 u) (hv : Bd 1099511627776 v) {T : MK → Tri} (hT : ∀ n, (T (n, 0)).2.2 = 0) : ∀ (l : List MK) (m0 : Nat) (e e' : Es), okL l m0 = true → Rel u v m0 e e' →
    ∃ m, Rel u v m (eFold add sub mul Fx.part numP u v ratio tick T l e) (reFold add sub mul Fx.part numP ratio tick (fun j => (cs u v j).1) T l e')
  | [], m0, e, e', _, h => ⟨m0, h⟩
  | k :: l, m0, e, e', hl, h => by
    simp only [okL, Bool.and_eq_true, Bool.or_eq_true, decide_eq_true_eq, beq_iff_eq] at hl
    obtain ⟨⟨hr, ho⟩, hl⟩ := hl
    have hk : k.2 = ((k.2.toNat : Nat) : Int) := by omega
    refine fold_rel hu hv hT l (k.2.toNat + 1) _ _ hl (step_rel hu hv (by omega) hk (by omega) (fun h0 => ?_) h)
    have : k = (k.1, 0) := Prod.ext rfl (by omega)
    rw [this]; exact hT _
/-! ### The ends, and the whole -/
def eLastP : Int → Int → Int → Int → Es → Option (AV × Bool) := eLast add sub mul
theorem eLast_bad {c s u v : Int} {e : Es} (h : e.bad = true) : eLastP c s u v e = some (V3.zero.av, true) := by
  unfold eLastP eLast
  rw [h]
  simp only [mul_badT, add_badT, sub_badT]
  rfl
theorem eLast_eq {c s u v : Int} {e e' : Es} (h0 : e.bad = e'.bad) (h1 : e.up = e'.up) (h2 : e.south = e'.south) (h3 : e.east = e'.east) : eLastP c s u v e = eLastP c s u v e' := by
  unfold eLastP eLast
  rw [h0, h1, h2, h3]
theorem leg_fold (su mu di kk : Op2) (pa : Op3) (sq : Op1) (c s : Int) (bad : Bool) (ad : Op2) : legG ad su mu di kk pa sq c s bad = rfoldT ad su mu di kk pa sq c s rounds [((0, 0), (1099511627776, 0, 0)), ((1, 1), (s, c, 1099511627776))] bad := by kernel_rfl
theorem tm_zero (c s : Int) (bad : Bool) (n : Int) : ((tmP c s bad).1 (n, 0)).2.2 = 0 := by
  have key : ∀ (l : List MK) (T : TT) (b : Bool), (∀ k ∈ l, (k ∈ below ∧ (k.1 == k.2) = false) ∨ ((k.1 == k.2) = true ∧ k.2 ≠ 0)) → Inv T → Inv (rfoldT add sub mul div rootP Fx.part sqrt c s l T b).1 := by
    intro l
    induction l with
    | nil => exact fun T b _ h => h
    | cons k l ih =>
      intro T b hl hT
      have hk := hl k (List.mem_cons_self ..)
      unfold rfoldT
      dsimp only
      refine ih _ _ (fun k hk => hl k (List.mem_cons_of_mem _ hk)) (hT.put fun h0 => ?_)
      rcases hk with hk | hk
      · exact rstep_zero hk.2 b h0
      · exact absurd h0 hk.2
  have h : Inv (legG add sub mul div rootP Fx.part sqrt c s bad).1 := by
    rw [leg_fold]; exact key rounds _ bad rounds_ok (start_inv c s)
  rw [leg_eq] at h
  unfold tmP
  generalize termsP c s bad = T at h ⊢
  exact h n
def eBodyP : Int → Int → Int → Int → Int → Int → Bool → Option (AV × Bool) := eBody add sub mul div Fx.part numP tmP
def reBodyP : Int → Int → Int → Int → Int → Int → Bool → Option (AV × Bool) := reBody add sub mul div Fx.part numP tmP
theorem eFold_bad (u v ratio tick : Int) (T : MK → Tri) : ∀ (l : List MK) (e : Es), e.bad = true → (eFold add sub mul Fx.part numP u v ratio tick T l e).bad = true
  | [], e, h => h
  | k :: l, e, h => by
    refine eFold_bad u v ratio tick T l _ ?_
    rw [eStep_st, h]
    cases k.2 == 0 <;> exact st_bad ..
theorem reFold_bad (ratio tick : Int) (C : Nat → Int × Int) (T : MK → Tri) : ∀ (l : List MK) (e : Es), e.bad = true → (reFold add sub mul Fx.part numP ratio tick C T l e).bad = true
  | [], e, h => h
  | k :: l, e, h => by
    refine reFold_bad ratio tick C T l _ ?_
    rw [reStep_st, h]
    cases k.2 == 0 <;> exact rst_bad ..
theorem tm_bad (c s : Int) : (tmP c s true).2 = true := by
  have key : ∀ (l : List MK) (T : TT), (rfoldT add sub mul div rootP Fx.part sqrt c s l T true).2 = true := by
    intro l
    induction l with
    | nil => exact fun T => rfl
    | cons k l ih =>
      intro T
      have hb : (rstepT add sub mul div rootP Fx.part sqrt c s k T true).2 = true := by
        unfold rstepT
        cases k.1 == k.2 with
        | true => rfl
        | false =>
          rw [bf, rrnd_core, (pre_bad _ _).2]
          cases k.2 == 0 <;> rfl
      unfold rfoldT
      dsimp only
      rw [hb]
      exact ih _
  have h : (legG add sub mul div rootP Fx.part sqrt c s true).2 = true := by
    rw [leg_fold]; exact key rounds _
  rw [leg_eq] at h
  unfold tmP
  generalize termsP c s true = T at h ⊢
  exact h
theorem body_bad (tick r c s u v : Int) : eBodyP tick r c s u v true = some (V3.zero.av, true) ∧ reBodyP tick r c s u v true = some (V3.zero.av, true) := by
  have hcs : ∀ m, (csn add sub mul u v true m).2 = true := by
    intro m
    induction m with
    | zero => rfl
    | succ m ih =>
      rw [csn_next, ih]
      exact congrArg Prod.snd (next_bad ..)
  constructor
  · unfold eBodyP eBody
    dsimp only
    rw [tm_bad]
    exact eLast_bad (eFold_bad _ _ _ _ _ _ _ rfl)
  · unfold reBodyP reBody
    dsimp only
    rw [hcs 6, tm_bad]
    exact eLast_bad (reFold_bad _ _ _ _ _ _ rfl)
theorem body_eq {tick r c s u v : Int} (hu : Bd 1099511627776 u) (hv : Bd 1099511627776 v) : reBodyP tick r c s u v false = eBodyP tick r c s u v false := by
  have h6 : (csn add sub mul u v false 6).2 = false := (cs_ok hu hv 6 (by decide)).1
  unfold eBodyP eBody reBodyP reBody
  dsimp only
  rw [h6]
  generalize hT : tmP c s false = T
  have hz : ∀ n, (T.1 (n, 0)).2.2 = 0 := fun n => by rw [← hT]; exact tm_zero c s false n
  generalize div 7005208482886 r T.2 = ratio
  generalize mul ratio.1 ratio.1 ratio.2 = t0
  obtain ⟨t0, b⟩ := t0
  cases b with
  | true =>
    exact (eLast_bad (reFold_bad _ _ _ _ _ _ rfl)).trans (eLast_bad (eFold_bad _ _ _ _ _ _ _ rfl)).symm
  | false =>
    obtain ⟨m, h⟩ := fold_rel (ratio := ratio.1) (tick := tick) hu hv (T := T.1) hz keys27 0 ⟨t0, 0, 0, 0, 0, 0, false⟩ ⟨t0, 0, 0, 0, 0, 0, false⟩ (by decide) (.inr ⟨rfl, rfl, rfl, rfl, rfl, rfl, (show okn 0 = true from by decide), fun h => absurd rfl h⟩)
    change eLastP c s u v _ = eLastP c s u v _
    rcases h with ⟨a1, a2⟩ | ⟨a1, a2, a3, a4, a5, a6, -⟩
    · rw [eLast_bad a1]
      exact eLast_bad a2
    · exact eLast_eq (a2.trans a1.symm) a4.symm a5.symm a6.symm
#print axioms body_eq
end Go.Proofs.Ytlkclpkpggapbaa.Fd
