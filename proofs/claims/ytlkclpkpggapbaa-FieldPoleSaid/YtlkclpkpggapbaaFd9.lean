/- The terms of the field, the program's and the reference's: the same plain function; their contracts. Conditions: none. -/
import Derived.Test.YtlkclpkpggapbaaFd4
import Derived.Test.YtlkclpkpggapbaaFd8
import Derived.Test.YtlkclpkpggapbaaNx3
namespace Go.Proofs.Ytlkclpkpggapbaa.Fd
open Go Go.Proofs.Ytlkclpkpggapbaa.Ae Go.Proofs.Ytlkclpkpggapbaa.Fx Go.Proofs.Ytlkclpkpggapbaa.Lx Go.Proofs.Ytlkclpkpggapbaa.Tx Go.Proofs.Ytlkclpkpggapbaa.Te Go.Proofs.Ytlkclpkpggapbaa.Rx Go.Proofs.Ytlkclpkpggapbaa.Row Go.Proofs.Ytlkclpkpggapbaa.Ve Go.Proofs.Ytlkclpkpggapbaa.Nx

/-! ### Roots of the differences of squares -/
def rootG (sq : Op1) (a b : Int) (bad : Bool) : Int × Bool := sq (wr .i64 (wr .i64 (wr .i64 (a * a) - wr .i64 (b * b)) * 1099511627776)) bad
theorem root_raw (sq : Op1) (a b : Int) (tb : TypeId) (y : Bool) : acall Try.prog [(57, m1 25 sq)] 200 56 [I a, I b, .ptr 0 0] [.cells [.ptr 1 0] tb, .cells [.bool y] 25] (cloK tb 25) =
    bif Nat.beq tb tb && true && true then some (I (rootG sq a b y).1, (rootG sq a b y).2) else none := by kernel_rfl
theorem rk_raw (sq : Op1) (a b : Int) (y : Bool) : acall Try.prog [(64, m1 27 sq)] 200 63 [.ptr 0 0, I a, I b] [.cells [.bool y] 27] (flowK 27) = some (I (rootG sq a b y).1, (rootG sq a b y).2) := by kernel_rfl
def rootP : Op2 := rootG sqrt
theorem root_con : EffOk Try.prog 56 (fun _ => true) (cloSpec 25 (int2 rootP)) := by
  refine clo_of (EnvOk.f ok_nil en_fSqrt sqrt_con) 200 _ _ _ ?_
  intro a b g h tb y
  obtain ⟨a', b', he, hg⟩ := int2_some h
  simp only [List.cons.injEq, and_true] at he
  obtain ⟨rfl, rfl⟩ := he
  rw [root_raw sqrt a' b' tb y, Nat.beq_refl, Bool.and_self, Bool.and_self, bt]
  exact (hg y).symm
theorem rk_con : RMeth 63 (int2 rootP) := by
  refine flow_of (EnvOk.f ok_nil en_rSqrt rsqrt_con) 200 _ _ (fun _ => true) _ ?_
  intro args g _ h bad
  obtain ⟨a, b, rfl, hg⟩ := int2_some h
  exact (rk_raw sqrt a b bad).trans (hg bad).symm

/-! ### The two ways are one -/
abbrev Pre := (Int × Int) × Bool
def below : List MK := [(1, 0), (2, 0), (2, 1), (3, 0), (3, 1), (3, 2), (4, 0), (4, 1), (4, 2), (4, 3), (5, 0), (5, 1), (5, 2), (5, 3), (5, 4), (6, 0), (6, 1), (6, 2), (6, 3), (6, 4), (6, 5)]
section
variable (su mu di rt : Op2) (pa : Op3)
def preGP (n m : Int) (bad : Bool) : Pre :=
  let r1 := rt (n - 1) m bad
  let r2 := rt n m r1.2
  let a := di r1.1 r2.1 r2.2
  let p1 := pa 1099511627776 (2 * n - 1) 1 a.2
  let r3 := rt n m p1.2
  let b := di p1.1 r3.1 r3.2
  ((a.1, b.1), b.2)
def preGR (n m : Int) (bad : Bool) : Pre :=
  let r := rt n m bad
  let k1 := rt (n - 1) m r.2
  let a := di k1.1 r.1 k1.2
  let p1 := pa 1099511627776 (2 * n - 1) 1 a.2
  let b := di p1.1 r.1 p1.2
  ((a.1, b.1), b.2)
def coreDG (c s : Int) (x y : Tri) (q : Pre) : (Int × Int) × Bool :=
  let t1 := mu c x.1 q.2
  let t2 := mu q.1.2 t1.1 t1.2
  let t3 := mu q.1.1 y.1 t2.2
  let P := su t2.1 t3.1 t3.2
  let u1 := mu c x.2.1 P.2
  let u2 := mu s x.1 u1.2
  let u3 := su u1.1 u2.1 u2.2
  let u4 := mu q.1.2 u3.1 u3.2
  let u5 := mu q.1.1 y.2.1 u4.2
  let D := su u4.1 u5.1 u5.2
  ((P.1, D.1), D.2)
def coreG (z : Bool) (c s : Int) (x y : Tri) (q : Pre) : Tri × Bool :=
  let d := coreDG su mu c s x y q
  bif z then ((d.1.1, d.1.2, 0), d.2) else
  let v1 := mu c x.2.2 d.2
  let v2 := mu q.1.2 v1.1 v1.2
  let v3 := mu q.1.1 y.2.2 v2.2
  let Qq := su v2.1 v3.1 v3.2
  ((d.1.1, d.1.2, Qq.1), Qq.2)
theorem rnd_coreG (c s n m : Int) (x y : Tri) (bad : Bool) : rndG su mu di rt pa c s n m x y bad = coreG su mu false c s x y (preGP di rt pa n m bad) := by kernel_rfl
theorem rrnd_coreG (c s n m : Int) (x y : Tri) (bad : Bool) : rrndG su mu di rt pa c s n m x y bad = coreG su mu (m == 0) c s x y (preGR di rt pa n m bad) := by kernel_rfl
end
def preP : Int → Int → Bool → Pre := preGP div rootP Fx.part
def preR : Int → Int → Bool → Pre := preGR div rootP Fx.part
theorem root_bad (n m : Int) : rootP n m true = (0, true) := rfl
theorem pre_bad (n m : Int) : preP n m true = ((0, 0), true) ∧ preR n m true = ((0, 0), true) := ⟨rfl, rfl⟩
theorem pre_ok : ∀ k ∈ below, preP k.1 k.2 false = preR k.1 k.2 false := by
  intro k hk
  simp only [below, List.mem_cons, List.not_mem_nil, or_false] at hk
  rcases hk with rfl | rfl | rfl | rfl | rfl | rfl | rfl | rfl | rfl | rfl | rfl | rfl | rfl | rfl | rfl | rfl | rfl | rfl | rfl | rfl | rfl <;> (change _ = _; kernel_rfl)
theorem pre_eq {k : MK} (hk : k ∈ below) (bad : Bool) : preP k.1 k.2 bad = preR k.1 k.2 bad := by
  cases bad
  · exact pre_ok k hk
  · rw [(pre_bad _ _).1, (pre_bad _ _).2]
def coreD : Int → Int → Tri → Tri → Pre → (Int × Int) × Bool := coreDG sub mul
def core : Bool → Int → Int → Tri → Tri → Pre → Tri × Bool := coreG sub mul
theorem rnd_core (c s n m : Int) (x y : Tri) (bad : Bool) : rndG sub mul div rootP Fx.part c s n m x y bad = core false c s x y (preP n m bad) := rnd_coreG sub mul div rootP Fx.part c s n m x y bad
theorem rrnd_core (c s n m : Int) (x y : Tri) (bad : Bool) : rrndG sub mul div rootP Fx.part c s n m x y bad = core (m == 0) c s x y (preR n m bad) := rrnd_coreG sub mul div rootP Fx.part c s n m x y bad
theorem mul_flag {a b : Int} {bad : Bool} (h : (mul a b bad).2 = false) : bad = false ∧ okn a = true ∧ okn b = true := by
  unfold mul at h
  obtain ⟨h1, h2, -⟩ := lift_got h
  exact ⟨h1, h2 a (by simp), h2 b (by simp)⟩
theorem sub_flag {a b : Int} {bad : Bool} (h : (sub a b bad).2 = false) : bad = false ∧ okn a = true ∧ okn b = true ∧ okn (sub a b bad).1 = true := by
  unfold sub at h ⊢
  obtain ⟨h1, h2, r, h3, h4⟩ := lift_got h
  refine ⟨h1, h2 a (by simp), h2 b (by simp), ?_⟩
  rw [h4]
  split at h3
  · rename_i hk; cases h3; exact hk
  · cases h3
theorem add_flag {a b : Int} {bad : Bool} (h : (add a b bad).2 = false) : bad = false ∧ okn a = true ∧ okn b = true ∧ okn (add a b bad).1 = true := by
  unfold add at h ⊢
  obtain ⟨h1, h2, r, h3, h4⟩ := lift_got h
  refine ⟨h1, h2 a (by simp), h2 b (by simp), ?_⟩
  rw [h4]
  split at h3
  · rename_i hk; cases h3; exact hk
  · cases h3
theorem rat_zero (c : Int) (hc : c ≠ 0) : rat 0 c 1099511627776 = some 0 ∧ rat c 0 1099511627776 = some 0 := by
  constructor
  · unfold rat
    rw [if_neg (by decide)]
    simp [sgn3]
  · unfold rat
    rw [if_neg (by decide)]
    simp [sgn3]
theorem mul_zero' {a : Int} (h : okn a = true) : mul a 0 false = (0, false) := by
  unfold mul
  rw [lift2 h (by decide)]
  unfold rat
  rw [if_neg (by decide)]
  simp [sgn3, resB]
theorem mul_badT (a b : Int) : mul a b true = (0, true) := rfl
theorem sub_badT (a b : Int) : sub a b true = (0, true) := rfl
theorem add_badT (a b : Int) : add a b true = (0, true) := rfl
theorem part_badT (a b c : Int) : Fx.part a b c true = (0, true) := rfl
theorem coreD_flag {c s : Int} {x y : Tri} {q : Pre} (h : (coreD c s x y q).2 = false) : okn c = true ∧ okn q.1.1 = true ∧ okn q.1.2 = true := by
  unfold coreD coreDG at h
  dsimp only at h
  obtain ⟨h5, -⟩ := sub_flag h
  obtain ⟨h4, ka, -⟩ := mul_flag h5
  obtain ⟨h3, kb, -⟩ := mul_flag h4
  obtain ⟨h2, -⟩ := sub_flag h3
  obtain ⟨h1, -⟩ := mul_flag h2
  obtain ⟨-, kc, -⟩ := mul_flag h1
  exact ⟨kc, ka, kb⟩
theorem core_zero (c s : Int) (x y : Tri) (q : Pre) (hx : x.2.2 = 0) (hy : y.2.2 = 0) : core false c s x y q = core true c s x y q := by
  unfold core coreG
  dsimp only
  rw [hx, hy, bf, bt]
  change (let v1 := mul c 0 (coreD c s x y q).2; let v2 := mul q.1.2 v1.1 v1.2; let v3 := mul q.1.1 0 v2.2; let Qq := sub v2.1 v3.1 v3.2; (((coreD c s x y q).1.1, (coreD c s x y q).1.2, Qq.1), Qq.2)) = (((coreD c s x y q).1.1, (coreD c s x y q).1.2, 0), (coreD c s x y q).2)
  dsimp only
  cases hD : (coreD c s x y q).2 with
  | true => simp only [mul_badT, sub_badT]
  | false =>
    obtain ⟨kc, ka, kb⟩ := coreD_flag hD
    rw [mul_zero' kc]
    dsimp only
    rw [mul_zero' kb]
    dsimp only
    rw [mul_zero' ka]
    dsimp only
    have : sub 0 0 false = (0, false) := by kernel_rfl
    rw [this]
/-- The entries of order 0 bear nothing without one sine. -/
def Inv (T : TT) : Prop := ∀ n, (lookT (n, 0) T).2.2 = 0
theorem look_put {k k' : MK} {v : Tri} : ∀ {T : TT}, lookT k' (putT' k v T) = lookT k' T ∨ (k' = k ∧ lookT k' (putT' k v T) = v)
  | [] => by
    unfold putT' lookT
    cases hb : keqB k' k with
    | true => exact .inr ⟨keq_iff.1 hb, rfl⟩
    | false => exact .inl rfl
  | e :: T => by
    unfold putT'
    cases kltB k e.1 with
    | true =>
      rw [bt]
      by_cases h : k' = k
      · refine .inr ⟨h, ?_⟩
        unfold lookT
        rw [keq_iff.2 h, bt]
      · refine .inl ?_
        have hb : keqB k' k = false := by
          cases hb : keqB k' k with
          | false => rfl
          | true => exact absurd (keq_iff.1 hb) h
        conv => lhs; unfold lookT
        rw [hb, bf]
    | false =>
      rw [bf]
      obtain ⟨ek, ev⟩ := e
      unfold lookT
      cases keqB k' ek with
      | true => exact .inl rfl
      | false => simp only [bf]; exact look_put
theorem Inv.put {T : TT} (h : Inv T) {k : MK} {v : Tri} (hv : k.2 = 0 → v.2.2 = 0) : Inv (putT' k v T) := by
  intro n
  rcases look_put (k := k) (k' := (n, 0)) (v := v) (T := T) with e | ⟨hk, e⟩
  · rw [e]; exact h n
  · rw [e]; exact hv (by rw [← hk])
theorem step_eq {c s : Int} {T : TT} (hT : Inv T) {k : MK} (hk : k ∈ below ∨ (k.1 == k.2) = true) (bad : Bool) : stepT add sub mul div rootP Fx.part sqrt c s k T bad = rstepT add sub mul div rootP Fx.part sqrt c s k T bad := by
  unfold stepT rstepT
  cases h : (k.1 == k.2) with
  | true => rw [bt, bt]
  | false =>
    rw [bf, bf, rnd_core, rrnd_core]
    rcases hk with hk | hk
    · rw [pre_eq hk]
      cases hz : (k.2 == 0) with
      | false => rfl
      | true =>
        have h0 : k.2 = 0 := by simpa using hz
        rw [h0]
        exact core_zero _ _ _ _ _ (hT _) (hT _)
    · rw [h] at hk; cases hk
theorem rstep_zero {c s : Int} {T : TT} {k : MK} (hk : (k.1 == k.2) = false) (bad : Bool) (h0 : k.2 = 0) : (rstepT add sub mul div rootP Fx.part sqrt c s k T bad).1.2.2 = 0 := by
  unfold rstepT
  rw [hk, bf, rrnd_core, h0]
  rfl
theorem fold_eq (c s : Int) : ∀ (l : List MK) (T : TT) (bad : Bool), (∀ k ∈ l, (k ∈ below ∧ (k.1 == k.2) = false) ∨ ((k.1 == k.2) = true ∧ k.2 ≠ 0)) → Inv T → foldT add sub mul div rootP Fx.part sqrt c s l T bad = rfoldT add sub mul div rootP Fx.part sqrt c s l T bad
  | [], T, bad, _, _ => rfl
  | k :: l, T, bad, hl, hT => by
    have hk := hl k (List.mem_cons_self ..)
    unfold foldT rfoldT
    dsimp only
    rw [step_eq hT (hk.imp (·.1) (·.1))]
    refine fold_eq c s l _ _ (fun k hk => hl k (List.mem_cons_of_mem _ hk)) (hT.put fun h0 => ?_)
    rcases hk with hk | hk
    · exact rstep_zero hk.2 bad h0
    · exact absurd h0 hk.2
def termsP (c s : Int) (bad : Bool) : TT × Bool := termsG add sub mul div rootP Fx.part sqrt c s bad
theorem rounds_ok : ∀ k ∈ rounds, (k ∈ below ∧ (k.1 == k.2) = false) ∨ ((k.1 == k.2) = true ∧ k.2 ≠ 0) := by
  intro k hk
  simp only [rounds, List.mem_cons, List.not_mem_nil, or_false] at hk
  rcases hk with rfl | rfl | rfl | rfl | rfl | rfl | rfl | rfl | rfl | rfl | rfl | rfl | rfl | rfl | rfl | rfl | rfl | rfl | rfl | rfl | rfl | rfl | rfl | rfl | rfl | rfl <;> first | exact .inl ⟨by decide, by decide⟩ | exact .inr ⟨by decide, by decide⟩
theorem start_inv (c s : Int) : Inv [((0, 0), (1099511627776, 0, 0)), ((1, 1), (s, c, 1099511627776))] := by
  intro n
  unfold lookT
  cases keqB (n, 0) (0, 0) with
  | true => rfl
  | false =>
    rw [bf]
    unfold lookT
    have : keqB (n, 0) (1, 1) = false := by
      unfold keqB
      simp
    rw [this, bf]; rfl
theorem leg_eq (c s : Int) (bad : Bool) : legG add sub mul div rootP Fx.part sqrt c s bad = termsP c s bad := by
  unfold legG termsP termsG
  exact (fold_eq c s rounds _ bad rounds_ok (start_inv c s)).symm

/-! ### Contracts -/
def tmP : TmF := fun c s bad => (fun k => lookT k (termsP c s bad).1, (termsP c s bad).2)
theorem keys_nodup : keys28.Nodup := by decide
theorem tt_tab : ∀ (T : TT), (T.map Prod.fst).Nodup → ttAV T = (T.map Prod.fst).map fun k => (k, triAV (lookT k T))
  | [], _ => rfl
  | (k, v) :: T, h => by
    simp only [List.map_cons, List.nodup_cons] at h
    have ih := tt_tab T h.2
    unfold ttAV at ih ⊢
    simp only [List.map_cons]
    congr 1
    · unfold lookT
      rw [keq_iff.2 rfl, bt]
    · rw [ih]
      refine List.map_congr_left fun k' hk' => ?_
      have hb : keqB k' k = false := by
        cases hb : keqB k' k with
        | false => rfl
        | true => exact absurd ((keq_iff.1 hb) ▸ hk') h.1
      conv => rhs; unfold lookT
      rw [hb, bf]
section
variable (ad su mu di rt : Op2) (pa : Op3) (sq : Op1)
theorem terms_keys (c s : Int) (bad : Bool) : (termsG ad su mu di rt pa sq c s bad).1.map Prod.fst = keys28 := by kernel_rfl
end
theorem tab_key (T : TT) (h : T.map Prod.fst = keys28) : ttAV T = tabOf fun k => lookT k T := by
  rw [tt_tab T (by rw [h]; exact keys_nodup), h]
  rfl
theorem terms_pair (c s : Int) (bad : Bool) : some (ttAV (termsG add sub mul div rootP Fx.part sqrt c s bad).1, (termsG add sub mul div rootP Fx.part sqrt c s bad).2) = some (tabOf (tmP c s bad).1, (tmP c s bad).2) := by
  have h := terms_keys add sub mul div rootP Fx.part sqrt c s bad
  unfold tmP termsP
  generalize termsG add sub mul div rootP Fx.part sqrt c s bad = T at h ⊢
  obtain ⟨T, b⟩ := T
  dsimp only at h ⊢
  rw [tab_key T h]
theorem map_of {P : Program} {env : Env} (hE : EnvOk P env) (fuel : Nat) (f : FuncId) (tm : TmF)
    (h : ∀ c s y, acall P env fuel f [.ptr 0 0, I c, I s] [.cells [.bool y] 25] KT = some (tabOf (tm c s y).1, (tm c s y).2)) : EffOk P f anyArgs (tmSpec tm) := by
  intro args H v H' _ hv m Args w hA hH
  unfold tmSpec at hv
  split at hv
  · rename_i _ j c s _
    split at hv
    · rename_i y t hj
      cases hb : Nat.beq t 25 with
      | false => rw [hb] at hv; cases hv
      | true =>
        rw [hb] at hv
        obtain rfl := Nat.eq_of_beq_eq_true hb
        simp only [cond_true, Option.some.injEq, Prod.mk.injEq] at hv
        obtain ⟨rfl, rfl⟩ := hv
        obtain ⟨cj, oj, hcj, hwj, hBj⟩ := hH.at_ j hj
        have hH1 : HR [cj] [.cells [.bool y] 25] w := by
          refine ⟨rfl, ?_, fun i B hB' _ => ?_⟩
          · intro i j' b' B C h1 h2 _ _ _ _
            rcases i with _ | i <;> rcases j' with _ | j' <;> simp at h1 h2 <;> rfl
          · rcases i with _ | i
            · simp at hB'
              subst hB'
              obtain ⟨Vs, h1, h2⟩ := hBj
              exact ⟨cj, oj, by simp, hwj, ⟨Vs, h1, RL_noPtr _ (by simp [AV.noPtrL, AV.noPtr]) h2⟩, trivial⟩
            · simp at hB'
        have hA1 : RL [cj] [.ptr 0 0, I c, I s] Args.toList := by
          obtain ⟨V0, V1, e0, h0, h1⟩ := RL_cons.1 hA
          rw [e0]
          refine RL.cons ?_ (RL_noPtr _ (by simp [AV.noPtrL, AV.noPtr]) h1)
          simp only [R] at h0 ⊢
          obtain ⟨c', hc', e⟩ := h0
          rw [hcj] at hc'; cases hc'
          exact ⟨cj, by simp, e⟩
        refine (acall_ok hE (h c s y) hA1 hH1).mono fun e w' ⟨v', V, m', H', e1, e2, e3, e4, e5⟩ => ?_
        unfold KT at e5
        split at e5
        · rename_i i
          split at e5
          · rename_i es b' t' hi h0
            cases hb' : Nat.beq t' 25 with
            | false => rw [hb'] at e5; cases e5
            | true =>
              rw [hb'] at e5
              obtain rfl := Nat.eq_of_beq_eq_true hb'
              simp only [cond_true, Option.some.injEq, Prod.mk.injEq] at e5
              obtain ⟨rfl, rfl⟩ := e5
              obtain ⟨xs, hxs, hxss⟩ := e4.pre
              obtain ⟨c2, o2, hc2, hw2, hB2⟩ := e3.at_ 0 h0
              have hc2' : c2 = cj := by rw [hxs] at hc2; simpa using hc2.symm
              subst hc2'
              obtain ⟨b, o3, hcb, hwb, hB3⟩ := e3.at_ i hi
              have hbne : b ≠ c2 := fun e => by
                subst e
                have := e3.nodup _ _ _ _ _ hc2 hcb h0 hi rfl rfl
                subst this
                rw [h0] at hi; cases hi
              have hbw : w.heap.size ≤ b := by
                have hmem : b ∈ xs := by
                  have := List.mem_of_getElem? hcb
                  rw [hxs] at this
                  rcases List.mem_append.1 this with h | h
                  · simp at h; exact absurd h hbne
                  · exact h
                rcases hxss b hmem with h | h
                · exact h
                · simp at h; exact absurd h hbne
              have ptrV : V = .map (some b) := by
                simp only [R] at e2
                obtain ⟨b', h1, h2⟩ := e2
                rw [hcb] at h1; cases h1
                exact h2
              have live : ∀ {i' : Nat} {B : AB}, (H.set j (.cells [.bool (tm c s y).2] 25))[i']? = some B → B.live = true → ∃ B', H[i']? = some B' ∧ B'.live = true := fun {i' B} hB' hl => by
                by_cases hij : j = i'
                · subst hij; exact ⟨_, hj, rfl⟩
                · rw [List.getElem?_set_ne hij] at hB'; exact ⟨B, hB', hl⟩
              have hHs : HR m (H.set j (.cells [.bool (tm c s y).2] 25)) w' := by
                refine ⟨by simp [hH.len], ?_, ?_⟩
                · intro i' j' b3 B C h1 h2 h3 h4 h5 h6
                  obtain ⟨B', b1, b2⟩ := live h3 h5
                  obtain ⟨C', d1, d2⟩ := live h4 h6
                  exact hH.nodup i' j' b3 B' C' h1 h2 b1 d1 b2 d2
                · intro i' B hB' hl
                  by_cases hij : j = i'
                  · subst hij
                    have hlt : j < H.length := (List.getElem?_eq_some_iff.1 hj).1
                    simp [hlt] at hB'
                    subst hB'
                    obtain ⟨Vs', h1, h2⟩ := hB2
                    exact ⟨c2, o2, hcj, hw2, ⟨Vs', h1, RL_noPtr _ (by simp [AV.noPtrL, AV.noPtr]) h2⟩, trivial⟩
                  · rw [List.getElem?_set_ne hij] at hB'
                    obtain ⟨c4, o4, h1, h2, h3, h4⟩ := hH.all i' B hB' hl
                    refine ⟨c4, o4, h1, ?_, h3, h4⟩
                    have hlt3 := (Array.getElem?_eq_some_iff.1 h2).1
                    rw [e4.block c4 hlt3 (by simp; intro e; subst e; exact hij (hH.nodup _ _ _ _ _ hcj h1 hj hB' rfl hl))]
                    exact h2
              have hEx : Ext m w m w' := ⟨⟨[], by simp⟩, e4.os, e4.tape, e4.output, e4.size, fun k hk hkm => e4.block k hk (by simp; intro e; subst e; exact hkm (List.mem_of_getElem? hcj))⟩
              refine ⟨V, m ++ [b], e1, ?_, ?_, ⟨⟨[b], rfl, fun b' hb' => by simp at hb'; subst hb'; exact .inl hbw⟩, e4.os, e4.tape, e4.output, e4.size, hEx.block⟩⟩
              · rw [ptrV]
                simp only [R]
                exact ⟨b, by rw [← hH.len]; simp, rfl⟩
              · refine hHs.grow (by simp) (fun _ _ _ _ _ _ => rfl) ?_ ?_ ?_
                · intro j' b2 B h1 h2 _ i' C h3 h4 h5
                  rcases j' with _ | j'
                  · simp at h1
                    subst h1
                    obtain ⟨C', d1, d2⟩ := live h4 h5
                    have := hH.lt h3 d1 d2
                    omega
                  · simp at h1
                · intro i' j' b2 B C h1 h2 _ _ _ _
                  rcases i' with _ | i' <;> rcases j' with _ | j' <;> simp at h1 h2 <;> rfl
                · intro j' B hB' _
                  rcases j' with _ | j'
                  · simp at hB'
                    subst hB'
                    obtain ⟨ess, clock, es', q1, q2, q3, q4⟩ := hB3
                    refine ⟨b, o3, by simp, hwb, ⟨ess, clock, es', q1, q2, ?_, q4⟩, trivial⟩
                    have hnp : ∀ e ∈ es', e.2.noPtr = true := fun e he => by
                      have := q2.mem_iff.1 he
                      unfold tabOf at this
                      obtain ⟨k, _, rfl⟩ := List.mem_map.1 this
                      rfl
                    have key : ∀ (l : List (MK × AV)) (ess : List MapEntry), (∀ e ∈ l, e.2.noPtr = true) → RE m' true l ess → RE (m ++ [b]) true l ess := by
                      intro l
                      induction l with
                      | nil => exact fun ess _ h => h
                      | cons e l ih =>
                        intro ess hl hr
                        obtain ⟨k, v⟩ := e
                        obtain ⟨e', es2, r1, r2, r3, r4⟩ := hr
                        exact ⟨e', es2, r1, r2, R_noPtr v (hl _ (List.mem_cons_self ..)) r3, ih es2 (fun e he => hl e (List.mem_cons_of_mem _ he)) r4⟩
                    exact key es' ess hnp q3
                  · simp at hB'
          · cases e5
        · cases e5
    · cases hv
  · cases hv
theorem terms_con : EffOk Try.prog 33 anyArgs (tmSpec tmP) := by
  refine map_of (EnvOk.f (EnvOk.f (EnvOk.f (EnvOk.f (EnvOk.f (EnvOk.f (EnvOk.clo ok_nil (enter_of Try.func56 (by kernel_rfl) rfl) root_con) en_fPart part_con) Fx.en_div div_meth) Fx.en_mul mul_con) Fx.en_sub sub_con) en_fAdd add_con) en_fSqrt sqrt_con) 2000 _ _ ?_
  intro c s y
  refine (terms_raw add sub mul div rootP Fx.part sqrt c s y).trans ?_
  exact terms_pair c s y
theorem lgF_some {lg : TmF} {args : List AV} {g : Bool → AV × Bool} (h : lgF lg args = some g) : ∃ c s, args = [I c, I s] ∧ ∀ bad, g bad = (.tup [arrOf fun k => ((lg c s bad).1 k).1, arrOf fun k => ((lg c s bad).1 k).2.1, arrOf fun k => ((lg c s bad).1 k).2.2], (lg c s bad).2) := by
  unfold lgF at h
  split at h <;> cases h
  exact ⟨_, _, rfl, fun _ => rfl⟩
theorem leg_con : RMeth 38 (lgF tmP) := by
  refine flow_of (EnvOk.f (EnvOk.f (EnvOk.f (EnvOk.f (EnvOk.f (EnvOk.f (EnvOk.f ok_nil (enter_of Try.func63 (by kernel_rfl) rfl) rk_con) en_rPart rpart_con) en_rDiv rdiv_con) en_rMul rmul_con) en_rSub rsub_con) en_rAdd radd_con) en_rSqrt rsqrt_con) 2000 _ _ (fun _ => true) _ ?_
  intro args g _ h bad
  obtain ⟨c, s, rfl, hg⟩ := lgF_some h
  refine (leg_raw add sub mul div rootP Fx.part sqrt c s bad).trans ?_
  rw [leg_eq, hg bad]
  unfold tmP
  generalize termsP c s bad = T
  rfl
#print axioms terms_con
#print axioms leg_con
end Go.Proofs.Ytlkclpkpggapbaa.Fd
