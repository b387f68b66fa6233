/- The reference's terms of the field, as the interpreter finds them. Conditions: none. -/
import Derived.Test.YtdojnnlhaiennaaGreatKn
import Derived.Test.YtdojnnlhaiennaaGreatKg
import Derived.Test.YtdojnnlhaiennaaGreatKo
import Derived.Test.YtdojnnlhaiennaaGreatKi
import Derived.Test.YtdojnnlhaiennaaGreatKj
import Derived.Test.YtdojnnlhaiennaaGreatKm
namespace Go.Proofs.YtdojnnlhaiennaaGreat.Fd
open Go Go.Proofs.YtdojnnlhaiennaaGreat.Ae Go.Proofs.YtdojnnlhaiennaaGreat.Fx Go.Proofs.YtdojnnlhaiennaaGreat.Lx Go.Proofs.YtdojnnlhaiennaaGreat.Tx Go.Proofs.YtdojnnlhaiennaaGreat.Te Go.Proofs.YtdojnnlhaiennaaGreat.Rx Go.Proofs.YtdojnnlhaiennaaGreat.Row Go.Proofs.YtdojnnlhaiennaaGreat.Ve
section
variable (ad su mu di kk : Op2) (pa : Op3) (sq : Op1) (c s : Int)
end
end Go.Proofs.YtdojnnlhaiennaaGreat.Fd

/- The reference's field in the Earth's axes, as the interpreter finds it. Conditions: none. -/
namespace Go.Proofs.YtdojnnlhaiennaaGreat.Fd
open Go Go.Proofs.YtdojnnlhaiennaaGreat.Ae Go.Proofs.YtdojnnlhaiennaaGreat.Fx Go.Proofs.YtdojnnlhaiennaaGreat.Lx Go.Proofs.YtdojnnlhaiennaaGreat.Tx Go.Proofs.YtdojnnlhaiennaaGreat.Te Go.Proofs.YtdojnnlhaiennaaGreat.Rx Go.Proofs.YtdojnnlhaiennaaGreat.Row Go.Proofs.YtdojnnlhaiennaaGreat.Ve
section
variable (ad su mu di : Op2) (pa nr : Op3) (nu : Op3p) (lg : TmF) (da : Op1)
def csn (u v : Int) (bad : Bool) : Nat → (Int × Int) × Bool
  | 0 => ((1099511627776, 0), bad)
  | m + 1 =>
    let p := csn u v bad m
    let d1 := mu p.1.1 u p.2
    let d2 := mu p.1.2 v d1.2
    let d := su d1.1 d2.1 d2.2
    let d3 := mu p.1.2 u d.2
    let d4 := mu p.1.1 v d3.2
    let d' := ad d3.1 d4.1 d4.2
    ((d.1, d'.1), d'.2)
end
end Go.Proofs.YtdojnnlhaiennaaGreat.Fd

/- Plain facts on rounded quotients: how near they are, and when they are there. Conditions: as each says. -/
namespace Go.Proofs.YtdojnnlhaiennaaGreat.Nx
open Go Go.Proofs.YtdojnnlhaiennaaGreat.Ae Go.Proofs.YtdojnnlhaiennaaGreat.Fx

theorem okn_iff' {n : Int} : okn n = true ↔ -4611686018427387904 ≤ n ∧ n ≤ 4611686018427387904 := by
  unfold okn; simp

end Go.Proofs.YtdojnnlhaiennaaGreat.Nx

/- Plain facts on lengths. Conditions: none. -/
namespace Go.Proofs.YtdojnnlhaiennaaGreat.Nx
open Go Go.Proofs.YtdojnnlhaiennaaGreat.Ae Go.Proofs.YtdojnnlhaiennaaGreat.Fx

end Go.Proofs.YtdojnnlhaiennaaGreat.Nx

/- The terms of the field, the program's and the reference's: the same plain function; their contracts. Conditions: none. -/
namespace Go.Proofs.YtdojnnlhaiennaaGreat.Fd
open Go Go.Proofs.YtdojnnlhaiennaaGreat.Ae Go.Proofs.YtdojnnlhaiennaaGreat.Fx Go.Proofs.YtdojnnlhaiennaaGreat.Lx Go.Proofs.YtdojnnlhaiennaaGreat.Tx Go.Proofs.YtdojnnlhaiennaaGreat.Te Go.Proofs.YtdojnnlhaiennaaGreat.Rx Go.Proofs.YtdojnnlhaiennaaGreat.Row Go.Proofs.YtdojnnlhaiennaaGreat.Ve Go.Proofs.YtdojnnlhaiennaaGreat.Nx

/-! ### Roots of the differences of squares -/
def rootG (sq : Op1) (a b : Int) (bad : Bool) : Int × Bool := sq (wr .i64 (wr .i64 (wr .i64 (a * a) - wr .i64 (b * b)) * 1099511627776)) bad
theorem root_raw (sq : Op1) (a b : Int) (tb : TypeId) (y : Bool) : acall Tryz.prog [(126, m1 112 sq)] 200 203 [I a, I b, .ptr 0 0] [.cells [.ptr 1 0] tb, .cells [.bool y] 112] (cloK tb 112) =
    bif Nat.beq tb tb && true && true then some (I (rootG sq a b y).1, (rootG sq a b y).2) else none := by kernel_rfl
def rootP : Op2 := rootG sqrt
theorem root_con : EffOk Tryz.prog 203 (fun _ => true) (cloSpec 112 (int2 rootP)) := by
  refine clo_of (EnvOk.f ok_nil en_fSqrt sqrt_con) 200 _ _ _ ?_
  intro a b g h tb y
  obtain ⟨a', b', he, hg⟩ := int2_some h
  simp only [List.cons.injEq, and_true] at he
  obtain ⟨rfl, rfl⟩ := he
  rw [root_raw sqrt a' b' tb y, Nat.beq_refl, Bool.and_self, Bool.and_self, bt]
  exact (hg y).symm
/-! ### The two ways are one -/
def below : List MK := [(1, 0), (2, 0), (2, 1), (3, 0), (3, 1), (3, 2), (4, 0), (4, 1), (4, 2), (4, 3), (5, 0), (5, 1), (5, 2), (5, 3), (5, 4), (6, 0), (6, 1), (6, 2), (6, 3), (6, 4), (6, 5)]
section
variable (su mu di rt : Op2) (pa : Op3)
end
/-- The entries of order 0 bear nothing without one sine. -/
def Inv (T : TT) : Prop := ∀ n, (lookT (n, 0) T).2.2 = 0
theorem look_put {k k' : MK} {v : Tri} : ∀ {T : TT}, lookT k' (putT' k v T) = lookT k' T ∨ (k' = k ∧ lookT k' (putT' k v T) = v)
  | [] => by
    unfold putT' lookT
    cases hb : keqB k' k with
    | true => exact .inr ⟨keq_iff.1 hb, rfl⟩
    | false => exact .inl rfl
  | e :: T => by
    unfold putT'
    cases kltB k e.1 with
    | true =>
      rw [bt]
      by_cases h : k' = k
      · refine .inr ⟨h, ?_⟩
        unfold lookT
        rw [keq_iff.2 h, bt]
      · refine .inl ?_
        have hb : keqB k' k = false := by
          cases hb : keqB k' k with
          | false => rfl
          | true => exact absurd (keq_iff.1 hb) h
        conv => lhs; unfold lookT
        rw [hb, bf]
    | false =>
      rw [bf]
      obtain ⟨ek, ev⟩ := e
      unfold lookT
      cases keqB k' ek with
      | true => exact .inl rfl
      | false => simp only [bf]; exact look_put
theorem Inv.put {T : TT} (h : Inv T) {k : MK} {v : Tri} (hv : k.2 = 0 → v.2.2 = 0) : Inv (putT' k v T) := by
  intro n
  rcases look_put (k := k) (k' := (n, 0)) (v := v) (T := T) with e | ⟨hk, e⟩
  · rw [e]; exact h n
  · rw [e]; exact hv (by rw [← hk])
def termsP (c s : Int) (bad : Bool) : TT × Bool := termsG add sub mul div rootP Fx.part sqrt c s bad
/-! ### Contracts -/
def tmP : TmF := fun c s bad => (fun k => lookT k (termsP c s bad).1, (termsP c s bad).2)
theorem keys_nodup : keys28.Nodup := by decide
theorem tt_tab : ∀ (T : TT), (T.map Prod.fst).Nodup → ttAV T = (T.map Prod.fst).map fun k => (k, triAV (lookT k T))
  | [], _ => rfl
  | (k, v) :: T, h => by
    simp only [List.map_cons, List.nodup_cons] at h
    have ih := tt_tab T h.2
    unfold ttAV at ih ⊢
    simp only [List.map_cons]
    congr 1
    · unfold lookT
      rw [keq_iff.2 rfl, bt]
    · rw [ih]
      refine List.map_congr_left fun k' hk' => ?_
      have hb : keqB k' k = false := by
        cases hb : keqB k' k with
        | false => rfl
        | true => exact absurd ((keq_iff.1 hb) ▸ hk') h.1
      conv => rhs; unfold lookT
      rw [hb, bf]
section
variable (ad su mu di rt : Op2) (pa : Op3) (sq : Op1)
theorem terms_keys (c s : Int) (bad : Bool) : (termsG ad su mu di rt pa sq c s bad).1.map Prod.fst = keys28 := by kernel_rfl
end
theorem tab_key (T : TT) (h : T.map Prod.fst = keys28) : ttAV T = tabOf fun k => lookT k T := by
  rw [tt_tab T (by rw [h]; exact keys_nodup), h]
  rfl
theorem terms_pair (c s : Int) (bad : Bool) : some (ttAV (termsG add sub mul div rootP Fx.part sqrt c s bad).1, (termsG add sub mul div rootP Fx.part sqrt c s bad).2) = some (tabOf (tmP c s bad).1, (tmP c s bad).2) := by
  have h := terms_keys add sub mul div rootP Fx.part sqrt c s bad
  unfold tmP termsP
  generalize termsG add sub mul div rootP Fx.part sqrt c s bad = T at h ⊢
  obtain ⟨T, b⟩ := T
  dsimp only at h ⊢
  rw [tab_key T h]
theorem map_of {P : Program} {env : Env} (hE : EnvOk P env) (fuel : Nat) (f : FuncId) (tm : TmF)
    (h : ∀ c s y, acall P env fuel f [.ptr 0 0, I c, I s] [.cells [.bool y] 112] KT = some (tabOf (tm c s y).1, (tm c s y).2)) : EffOk P f anyArgs (tmSpec tm) := by
  intro args H v H' _ hv m Args w hA hH
  unfold tmSpec at hv
  split at hv
  · rename_i _ j c s _
    split at hv
    · rename_i y t hj
      cases hb : Nat.beq t 112 with
      | false => rw [hb] at hv; cases hv
      | true =>
        rw [hb] at hv
        obtain rfl := Nat.eq_of_beq_eq_true hb
        simp only [cond_true, Option.some.injEq, Prod.mk.injEq] at hv
        obtain ⟨rfl, rfl⟩ := hv
        obtain ⟨cj, oj, hcj, hwj, hBj⟩ := hH.at_ j hj
        have hH1 : HR [cj] [.cells [.bool y] 112] w := by
          refine ⟨rfl, ?_, fun i B hB' _ => ?_⟩
          · intro i j' b' B C h1 h2 _ _ _ _
            rcases i with _ | i <;> rcases j' with _ | j' <;> simp at h1 h2 <;> rfl
          · rcases i with _ | i
            · simp at hB'
              subst hB'
              obtain ⟨Vs, h1, h2⟩ := hBj
              exact ⟨cj, oj, by simp, hwj, ⟨Vs, h1, RL_noPtr _ (by simp [AV.noPtrL, AV.noPtr]) h2⟩, trivial⟩
            · simp at hB'
        have hA1 : RL [cj] [.ptr 0 0, I c, I s] Args.toList := by
          obtain ⟨V0, V1, e0, h0, h1⟩ := RL_cons.1 hA
          rw [e0]
          refine RL.cons ?_ (RL_noPtr _ (by simp [AV.noPtrL, AV.noPtr]) h1)
          simp only [R] at h0 ⊢
          obtain ⟨c', hc', e⟩ := h0
          rw [hcj] at hc'; cases hc'
          exact ⟨cj, by simp, e⟩
        refine (acall_ok hE (h c s y) hA1 hH1).mono fun e w' ⟨v', V, m', H', e1, e2, e3, e4, e5⟩ => ?_
        unfold KT at e5
        split at e5
        · rename_i i
          split at e5
          · rename_i es b' t' hi h0
            cases hb' : Nat.beq t' 112 with
            | false => rw [hb'] at e5; cases e5
            | true =>
              rw [hb'] at e5
              obtain rfl := Nat.eq_of_beq_eq_true hb'
              simp only [cond_true, Option.some.injEq, Prod.mk.injEq] at e5
              obtain ⟨rfl, rfl⟩ := e5
              obtain ⟨xs, hxs, hxss⟩ := e4.pre
              obtain ⟨c2, o2, hc2, hw2, hB2⟩ := e3.at_ 0 h0
              have hc2' : c2 = cj := by rw [hxs] at hc2; simpa using hc2.symm
              subst hc2'
              obtain ⟨b, o3, hcb, hwb, hB3⟩ := e3.at_ i hi
              have hbne : b ≠ c2 := fun e => by
                subst e
                have := e3.nodup _ _ _ _ _ hc2 hcb h0 hi rfl rfl
                subst this
                rw [h0] at hi; cases hi
              have hbw : w.heap.size ≤ b := by
                have hmem : b ∈ xs := by
                  have := List.mem_of_getElem? hcb
                  rw [hxs] at this
                  rcases List.mem_append.1 this with h | h
                  · simp at h; exact absurd h hbne
                  · exact h
                rcases hxss b hmem with h | h
                · exact h
                · simp at h; exact absurd h hbne
              have ptrV : V = .map (some b) := by
                simp only [R] at e2
                obtain ⟨b', h1, h2⟩ := e2
                rw [hcb] at h1; cases h1
                exact h2
              have live : ∀ {i' : Nat} {B : AB}, (H.set j (.cells [.bool (tm c s y).2] 112))[i']? = some B → B.live = true → ∃ B', H[i']? = some B' ∧ B'.live = true := fun {i' B} hB' hl => by
                by_cases hij : j = i'
                · subst hij; exact ⟨_, hj, rfl⟩
                · rw [List.getElem?_set_ne hij] at hB'; exact ⟨B, hB', hl⟩
              have hHs : HR m (H.set j (.cells [.bool (tm c s y).2] 112)) w' := by
                refine ⟨by simp [hH.len], ?_, ?_⟩
                · intro i' j' b3 B C h1 h2 h3 h4 h5 h6
                  obtain ⟨B', b1, b2⟩ := live h3 h5
                  obtain ⟨C', d1, d2⟩ := live h4 h6
                  exact hH.nodup i' j' b3 B' C' h1 h2 b1 d1 b2 d2
                · intro i' B hB' hl
                  by_cases hij : j = i'
                  · subst hij
                    have hlt : j < H.length := (List.getElem?_eq_some_iff.1 hj).1
                    simp [hlt] at hB'
                    subst hB'
                    obtain ⟨Vs', h1, h2⟩ := hB2
                    exact ⟨c2, o2, hcj, hw2, ⟨Vs', h1, RL_noPtr _ (by simp [AV.noPtrL, AV.noPtr]) h2⟩, trivial⟩
                  · rw [List.getElem?_set_ne hij] at hB'
                    obtain ⟨c4, o4, h1, h2, h3, h4⟩ := hH.all i' B hB' hl
                    refine ⟨c4, o4, h1, ?_, h3, h4⟩
                    have hlt3 := (Array.getElem?_eq_some_iff.1 h2).1
                    rw [e4.block c4 hlt3 (by simp; intro e; subst e; exact hij (hH.nodup _ _ _ _ _ hcj h1 hj hB' rfl hl))]
                    exact h2
              have hEx : Ext m w m w' := ⟨⟨[], by simp⟩, e4.os, e4.tape, e4.output, e4.size, fun k hk hkm => e4.block k hk (by simp; intro e; subst e; exact hkm (List.mem_of_getElem? hcj))⟩
              refine ⟨V, m ++ [b], e1, ?_, ?_, ⟨⟨[b], rfl, fun b' hb' => by simp at hb'; subst hb'; exact .inl hbw⟩, e4.os, e4.tape, e4.output, e4.size, hEx.block⟩⟩
              · rw [ptrV]
                simp only [R]
                exact ⟨b, by rw [← hH.len]; simp, rfl⟩
              · refine hHs.grow (by simp) (fun _ _ _ _ _ _ => rfl) ?_ ?_ ?_
                · intro j' b2 B h1 h2 _ i' C h3 h4 h5
                  rcases j' with _ | j'
                  · simp at h1
                    subst h1
                    obtain ⟨C', d1, d2⟩ := live h4 h5
                    have := hH.lt h3 d1 d2
                    omega
                  · simp at h1
                · intro i' j' b2 B C h1 h2 _ _ _ _
                  rcases i' with _ | i' <;> rcases j' with _ | j' <;> simp at h1 h2 <;> rfl
                · intro j' B hB' _
                  rcases j' with _ | j'
                  · simp at hB'
                    subst hB'
                    obtain ⟨ess, clock, es', q1, q2, q3, q4⟩ := hB3
                    refine ⟨b, o3, by simp, hwb, ⟨ess, clock, es', q1, q2, ?_, q4⟩, trivial⟩
                    have hnp : ∀ e ∈ es', e.2.noPtr = true := fun e he => by
                      have := q2.mem_iff.1 he
                      unfold tabOf at this
                      obtain ⟨k, _, rfl⟩ := List.mem_map.1 this
                      rfl
                    have key : ∀ (l : List (MK × AV)) (ess : List MapEntry), (∀ e ∈ l, e.2.noPtr = true) → RE m' true l ess → RE (m ++ [b]) true l ess := by
                      intro l
                      induction l with
                      | nil => exact fun ess _ h => h
                      | cons e l ih =>
                        intro ess hl hr
                        obtain ⟨k, v⟩ := e
                        obtain ⟨e', es2, r1, r2, r3, r4⟩ := hr
                        exact ⟨e', es2, r1, r2, R_noPtr v (hl _ (List.mem_cons_self ..)) r3, ih es2 (fun e he => hl e (List.mem_cons_of_mem _ he)) r4⟩
                    exact key es' ess hnp q3
                  · simp at hB'
          · cases e5
        · cases e5
    · cases hv
  · cases hv
theorem terms_con : EffOk Tryz.prog 181 anyArgs (tmSpec tmP) := by
  refine map_of (EnvOk.f (EnvOk.f (EnvOk.f (EnvOk.f (EnvOk.f (EnvOk.f (EnvOk.clo ok_nil (enter_of Tryz.func203 (by kernel_rfl) rfl) root_con) en_fPart part_con) Fx.en_div div_meth) Fx.en_mul mul_con) Fx.en_sub sub_con) en_fAdd add_con) en_fSqrt sqrt_con) 2000 _ _ ?_
  intro c s y
  refine (terms_raw add sub mul div rootP Fx.part sqrt c s y).trans ?_
  exact terms_pair c s y
end Go.Proofs.YtdojnnlhaiennaaGreat.Fd

/- The series of the sine and the cosine: each step's rounding. Conditions: as each says. The series of the sine and the cosine stand for polynomials, but for few units. Conditions: angles of 0 to half of pi. -/
namespace Go.Proofs.YtdojnnlhaiennaaGreat.Ns
open Go Go.Proofs.YtdojnnlhaiennaaGreat.Ae Go.Proofs.YtdojnnlhaiennaaGreat.Fx Go.Proofs.YtdojnnlhaiennaaGreat.Tx Go.Proofs.YtdojnnlhaiennaaGreat.Nx

abbrev Q : Int := 1099511627776
theorem okn_of {n : Int} (h : -4611686018427387904 ≤ n ∧ n ≤ 4611686018427387904) : okn n = true := okn_iff'.2 h
theorem mul_le' {a b A B : Int} (h1 : -A ≤ a ∧ a ≤ A) (h2 : -B ≤ b ∧ b ≤ B) : -(A * B) ≤ a * b ∧ a * b ≤ A * B := by
  have key : (a * b).natAbs ≤ (A * B).natAbs := by
    rw [Int.natAbs_mul, Int.natAbs_mul]
    exact Nat.mul_le_mul (by omega) (by omega)
  have : 0 ≤ A * B := Int.mul_nonneg (by omega) (by omega)
  omega
/-- One step: the value v stands for A / B but for E / 16. -/
theorem step {t u v A B d E : Int} (hB : 0 < B) (hd : 2 ≤ d) (hu : 2 * (u * 1099511627776 - t * t) ≤ 1099511627776 ∧ -1099511627776 ≤ 2 * (u * 1099511627776 - t * t)) (ht : 0 ≤ t ∧ t ≤ 1727108826179) (hv : 0 ≤ v ∧ v ≤ 1099511627776)
    {w p : Int} (hw : 2 * (w * 1099511627776 - u * v) ≤ 1099511627776 ∧ -1099511627776 ≤ 2 * (w * 1099511627776 - u * v)) (hp : 2 * (p * d - w) ≤ d ∧ -d ≤ 2 * (p * d - w))
    (hE : -(E * B) ≤ 16 * (v * B - A) ∧ 16 * (v * B - A) ≤ E * B) (hE0 : 0 ≤ E) {E' : Int} (hE' : 2983000000000000000000000 * E + 8 * 1208925819614629174706176 * (d + 2) ≤ E' * (d * 1208925819614629174706176)) :
    -(E' * (B * (d * 1208925819614629174706176))) ≤ 16 * ((1099511627776 - p) * (B * (d * 1208925819614629174706176)) - (1099511627776 * (B * (d * 1208925819614629174706176)) - t * t * A)) ∧
    16 * ((1099511627776 - p) * (B * (d * 1208925819614629174706176)) - (1099511627776 * (B * (d * 1208925819614629174706176)) - t * t * A)) ≤ E' * (B * (d * 1208925819614629174706176)) := by
  generalize h1 : 2 * (p * d - w) = d1 at hp
  generalize h2 : 2 * (w * 1099511627776 - u * v) = d2 at hw
  generalize h3 : 2 * (u * 1099511627776 - t * t) = d3 at hu
  -- 2 p d Q Q = 2 t t v + v d3 + Q d2 + Q Q d1
  have k1 : 2 * (p * d) = 2 * w + d1 := by omega
  have k2 : 2 * (w * 1099511627776) = 2 * (u * v) + d2 := by omega
  have k3 : 2 * (u * 1099511627776) = 2 * (t * t) + d3 := by omega
  have k4 : 2 * (u * 1099511627776) * v = 2 * (t * t * v) + d3 * v := by rw [k3, Int.add_mul, Int.mul_assoc]
  have k5 : 2 * (u * 1099511627776) * v = 2199023255552 * (u * v) := by rw [Int.mul_comm u, ← Int.mul_assoc, Int.mul_assoc]; rfl
  have main : 2417851639229258349412352 * (p * d) = 2 * (t * t * v) + d3 * v + 1099511627776 * d2 + 1208925819614629174706176 * d1 := by
    generalize p * d = P at *
    generalize u * v = U at *
    generalize t * t * v = T at *
    omega
  have tt : 0 ≤ t * t ∧ t * t ≤ 2982904897465403235740041 := ⟨Int.mul_nonneg ht.1 ht.1, Int.mul_le_mul ht.2 ht.2 ht.1 (by decide)⟩
  have vd : -(1099511627776 * 1099511627776) ≤ d3 * v ∧ d3 * v ≤ 1099511627776 * 1099511627776 := mul_le' ⟨by omega, hu.1⟩ ⟨by omega, hv.2⟩
  -- the difference
  have diff : 2 * ((1099511627776 - p) * (B * (d * 1208925819614629174706176)) - (1099511627776 * (B * (d * 1208925819614629174706176)) - t * t * A)) = B * (2 * (t * t * v) - 2417851639229258349412352 * (p * d)) - 2 * (t * t * (v * B - A)) := by
    have e1 : p * (B * (d * 1208925819614629174706176)) = 1208925819614629174706176 * (B * (p * d)) := by
      rw [Int.mul_left_comm p B, ← Int.mul_assoc p d, Int.mul_comm (p * d), Int.mul_left_comm B]
    have e2 : t * t * (v * B - A) = B * (t * t * v) - t * t * A := by rw [Int.mul_sub, ← Int.mul_assoc (t * t) v B, Int.mul_comm (t * t * v) B]
    rw [Int.sub_mul, e1, e2, Int.mul_sub B, Int.mul_left_comm B 2, Int.mul_left_comm B 2417851639229258349412352]
    omega
  have rest : B * (2 * (t * t * v) - (2 * (t * t * v) + d3 * v + 1099511627776 * d2 + 1208925819614629174706176 * d1)) = -(B * (d3 * v + 1099511627776 * d2 + 1208925819614629174706176 * d1)) := by
    rw [← Int.mul_neg]; congr 1; omega
  rw [main, rest] at diff
  have b1 := mul_le' (a := B) (b := d3 * v + 1099511627776 * d2 + 1208925819614629174706176 * d1) (A := B) (B := 1208925819614629174706176 * (d + 2)) ⟨by omega, by omega⟩ ⟨by omega, by omega⟩
  have b2 := mul_le' (a := t * t) (b := 16 * (v * B - A)) (A := 2982904897465403235740041) (B := E * B) ⟨by omega, by omega⟩ hE
  have b3 : t * t * (16 * (v * B - A)) = 16 * (t * t * (v * B - A)) := Int.mul_left_comm ..
  have b4 := Int.mul_le_mul_of_nonneg_left hE' (show 0 ≤ B by omega)
  have b5 : B * (2983000000000000000000000 * E + 8 * 1208925819614629174706176 * (d + 2)) = 2983000000000000000000000 * (E * B) + 8 * (B * (1208925819614629174706176 * (d + 2))) := by
    rw [Int.mul_add, Int.mul_left_comm B, Int.mul_comm B E, Int.mul_assoc 8, Int.mul_left_comm B 8]
  have b6 : B * (E' * (d * 1208925819614629174706176)) = E' * (B * (d * 1208925819614629174706176)) := Int.mul_left_comm ..
  have b7 : 0 ≤ E * B := Int.mul_nonneg hE0 (by omega)
  rw [b5, b6] at b4
  generalize E' * (B * (d * 1208925819614629174706176)) = R at *
  generalize B * (d3 * v + 1099511627776 * d2 + 1208925819614629174706176 * d1) = S at *
  generalize B * (1208925819614629174706176 * (d + 2)) = S2 at *
  generalize E * B = EB at *
  generalize t * t * (v * B - A) = W at *
  generalize (1099511627776 - p) * (B * (d * 1208925819614629174706176)) - (1099511627776 * (B * (d * 1208925819614629174706176)) - t * t * A) = D at *
  omega
end Go.Proofs.YtdojnnlhaiennaaGreat.Ns

namespace Go.Proofs.YtdojnnlhaiennaaGreat.Ns
open Go Go.Proofs.YtdojnnlhaiennaaGreat.Ae Go.Proofs.YtdojnnlhaiennaaGreat.Fx Go.Proofs.YtdojnnlhaiennaaGreat.Tx Go.Proofs.YtdojnnlhaiennaaGreat.Nx

/-- The divisor of a step. -/
def dv (first : Int) (k : Nat) : Int := (2 * (k : Int) + 1 + first) * (2 * (k : Int) + 2 + first)
/-- Numerator and denominator, step by step. -/
def hor (t first : Int) : Nat → Int × Int → Int × Int
  | 0, s => s
  | k + 1, s => hor t first k (1099511627776 * (s.2 * (dv first k * 1208925819614629174706176)) - t * t * s.1, s.2 * (dv first k * 1208925819614629174706176))
def erS (d E : Int) : Int := (2983000000000000000000000 * E + 8 * 1208925819614629174706176 * (d + 2)) / (d * 1208925819614629174706176) + 1
def err (first : Int) : Nat → Int → Int
  | 0, E => E
  | k + 1, E => err first k (erS (dv first k) E)
end Go.Proofs.YtdojnnlhaiennaaGreat.Ns

/- Operations on numbers whose sizes are known: they are there, and how near. Conditions: as each says. -/
namespace Go.Proofs.YtdojnnlhaiennaaGreat.Ns
open Go Go.Proofs.YtdojnnlhaiennaaGreat.Ae Go.Proofs.YtdojnnlhaiennaaGreat.Fx Go.Proofs.YtdojnnlhaiennaaGreat.Tx Go.Proofs.YtdojnnlhaiennaaGreat.Nx

/-- Between -K and K. -/
def Bd (K n : Int) : Prop := -K ≤ n ∧ n ≤ K
theorem Bd.mul {a b A B : Int} (h1 : Bd A a) (h2 : Bd B b) : Bd (A * B) (a * b) := Ns.mul_le' h1 h2
theorem Bd.mono {A B n : Int} (h : Bd A n) (hAB : A ≤ B) : Bd B n := ⟨by have := h.1; omega, by have := h.2; omega⟩
theorem Bd.ok {A n : Int} (h : Bd A n) (hA : A ≤ 4611686018427387904) : okn n = true := okn_of ⟨by have := h.1; omega, by have := h.2; omega⟩
theorem Bd.add {A B m n : Int} (h : Bd A m) (h' : Bd B n) : Bd (A + B) (m + n) := ⟨by have := h.1; have := h'.1; omega, by have := h.2; have := h'.2; omega⟩
theorem Bd.sub {A B m n : Int} (h : Bd A m) (h' : Bd B n) : Bd (A + B) (m - n) := ⟨by have := h.1; have := h'.2; omega, by have := h.2; have := h'.1; omega⟩
theorem Bd.neg {A n : Int} (h : Bd A n) : Bd A (-n) := ⟨by have := h.2; omega, by have := h.1; omega⟩
end Go.Proofs.YtdojnnlhaiennaaGreat.Ns

/- The field in the Earth's axes, the program's and the reference's: the same plain function. Conditions: none. -/
namespace Go.Proofs.YtdojnnlhaiennaaGreat.Fd
open Go Go.Proofs.YtdojnnlhaiennaaGreat.Ae Go.Proofs.YtdojnnlhaiennaaGreat.Fx Go.Proofs.YtdojnnlhaiennaaGreat.Lx Go.Proofs.YtdojnnlhaiennaaGreat.Tx Go.Proofs.YtdojnnlhaiennaaGreat.Te Go.Proofs.YtdojnnlhaiennaaGreat.Rx Go.Proofs.YtdojnnlhaiennaaGreat.Row Go.Proofs.YtdojnnlhaiennaaGreat.Ve Go.Proofs.YtdojnnlhaiennaaGreat.Nx Go.Proofs.YtdojnnlhaiennaaGreat.Ns

section
variable (ad su mu di : Op2) (pa nr : Op3) (nu : Op3p) (tm : TmF)
/-- Both ways' common part of a step: up, south, and what east is made of. -/
def midG (tick : Int) (k : MK) (t : Int × Bool) (cos sin : Int) (x : Tri) (up0 south0 : Int) : (Int × Int × Int) × Bool :=
  let g := nu k.1 k.2 tick t.2
  let e1 := mu g.1.1 cos g.2
  let e2 := mu g.1.2 sin e1.2
  let ev := ad e1.1 e2.1 e2.2
  let o1 := mu g.1.1 sin ev.2
  let o2 := mu g.1.2 cos o1.2
  let od := su o1.1 o2.1 o2.2
  let a1 := mu ev.1 x.1 od.2
  let a2 := mu t.1 a1.1 a1.2
  let a3 := pa a2.1 (k.1 + 1) 1 a2.2
  let up := ad up0 a3.1 a3.2
  let b1 := mu ev.1 x.2.1 up.2
  let b2 := mu t.1 b1.1 b1.2
  let south := su south0 b2.1 b2.2
  ((up.1, south.1, od.1), south.2)
def nextG (u v : Int) (cos sin : Int) (bad : Bool) : (Int × Int) × Bool :=
  let d1 := mu cos u bad
  let d2 := mu sin v d1.2
  let d := su d1.1 d2.1 d2.2
  let d3 := mu sin u d.2
  let d4 := mu cos v d3.2
  let d' := ad d3.1 d4.1 d4.2
  ((d.1, d'.1), d'.2)
end
def next : Int → Int → Int → Int → Bool → (Int × Int) × Bool := nextG add sub mul
/-- The cosines and sines of the multiples. -/
def cs (u v : Int) (m : Nat) : (Int × Int) × Bool := csn add sub mul u v false m
/-! ### The ends, and the whole -/
end Go.Proofs.YtdojnnlhaiennaaGreat.Fd

/- The field in the Earth's axes, the program's and the reference's: one plain function, and its contracts. Conditions: none. -/
namespace Go.Proofs.YtdojnnlhaiennaaGreat.Fd
open Go Go.Proofs.YtdojnnlhaiennaaGreat.Ae Go.Proofs.YtdojnnlhaiennaaGreat.Fx Go.Proofs.YtdojnnlhaiennaaGreat.Lx Go.Proofs.YtdojnnlhaiennaaGreat.Tx Go.Proofs.YtdojnnlhaiennaaGreat.Te Go.Proofs.YtdojnnlhaiennaaGreat.Rx Go.Proofs.YtdojnnlhaiennaaGreat.Row Go.Proofs.YtdojnnlhaiennaaGreat.Ve Go.Proofs.YtdojnnlhaiennaaGreat.Nx Go.Proofs.YtdojnnlhaiennaaGreat.Ns

def someV (p : V3 × Bool) : Option (AV × Bool) := some (p.1.av, p.2)
def endV (x y z : Int) (bad : Bool) : V3 × Bool := (bif bad then V3.zero else ⟨x, y, z⟩, bad)
theorem endE_v (x y z : Int) (bad : Bool) : endE x y z bad = someV (endV x y z bad) := by cases bad <;> rfl
theorem cond_v {b : Bool} {p q : Option (AV × Bool)} {P Q : V3 × Bool} (hp : p = someV P) (hq : q = someV Q) : (bif b then p else q) = someV (bif b then P else Q) := by
  cases b
  · exact hq
  · exact hp
section
variable (ad su mu di : Op2) (pa nr : Op3) (nu : Op3p) (tm : TmF)
def eLastV (c s u v : Int) (e : Es) : V3 × Bool :=
  let a1 := mu e.up s e.bad
  let a2 := mu e.south c a1.2
  let a := ad a1.1 a2.1 a2.2
  let x1 := mu a.1 u a.2
  let x2 := mu e.east v x1.2
  let x := su x1.1 x2.1 x2.2
  let y1 := mu a.1 v x.2
  let y2 := mu e.east u y1.2
  let y := ad y1.1 y2.1 y2.2
  let z1 := mu e.up c y.2
  let z2 := mu e.south s z1.2
  let z := su z1.1 z2.1 z2.2
  endV x.1 y.1 z.1 z.2
theorem eLast_v (c s u v : Int) (e : Es) : eLast ad su mu c s u v e = someV (eLastV ad su mu c s u v e) := endE_v _ _ _ _
def eBodyV (tick r c s u v : Int) (bad : Bool) : V3 × Bool :=
  let T := tm c s bad
  let ratio := di 7005208482886 r T.2
  let t0 := mu ratio.1 ratio.1 ratio.2
  eLastV ad su mu c s u v (eFold ad su mu pa nu u v ratio.1 tick T.1 keys27 ⟨t0.1, 0, 0, 0, 0, 0, t0.2⟩)
theorem eBody_v (tick r c s u v : Int) (bad : Bool) : eBody ad su mu di pa nu tm tick r c s u v bad = someV (eBodyV ad su mu di pa nu tm tick r c s u v bad) := eLast_v ..
def earthV (x y z t : Int) (bad : Bool) : V3 × Bool :=
  let r := nr x y z bad
  bif (bif (bif !(ckT t) then true else decide (r.1 < 6597069766656)) then true else decide (r.1 > 10995116277760)) then (V3.zero, true) else
  bif r.2 then (V3.zero, r.2) else
  let w := nr x y 0 r.2
  let c := di z r.1 w.2
  let s := di w.1 r.1 c.2
  bif decide (w.1 ≥ 1048576) then
    let u := di x w.1 s.2
    let v := di y w.1 u.2
    eBodyV ad su mu di pa nu tm t r.1 c.1 s.1 u.1 v.1 v.2
  else eBodyV ad su mu di pa nu tm t r.1 c.1 s.1 1099511627776 0 s.2
theorem earth_v (x y z t : Int) (bad : Bool) : earthG ad su mu di pa nr nu tm x y z t bad = someV (earthV ad su mu di pa nr nu tm x y z t bad) := by
  unfold earthG earthV
  exact cond_v rfl (cond_v rfl (cond_v (eBody_v ..) (eBody_v ..)))
end
def earthP : Int → Int → Int → Int → Bool → V3 × Bool := earthV add sub mul div Fx.part norm numP tmP
def earthO : Int → Int → Int → Int → Bool → Option (AV × Bool) := earthG add sub mul div Fx.part norm numP tmP
/-! ### Contracts -/
def vtF (u : V3 → Int → Bool → V3 × Bool) : List AV → Option (Bool → AV × Bool)
  | [.agg [.int .i64 a, .int .i64 b, .int .i64 c], .int .i64 t] => some fun bad => ((u ⟨a, b, c⟩ t bad).1.av, (u ⟨a, b, c⟩ t bad).2)
  | _ => none
theorem vtF_some {u : V3 → Int → Bool → V3 × Bool} {args : List AV} {g : Bool → AV × Bool} (h : vtF u args = some g) : ∃ (p : V3) (t : Int), args = [p.av, I t] ∧ ∀ bad, g bad = ((u p t bad).1.av, (u p t bad).2) := by
  unfold vtF at h
  split at h <;> cases h
  exact ⟨⟨_, _, _⟩, _, rfl, fun _ => rfl⟩
def earP (p : V3) (t : Int) (bad : Bool) : V3 × Bool := earthP p.x p.y p.z t bad
theorem en_Earth : EnterOk Tryz.prog 135 := enter_of Tryz.func135 (by kernel_rfl) rfl
theorem en_Number : EnterOk Tryz.prog 182 := enter_of Tryz.func182 (by kernel_rfl) rfl
theorem envE_ok : EnvOk Tryz.prog (envE add sub mul div Fx.part norm numP tmP) :=
  EnvOk.f (EnvOk.f (EnvOk.f (EnvOk.f (EnvOk.f (EnvOk.f (EnvOk.f (EnvOk.e (EnvOk.f (EnvOk.t (EnvOk.t ok_nil en_fFail) (enter_of Tryz.func30 (by kernel_rfl) rfl)) en_vNorm vnorm_con) (enter_of Tryz.func181 (by kernel_rfl) rfl) terms_con) en_Number number_con) (enter_of Tryz.func121 (by kernel_rfl) rfl) norm_con) en_fPart part_con) Fx.en_div div_meth) Fx.en_mul mul_con) Fx.en_sub sub_con) en_fAdd add_con
theorem earth_o (x y z t : Int) (bad : Bool) : earthO x y z t bad = someV (earthP x y z t bad) := earth_v add sub mul div Fx.part norm numP tmP x y z t bad
theorem earth_con : Meth 135 (vtF earP) := by
  refine flow_of envE_ok 2000 _ _ (fun _ => true) _ ?_
  intro args g _ h bad
  obtain ⟨p, t, rfl, hg⟩ := vtF_some h
  exact (earth_raw add sub mul div Fx.part norm numP tmP p.x p.y p.z t bad).trans ((earth_o p.x p.y p.z t bad).trans (congrArg some (hg bad).symm))
end Go.Proofs.YtdojnnlhaiennaaGreat.Fd

/- The laws of layer 10 of numbers and of the field in the Earth's axes. Conditions: none. -/
namespace Go.Proofs.YtdojnnlhaiennaaGreat.Fd
open Go Go.Proofs.YtdojnnlhaiennaaGreat.Ae Go.Proofs.YtdojnnlhaiennaaGreat.Fx Go.Proofs.YtdojnnlhaiennaaGreat.Lx Go.Proofs.YtdojnnlhaiennaaGreat.Tx Go.Proofs.YtdojnnlhaiennaaGreat.Te Go.Proofs.YtdojnnlhaiennaaGreat.Rx Go.Proofs.YtdojnnlhaiennaaGreat.Row Go.Proofs.YtdojnnlhaiennaaGreat.Ve

def vEq (a b : V3) : Bool := (a.x == b.x) && ((a.y == b.y) && ((a.z == b.z) && true))
theorem vEq_refl (a : V3) : vEq a a = true := by unfold vEq; simp
section
variable (ea rea : V3 → Int → Bool → V3 × Bool) (nu rnu : Op3p)
end
/-! ### The awake place, number by number -/
section
variable {α : Type}
end
section
variable (ad su mu di : Op2) (pa : Op3) (nu : Op3p) (tm : TmF)
def tailG (tick r c s u v : Int) (T : (MK → Tri) × Bool) : V3 × Bool :=
  let ratio := di 7005208482886 r T.2
  let t0 := mu ratio.1 ratio.1 ratio.2
  eLastV ad su mu c s u v (eFold ad su mu pa nu u v ratio.1 tick T.1 keys27 ⟨t0.1, 0, 0, 0, 0, 0, t0.2⟩)
end
def tailP : Int → Int → Int → Int → Int → Int → (MK → Tri) × Bool → V3 × Bool := tailG add sub mul div Fx.part numP
def okN (p : (Int × Int) × Bool) : Bool := decide (p.1.1 < -31885837205504) && !p.2
end Go.Proofs.YtdojnnlhaiennaaGreat.Fd

/- The field in the sky's axes, the program's and the reference's; the law. Conditions: none. -/
namespace Go.Proofs.YtdojnnlhaiennaaGreat.Fd
open Go Go.Proofs.YtdojnnlhaiennaaGreat.Ae Go.Proofs.YtdojnnlhaiennaaGreat.Fx Go.Proofs.YtdojnnlhaiennaaGreat.Lx Go.Proofs.YtdojnnlhaiennaaGreat.Tx Go.Proofs.YtdojnnlhaiennaaGreat.Te Go.Proofs.YtdojnnlhaiennaaGreat.Rx Go.Proofs.YtdojnnlhaiennaaGreat.Row Go.Proofs.YtdojnnlhaiennaaGreat.Ve

section
variable (ad su mu mo : Op2) (pa : Op3) (da tu si co : Op1) (ea sk rsk : V3 → Int → Bool → V3 × Bool)
def turnE (t : Int) (d : Int × Bool) : Int × Bool :=
  let p := pa 6908435304716 (t.tmod 86400000) 86400000 d.2
  let a := ad 5399947124839 p.1 p.2
  let m := mu 18914669620 d.1 a.2
  let b := ad a.1 m.1 m.2
  mo b.1 6908435304716 b.2
theorem turn_raw (t : Int) (bad : Bool) : acall Tryz.prog [(76, m2 112 ad), (127, m2 112 mu), (131, m2 112 mo), (74, m3 112 pa), (124, m1 112 da)] 100 134 [.ptr 0 0, I t] [.cells [.bool bad] 112] (flowK 112) =
    some (I (turnE ad mu mo pa t (da t bad)).1, (turnE ad mu mo pa t (da t bad)).2) := by kernel_rfl
def skyE {β : Type} (k : Int → Int → Int → Bool → β) (x y z t : Int) (bad : Bool) : β :=
  let q := tu t bad
  let c := co q.1 q.2
  let s := si q.1 c.2
  let x1 := mu x c.1 s.2
  let x2 := mu y s.1 x1.2
  let xx := ad x1.1 x2.1 x2.2
  let y1 := mu y c.1 xx.2
  let y2 := mu x s.1 y1.2
  let yy := su y1.1 y2.1 y2.2
  let b := ea ⟨xx.1, yy.1, z⟩ t yy.2
  let u1 := mu b.1.x c.1 b.2
  let u2 := mu b.1.y s.1 u1.2
  let u := su u1.1 u2.1 u2.2
  let v1 := mu b.1.y c.1 u.2
  let v2 := mu b.1.x s.1 v1.2
  let v := ad v1.1 v2.1 v2.2
  k u.1 v.1 b.1.z v.2
def envS : Env := [(76, m2 112 ad), (75, m2 112 su), (127, m2 112 mu), (128, m1 112 si), (129, m1 112 co), (134, m1 112 tu), (135, .flow 112 (vtF ea))]
theorem sky_raw (x y z t : Int) (bad : Bool) : acall Tryz.prog (envS ad su mu tu si co ea) 100 80 [.ptr 0 0, V3.av ⟨x, y, z⟩, I t] [.cells [.bool bad] 112] (flowK 112) =
    skyE ad su mu tu si co ea endE x y z t bad := by kernel_rfl
def renvS : Env := [(50, m2 74 ad), (46, m2 74 su), (47, m2 74 mu), (98, m1 74 si), (99, m1 74 co), (102, m1 74 tu), (103, .flow 74 (vtF ea))]
theorem sky_v (x y z t : Int) (bad : Bool) : skyE ad su mu tu si co ea endE x y z t bad = someV (skyE ad su mu tu si co ea endV x y z t bad) := endE_v _ _ _ _
end
def turnP (t : Int) (bad : Bool) : Int × Bool := turnE add mul mod Fx.part t (daysP t bad)
theorem turn_con : Meth 134 (int1 turnP) := by
  refine flow_of (EnvOk.f (EnvOk.f (EnvOk.f (EnvOk.f (EnvOk.f ok_nil (enter_of Tryz.func124 (by kernel_rfl) rfl) days_con) en_fPart part_con) en_fMod mod_con) Fx.en_mul mul_con) en_fAdd add_con) 100 _ _ (fun _ => true) _ ?_
  intro args g _ h bad
  obtain ⟨a, rfl, hg⟩ := int1_some h
  exact (turn_raw add mul mod Fx.part daysP a bad).trans (hg bad).symm
def skyP (p : V3) (t : Int) (bad : Bool) : V3 × Bool := skyE add sub mul turnP sinP cosP earP endV p.x p.y p.z t bad
theorem sky_con : Meth 80 (vtF skyP) := by
  refine flow_of (EnvOk.f (EnvOk.f (EnvOk.f (EnvOk.f (EnvOk.f (EnvOk.f (EnvOk.f ok_nil en_Earth earth_con) (enter_of Tryz.func134 (by kernel_rfl) rfl) turn_con) (enter_of Tryz.func129 (by kernel_rfl) rfl) cos_con) (enter_of Tryz.func128 (by kernel_rfl) rfl) sin_con) Fx.en_mul mul_con) Fx.en_sub sub_con) en_fAdd add_con) 100 _ _ (fun _ => true) _ ?_
  intro args g _ h bad
  obtain ⟨p, t, rfl, hg⟩ := vtF_some h
  exact (sky_raw add sub mul turnP sinP cosP earP p.x p.y p.z t bad).trans ((sky_v add sub mul turnP sinP cosP earP p.x p.y p.z t bad).trans (congrArg some (hg bad).symm))
end Go.Proofs.YtdojnnlhaiennaaGreat.Fd

/- The functions of package orbit and of its reference, as the interpreter finds them. Conditions: none. -/
namespace Go.Proofs.YtdojnnlhaiennaaGreat.Orb
open Go Go.Proofs.YtdojnnlhaiennaaGreat.Ae Go.Proofs.YtdojnnlhaiennaaGreat.Fx Go.Proofs.YtdojnnlhaiennaaGreat.Lx Go.Proofs.YtdojnnlhaiennaaGreat.Tx Go.Proofs.YtdojnnlhaiennaaGreat.Te Go.Proofs.YtdojnnlhaiennaaGreat.Rx Go.Proofs.YtdojnnlhaiennaaGreat.Row Go.Proofs.YtdojnnlhaiennaaGreat.Ve

abbrev Op33 := Int → Int → Int → Bool → (Int × Int) × Bool
def tup2F (ab : Op33) : List AV → Option (Bool → AV × Bool)
  | [.int .i64 u, .int .i64 v, .int .i64 a] => some fun bad => (.tup [I (ab u v a bad).1.1, I (ab u v a bad).1.2], (ab u v a bad).2)
  | _ => none
section
variable (ad su mu di mo ke : Op2) (sq si co da : Op1) (pa : Op3) (ab : Op33) (rt : El → Bool)
def aboG (u v a : Int) (bad : Bool) : (Int × Int) × Bool :=
  let c := co a bad
  let s := si a c.2
  let p := mu u c.1 s.2
  let q := mu v s.1 p.2
  let x := su p.1 q.1 q.2
  let r := mu u s.1 x.2
  let t := mu v c.1 r.2
  let y := ad r.1 t.1 t.2
  ((x.1, y.1), y.2)
theorem about_raw (u v a : Int) (bad : Bool) : acall Tryz.prog [(128, m1 112 si), (129, m1 112 co), (76, m2 112 ad), (75, m2 112 su), (127, m2 112 mu)] 60 132 [.ptr 0 0, I u, I v, I a] [.cells [.bool bad] 112] (flowK 112) =
    some (.tup [I (aboG ad su mu si co u v a bad).1.1, I (aboG ad su mu si co u v a bad).1.2], (aboG ad su mu si co u v a bad).2) := by kernel_rfl
def daysG (ok : Int → Bool) (t : Int) (bad : Bool) : Option (AV × Bool) :=
  bif !(ok t) then some (I (pa 1099511627776 t 86400000 true).1, (pa 1099511627776 t 86400000 true).2) else some (I (pa 1099511627776 t 86400000 bad).1, (pa 1099511627776 t 86400000 bad).2)
theorem days_raw (u : Int) (bad : Bool) : acall Tryz.prog [(30, .text), (123, .text), (74, m3 112 pa)] 60 124 [.ptr 0 0, I u] [.cells [.bool bad] 112] (flowK 112) = daysG pa ckT u bad := by kernel_rfl
def rckT (t : Int) : Bool := an (decide (t ≥ 0)) (decide (t ≤ 157766400000))
theorem rdays_raw (u : Int) (bad : Bool) : acall Tryz.prog [(66, .text), (37, .text), (16, m3 74 pa)] 60 96 [.ptr 0 0, I u] [.cells [.bool bad] 74] (flowK 74) = daysG pa rckT u bad := by kernel_rfl
def kepS (m e : Int) (x : Int × Bool) : Int × Bool :=
  let a1 := si x.1 x.2
  let a2 := mu e a1.1 a1.2
  let a3 := su x.1 a2.1 a2.2
  let o := su a3.1 m a3.2
  let c := co x.1 o.2
  let b1 := mu e c.1 c.2
  let b2 := su 1099511627776 b1.1 b1.2
  let q := di o.1 b2.1 b2.2
  su x.1 q.1 q.2
def kepG (m e : Int) (bad : Bool) : Int × Bool :=
  let S := kepS su mu di si co m e
  S (S (S (S (S (S (ad m 0 bad))))))
def kepRaw (m e : Int) (bad : Bool) : Option (AV × Bool) :=
  let G := kepG ad su mu di si co m e
  bif (bif decide (e < 0) then true else decide (e > 109951162777)) then some (I (G true).1, (G true).2) else some (I (G bad).1, (G bad).2)
def envK8 : Env := [(128, m1 112 si), (129, m1 112 co), (76, m2 112 ad), (75, m2 112 su), (127, m2 112 mu), (125, m2 112 di), (123, .text)]
theorem kepler_raw (m e : Int) (bad : Bool) : acall Tryz.prog (envK8 ad su mu di si co) 100 130 [.ptr 0 0, I m, I e] [.cells [.bool bad] 112] (flowK 112) = kepRaw ad su mu di si co m e bad := by kernel_rfl
end
end Go.Proofs.YtdojnnlhaiennaaGreat.Orb

/- The place, as the interpreter finds it. Conditions: none. -/
namespace Go.Proofs.YtdojnnlhaiennaaGreat.Orb
open Go Go.Proofs.YtdojnnlhaiennaaGreat.Ae Go.Proofs.YtdojnnlhaiennaaGreat.Fx Go.Proofs.YtdojnnlhaiennaaGreat.Lx Go.Proofs.YtdojnnlhaiennaaGreat.Tx Go.Proofs.YtdojnnlhaiennaaGreat.Te Go.Proofs.YtdojnnlhaiennaaGreat.Rx Go.Proofs.YtdojnnlhaiennaaGreat.Row Go.Proofs.YtdojnnlhaiennaaGreat.Ve

section
variable (ad su mu di mo ke : Op2) (sq si co da : Op1) (pa : Op3) (ab : Op33) (rt : El → Bool)
/-- What the ellipse, its plane and its turning come to: n, r, s, c, node, peri, and Kepler's angle. -/
structure Mid where
  (n r s c node peri x : Int)
  bad : Bool
def midG (o : El) (tick : Int) (bad : Bool) : Mid :=
  let D1 := da tick bad
  let D2 := da o.t D1.2
  let d := su D1.1 D2.1 D2.2
  let q1 := di 3271636820114455529 o.a d.2
  let q2 := sq q1.1 q1.2
  let n := di q2.1 o.a q2.2
  let e1 := mu o.e o.e n.2
  let e2 := su 1099511627776 e1.1 e1.2
  let r := sq e2.1 e2.2
  let k1 := mu r.1 r.1 r.2
  let k2 := mu o.a k1.1 k1.2
  let k3 := di 7012835795048 k2.1 k2.2
  let k4 := mu k3.1 k3.1 k3.2
  let k5 := mu 1785540935 k4.1 k4.2
  let k := mu k5.1 n.1 k5.2
  let s := si o.i k.2
  let c := co o.i s.2
  let t := mu s.1 s.1 c.2
  let m1 := mu k.1 c.1 t.2
  let m2 := mu m1.1 d.1 m1.2
  let node := su o.node m2.1 m2.2
  let p1 := pa t.1 5 2 node.2
  let p2 := su 2199023255552 p1.1 p1.2
  let p3 := mu k.1 p2.1 p2.2
  let p4 := mu p3.1 d.1 p3.2
  let peri := ad o.peri p4.1 p4.2
  let w1 := mu k.1 r.1 peri.2
  let w2 := pa t.1 3 2 w1.2
  let w3 := su 1099511627776 w2.1 w2.2
  let w := mu w1.1 w3.1 w3.2
  let x1 := ad n.1 w.1 w.2
  let x2 := mu x1.1 d.1 x1.2
  let x3 := ad o.m x2.1 x2.2
  let x4 := mo x3.1 6908435304716 x3.2
  let x := ke x4.1 o.e x4.2
  ⟨n.1, r.1, s.1, c.1, node.1, peri.1, x.1, x.2⟩
def endV (x y z : Int) (bad : Bool) : Option (AV × Bool) := bif bad then some (V3.zero.av, bad) else some (V3.av ⟨x, y, z⟩, bad)
def plcRaw (o : El) (tick : Int) (bad : Bool) : Option (AV × Bool) :=
  let m := midG ad su mu di mo ke sq si co da pa o tick bad
  let y1 := co m.x m.bad
  let y2 := su y1.1 o.e y1.2
  let u := mu o.a y2.1 y2.2
  let v1 := mu o.a m.r u.2
  let v2 := si m.x v1.2
  let v := mu v1.1 v2.1 v2.2
  let p := ab u.1 v.1 m.peri v.2
  let h := mu p.1.2 m.c p.2
  let q := ab p.1.1 h.1 m.node h.2
  let z := mu p.1.2 m.s q.2
  endV q.1.1 q.1.2 z.1 z.2
def placeRaw (ok : Int → Bool) (o : El) (tick : Int) (bad : Bool) : Option (AV × Bool) :=
  bif !(rt o) then some (V3.zero.av, true) else bif !(ok tick) then some (V3.zero.av, true) else bif bad then some (V3.zero.av, bad) else plcRaw ad su mu di mo ke sq si co da pa ab o tick bad
def envP8 : Env := [(128, m1 112 si), (129, m1 112 co), (76, m2 112 ad), (75, m2 112 su), (127, m2 112 mu), (125, m2 112 di), (131, m2 112 mo), (126, m1 112 sq), (74, m3 112 pa),
  (124, m1 112 da), (130, m2 112 ke), (132, .flow 112 (tup2F ab)), (122, .pure anyArgs (elF rt)), (30, .text), (123, .text)]
theorem place_raw (o : El) (tick : Int) (bad : Bool) : acall Tryz.prog (envP8 ad su mu di mo ke sq si co da pa ab rt) 150 78 [.ptr 0 0, .agg o.av, I tick] [.cells [.bool bad] 112] (flowK 112) = placeRaw ad su mu di mo ke sq si co da pa ab rt ckT o tick bad := by kernel_rfl
end
end Go.Proofs.YtdojnnlhaiennaaGreat.Orb

/- The reference's place, and the laws, as the interpreter finds them. Conditions: none. -/
namespace Go.Proofs.YtdojnnlhaiennaaGreat.Orb
open Go Go.Proofs.YtdojnnlhaiennaaGreat.Ae Go.Proofs.YtdojnnlhaiennaaGreat.Fx Go.Proofs.YtdojnnlhaiennaaGreat.Lx Go.Proofs.YtdojnnlhaiennaaGreat.Tx Go.Proofs.YtdojnnlhaiennaaGreat.Te Go.Proofs.YtdojnnlhaiennaaGreat.Rx Go.Proofs.YtdojnnlhaiennaaGreat.Row Go.Proofs.YtdojnnlhaiennaaGreat.Ve

section
variable (ad su mu di mo ke : Op2) (sq si co da : Op1) (pa : Op3) (rt : El → Bool)
end
end Go.Proofs.YtdojnnlhaiennaaGreat.Orb

/- Kepler's angle and the place: the program's and the reference's are the same plain functions. Conditions: none. -/
namespace Go.Proofs.YtdojnnlhaiennaaGreat.Orb
open Go Go.Proofs.YtdojnnlhaiennaaGreat.Ae Go.Proofs.YtdojnnlhaiennaaGreat.Fx Go.Proofs.YtdojnnlhaiennaaGreat.Lx Go.Proofs.YtdojnnlhaiennaaGreat.Tx Go.Proofs.YtdojnnlhaiennaaGreat.Te Go.Proofs.YtdojnnlhaiennaaGreat.Rx Go.Proofs.YtdojnnlhaiennaaGreat.Row Go.Proofs.YtdojnnlhaiennaaGreat.Ve

def daysP (t : Int) (bad : Bool) : Int × Bool := Fx.part 1099511627776 t 86400000 (bif !(ckT t) then true else bad)
def keplerP (m e : Int) (bad : Bool) : Int × Bool := kepG add sub mul div sinP cosP m e (bif (bif decide (e < 0) then true else decide (e > 109951162777)) then true else bad)
def aboutP : Op33 := aboG add sub mul sinP cosP
theorem daysG_eq (t : Int) (bad : Bool) : daysG Fx.part ckT t bad = some (I (daysP t bad).1, (daysP t bad).2) := by
  unfold daysG daysP
  cases ckT t <;> rfl
theorem kepRaw_eq (m e : Int) (bad : Bool) : kepRaw add sub mul div sinP cosP m e bad = some (I (keplerP m e bad).1, (keplerP m e bad).2) := by
  unfold kepRaw keplerP
  dsimp only
  cases (bif decide (e < 0) then true else decide (e > 109951162777)) <;> rfl
theorem tup2F_some {ab : Op33} {args : List AV} {g : Bool → AV × Bool} (h : tup2F ab args = some g) : ∃ u v a, args = [I u, I v, I a] ∧ ∀ bad, g bad = (.tup [I (ab u v a bad).1.1, I (ab u v a bad).1.2], (ab u v a bad).2) := by
  unfold tup2F at h
  split at h <;> cases h
  exact ⟨_, _, _, rfl, fun _ => rfl⟩
theorem days_con : Meth 124 (int1 daysP) := by
  refine flow_of (EnvOk.t (EnvOk.t (EnvOk.f ok_nil (enter_of Tryz.func74 (by kernel_rfl) rfl) part_con) (enter_of Tryz.func123 (by kernel_rfl) rfl)) (enter_of Tryz.func30 (by kernel_rfl) rfl)) 60 _ _ (fun _ => true) _ ?_
  intro args g _ h bad
  obtain ⟨a, rfl, hg⟩ := int1_some h
  exact (days_raw Fx.part a bad).trans ((daysG_eq a bad).trans (hg bad).symm)
theorem rdays_con : RMeth 96 (int1 daysP) := by
  refine flow_of (EnvOk.t (EnvOk.t (EnvOk.f ok_nil en_rPart rpart_con) (enter_of Tryz.func37 (by kernel_rfl) rfl)) (enter_of Tryz.func66 (by kernel_rfl) rfl)) 60 _ _ (fun _ => true) _ ?_
  intro args g _ h bad
  obtain ⟨a, rfl, hg⟩ := int1_some h
  exact (rdays_raw Fx.part a bad).trans ((daysG_eq a bad).trans (hg bad).symm)
theorem en_fFail : EnterOk Tryz.prog 123 := enter_of Tryz.func123 (by kernel_rfl) rfl
theorem en_rFail : EnterOk Tryz.prog 37 := enter_of Tryz.func37 (by kernel_rfl) rfl
theorem en_rAdd : EnterOk Tryz.prog 50 := enter_of Tryz.func50 (by kernel_rfl) rfl
theorem en_fAdd : EnterOk Tryz.prog 76 := enter_of Tryz.func76 (by kernel_rfl) rfl
theorem en_fSqrt : EnterOk Tryz.prog 126 := enter_of Tryz.func126 (by kernel_rfl) rfl
theorem en_fMod : EnterOk Tryz.prog 131 := enter_of Tryz.func131 (by kernel_rfl) rfl
theorem en_fPart : EnterOk Tryz.prog 74 := enter_of Tryz.func74 (by kernel_rfl) rfl
theorem about_con : Meth 132 (tup2F aboutP) := by
  refine flow_of (EnvOk.f (EnvOk.f (EnvOk.f (EnvOk.f (EnvOk.f ok_nil Fx.en_mul mul_con) en_sub sub_con) en_fAdd add_con) en_Cos cos_con) en_Sin sin_con) 60 _ _ (fun _ => true) _ ?_
  intro args g _ h bad
  obtain ⟨u, v, a, rfl, hg⟩ := tup2F_some h
  exact (about_raw add sub mul sinP cosP u v a bad).trans (congrArg some (hg bad).symm)
theorem envK8_ok : EnvOk Tryz.prog (envK8 add sub mul div sinP cosP) := EnvOk.f (EnvOk.f (EnvOk.f (EnvOk.f (EnvOk.f (EnvOk.f (EnvOk.t ok_nil en_fFail) Fx.en_div div_meth) Fx.en_mul mul_con) en_sub sub_con) en_fAdd add_con) en_Cos cos_con) en_Sin sin_con
theorem kepler_con : Meth 130 (int2 keplerP) := by
  refine flow_of envK8_ok 100 _ _ (fun _ => true) _ ?_
  intro args g _ h bad
  obtain ⟨a, b, rfl, hg⟩ := int2_some h
  exact (kepler_raw add sub mul div sinP cosP a b bad).trans ((kepRaw_eq a b bad).trans (hg bad).symm)
/-! ### The place -/
def tailP (ad su mu : Op2) (si co : Op1) (a b cc ss node : Int) (bad : Bool) : Option (AV × Bool) :=
  let h := mu b cc bad
  let q := aboG ad su mu si co a h.1 node h.2
  let z := mu b ss q.2
  endV q.1.1 q.1.2 z.1 z.2
section
variable {ad su mu : Op2} {si co : Op1} (hm : ∀ a b, mu a b true = (0, true)) (ha : ∀ a b, ad a b true = (0, true)) (hs : ∀ a b, su a b true = (0, true)) (hi : ∀ a, si a true = (0, true)) (hc : ∀ a, co a true = (0, true))
include hm ha hs hi hc in
end
def endP (x y z : Int) (bad : Bool) : V3 × Bool := bif bad then (V3.zero, true) else (⟨x, y, z⟩, false)
theorem endV_eq (x y z : Int) (bad : Bool) : endV x y z bad = some ((endP x y z bad).1.av, (endP x y z bad).2) := by cases bad <;> rfl
def midP : El → Int → Bool → Mid := midG add sub mul div mod keplerP sqrt sinP cosP daysP Fx.part
/-- The place in its plane. -/
def planeP (o : El) (m : Mid) : (Int × Int) × Bool :=
  let y1 := cosP m.x m.bad
  let y2 := sub y1.1 o.e y1.2
  let u := mul o.a y2.1 y2.2
  let v1 := mul o.a m.r u.2
  let v2 := sinP m.x v1.2
  let v := mul v1.1 v2.1 v2.2
  aboutP u.1 v.1 m.peri v.2
def skyP (m : Mid) (p : (Int × Int) × Bool) : V3 × Bool :=
  let h := mul p.1.2 m.c p.2
  let q := aboutP p.1.1 h.1 m.node h.2
  let z := mul p.1.2 m.s q.2
  endP q.1.1 q.1.2 z.1 z.2
def placeP (o : El) (tick : Int) (bad : Bool) : V3 × Bool :=
  bif !(rightO o) then (V3.zero, true) else bif !(ckT tick) then (V3.zero, true) else bif bad then (V3.zero, true) else
  let m := midP o tick bad
  skyP m (planeP o m)
theorem plcRaw_eq (o : El) (tick : Int) (bad : Bool) : plcRaw add sub mul div mod keplerP sqrt sinP cosP daysP Fx.part aboutP o tick bad = some ((skyP (midP o tick bad) (planeP o (midP o tick bad))).1.av, (skyP (midP o tick bad) (planeP o (midP o tick bad))).2) := endV_eq ..
section
variable (ad su mu di mo ke : Op2) (sq si co da : Op1) (pa : Op3)
end
theorem placeRaw_eq (o : El) (tick : Int) (bad : Bool) : placeRaw add sub mul div mod keplerP sqrt sinP cosP daysP Fx.part aboutP rightO ckT o tick bad = some ((placeP o tick bad).1.av, (placeP o tick bad).2) := by
  unfold placeRaw placeP
  rw [plcRaw_eq]
  cases rightO o
  · rfl
  · cases ckT tick
    · rfl
    · cases bad
      · simp only [Bool.not_true, cond_false]
      · rfl
def plcF (pl : El → Int → Bool → V3 × Bool) : List AV → Option (Bool → AV × Bool)
  | [.agg [.int .i64 a, .int .i64 e, .int .i64 i, .int .i64 n, .int .i64 p, .int .i64 m, .int .i64 t], .int .i64 k] => some fun bad => ((pl ⟨a, e, i, n, p, m, t⟩ k bad).1.av, (pl ⟨a, e, i, n, p, m, t⟩ k bad).2)
  | _ => none
theorem plcF_some {pl : El → Int → Bool → V3 × Bool} {args : List AV} {g : Bool → AV × Bool} (h : plcF pl args = some g) : ∃ (o : El) (k : Int), args = [.agg o.av, I k] ∧ ∀ bad, g bad = ((pl o k bad).1.av, (pl o k bad).2) := by
  unfold plcF at h
  split at h <;> cases h
  exact ⟨⟨_, _, _, _, _, _, _⟩, _, rfl, fun _ => rfl⟩
theorem place_con : Meth 78 (plcF placeP) := by
  have hE : EnvOk Tryz.prog (envP8 add sub mul div mod keplerP sqrt sinP cosP daysP Fx.part aboutP rightO) :=
    EnvOk.f (EnvOk.f (EnvOk.f (EnvOk.f (EnvOk.f (EnvOk.f (EnvOk.f (EnvOk.f (EnvOk.f (EnvOk.f (EnvOk.f (EnvOk.f (EnvOk.p (EnvOk.t (EnvOk.t ok_nil en_fFail) (enter_of Tryz.func30 (by kernel_rfl) rfl)) (enter_of Tryz.func122 (by kernel_rfl) rfl) oright_con)
      (enter_of Tryz.func132 (by kernel_rfl) rfl) about_con) (enter_of Tryz.func130 (by kernel_rfl) rfl) kepler_con) (enter_of Tryz.func124 (by kernel_rfl) rfl) days_con)
      en_fPart part_con) en_fSqrt sqrt_con) en_fMod mod_con) Fx.en_div div_meth) Fx.en_mul mul_con) en_sub sub_con) en_fAdd add_con) en_Cos cos_con) en_Sin sin_con
  refine flow_of hE 150 _ _ (fun _ => true) _ ?_
  intro args g _ h bad
  obtain ⟨o, k, rfl, hg⟩ := plcF_some h
  exact (place_raw add sub mul div mod keplerP sqrt sinP cosP daysP Fx.part aboutP rightO o k bad).trans ((placeRaw_eq o k bad).trans (congrArg some (hg bad).symm))
end Go.Proofs.YtdojnnlhaiennaaGreat.Orb

/- Package sun and its reference, and what they use of vec, as the interpreter finds them. Conditions: none. -/
namespace Go.Proofs.YtdojnnlhaiennaaGreat.Su
open Go Go.Proofs.YtdojnnlhaiennaaGreat.Ae Go.Proofs.YtdojnnlhaiennaaGreat.Fx Go.Proofs.YtdojnnlhaiennaaGreat.Lx Go.Proofs.YtdojnnlhaiennaaGreat.Tx Go.Proofs.YtdojnnlhaiennaaGreat.Te Go.Proofs.YtdojnnlhaiennaaGreat.Rx Go.Proofs.YtdojnnlhaiennaaGreat.Row Go.Proofs.YtdojnnlhaiennaaGreat.Ve Go.Proofs.YtdojnnlhaiennaaGreat.Orb

section
variable (ad su mu di mo : Op2) (sq si co da : Op1) (pa nr : Op3)
/-! ### Of vec -/
def dotG (a b : V3) (bad : Bool) : Int × Bool :=
  let m0 := mu a.x b.x bad
  let m1 := mu a.y b.y m0.2
  let s := ad m0.1 m1.1 m1.2
  let m2 := mu a.z b.z s.2
  ad s.1 m2.1 m2.2
def scaG (a : V3) (k : Int) (bad : Bool) : V3 × Bool :=
  let x := mu a.x k bad
  let y := mu a.y k x.2
  let z := mu a.z k y.2
  endP x.1 y.1 z.1 z.2
def subG (a b : V3) (bad : Bool) : V3 × Bool :=
  let x := su a.x b.x bad
  let y := su a.y b.y x.2
  let z := su a.z b.z y.2
  endP x.1 y.1 z.1 z.2
def scaRaw (a : V3) (k : Int) (bad : Bool) : Option (AV × Bool) :=
  let x := mu a.x k bad
  let y := mu a.y k x.2
  let z := mu a.z k y.2
  endV x.1 y.1 z.1 z.2
def subRaw (a b : V3) (bad : Bool) : Option (AV × Bool) :=
  let x := su a.x b.x bad
  let y := su a.y b.y x.2
  let z := su a.z b.z y.2
  endV x.1 y.1 z.1 z.2
theorem dot_raw (a b : V3) (bad : Bool) : acall Tryz.prog [(76, m2 112 ad), (127, m2 112 mu)] 60 136 [.ptr 0 0, a.av, b.av] [.cells [.bool bad] 112] (flowK 112) = some (I (dotG ad mu a b bad).1, (dotG ad mu a b bad).2) := by kernel_rfl
theorem sca_raw (a : V3) (k : Int) (bad : Bool) : acall Tryz.prog [(127, m2 112 mu), (116, .text), (184, .text)] 80 138 [.ptr 0 0, a.av, I k] [.cells [.bool bad] 112] (flowK 112) = scaRaw mu a k bad := by kernel_rfl
theorem sub_raw (a b : V3) (bad : Bool) : acall Tryz.prog [(75, m2 112 su), (116, .text), (183, .text)] 80 137 [.ptr 0 0, a.av, b.av] [.cells [.bool bad] 112] (flowK 112) = subRaw su a b bad := by kernel_rfl
/-! ### The direction -/
structure Ang where
  (d g q : Int)
  bad : Bool
def angG (tick : Int) (bad : Bool) : Ang :=
  let d := da tick bad
  let g1 := mu 18913766030 d.1 d.2
  let g2 := ad 6870645337657 g1.1 g1.2
  let g := mo g2.1 6908435304716 g2.2
  let q1 := mu 18914669500 d.1 g.2
  let q2 := ad 5399914965875 q1.1 q1.2
  let q := mo q2.1 6908435304716 q2.2
  ⟨d.1, g.1, q.1, q.2⟩
def lonG (x : Ang) : Int × Bool :=
  let s1 := si x.g x.bad
  let a1 := mu 36749037801 s1.1 s1.2
  let a2 := ad x.q a1.1 a1.2
  let s2 := si (wr .i64 (2 * x.g)) a2.2
  let b1 := mu 383801961 s2.1 s2.2
  ad a2.1 b1.1 b1.2
def tipRaw (d : Int) (l : Int × Bool) : Option (AV × Bool) :=
  let e1 := mu 6908 d l.2
  let e := su 449733620800 e1.1 e1.2
  let s := si l.1 e.2
  let c1 := co l.1 s.2
  let c2 := co e.1 c1.2
  let y := mu c2.1 s.1 c2.2
  let s3 := si e.1 y.2
  let z := mu s3.1 s.1 s3.2
  endV c1.1 y.1 z.1 z.2
def dirRaw (tick : Int) (bad : Bool) : Option (AV × Bool) :=
  let x := angG ad mu mo da tick bad
  tipRaw su mu si co x.d (lonG ad mu si x)
theorem dir_raw (tick : Int) (bad : Bool) : acall Tryz.prog [(128, m1 112 si), (129, m1 112 co), (76, m2 112 ad), (75, m2 112 su), (127, m2 112 mu), (131, m2 112 mo), (124, m1 112 da), (133, .text)] 100 79 [.ptr 0 0, I tick] [.cells [.bool bad] 112] (flowK 112) = dirRaw ad su mu mo si co da tick bad := by kernel_rfl
end
end Go.Proofs.YtdojnnlhaiennaaGreat.Su

/- The sun's direction, and who is shaded: the same plain functions. Conditions: none. -/
namespace Go.Proofs.YtdojnnlhaiennaaGreat.Su
open Go Go.Proofs.YtdojnnlhaiennaaGreat.Ae Go.Proofs.YtdojnnlhaiennaaGreat.Fx Go.Proofs.YtdojnnlhaiennaaGreat.Lx Go.Proofs.YtdojnnlhaiennaaGreat.Tx Go.Proofs.YtdojnnlhaiennaaGreat.Te Go.Proofs.YtdojnnlhaiennaaGreat.Rx Go.Proofs.YtdojnnlhaiennaaGreat.Row Go.Proofs.YtdojnnlhaiennaaGreat.Ve Go.Proofs.YtdojnnlhaiennaaGreat.Orb

section
variable {ad mu : Op2} {si : Op1} (hm : ∀ a b, mu a b true = (0, true)) (ha : ∀ a b, ad a b true = (0, true)) (hi : ∀ a, si a true = (0, true))
include hm ha hi in
end
def angP : Int → Bool → Ang := angG add mul mod daysP
def lonP : Ang → Int × Bool := lonG add mul sinP
def tipP (d : Int) (l : Int × Bool) : V3 × Bool :=
  let e1 := mul 6908 d l.2
  let e := sub 449733620800 e1.1 e1.2
  let s := sinP l.1 e.2
  let c1 := cosP l.1 s.2
  let c2 := cosP e.1 c1.2
  let y := mul c2.1 s.1 c2.2
  let s3 := sinP e.1 y.2
  let z := mul s3.1 s.1 s3.2
  endP c1.1 y.1 z.1 z.2
def dirP (tick : Int) (bad : Bool) : V3 × Bool := tipP (angP tick bad).d (lonP (angP tick bad))
theorem tip_eq (d : Int) (l : Int × Bool) : tipRaw sub mul sinP cosP d l = some ((tipP d l).1.av, (tipP d l).2) := endV_eq ..
theorem dirRaw_eq (tick : Int) (bad : Bool) : dirRaw add sub mul mod sinP cosP daysP tick bad = some ((dirP tick bad).1.av, (dirP tick bad).2) := tip_eq ..
def tickF (u : Int → Bool → V3 × Bool) : List AV → Option (Bool → AV × Bool)
  | [.int .i64 t] => some fun bad => ((u t bad).1.av, (u t bad).2)
  | _ => none
theorem tickF_some {u : Int → Bool → V3 × Bool} {args : List AV} {g : Bool → AV × Bool} (h : tickF u args = some g) : ∃ t, args = [I t] ∧ ∀ bad, g bad = ((u t bad).1.av, (u t bad).2) := by
  unfold tickF at h
  split at h <;> cases h
  exact ⟨_, rfl, fun _ => rfl⟩
def vv1F (u : V3 → V3 → Bool → Int × Bool) : List AV → Option (Bool → AV × Bool)
  | [.agg [.int .i64 a, .int .i64 b, .int .i64 c], .agg [.int .i64 d, .int .i64 e, .int .i64 f]] => some fun bad => (I (u ⟨a, b, c⟩ ⟨d, e, f⟩ bad).1, (u ⟨a, b, c⟩ ⟨d, e, f⟩ bad).2)
  | _ => none
theorem vv1F_some {u : V3 → V3 → Bool → Int × Bool} {args : List AV} {g : Bool → AV × Bool} (h : vv1F u args = some g) : ∃ a b : V3, args = [a.av, b.av] ∧ ∀ bad, g bad = (I (u a b bad).1, (u a b bad).2) := by
  unfold vv1F at h
  split at h <;> cases h
  exact ⟨⟨_, _, _⟩, ⟨_, _, _⟩, rfl, fun _ => rfl⟩
def vvF (u : V3 → V3 → Bool → V3 × Bool) : List AV → Option (Bool → AV × Bool)
  | [.agg [.int .i64 a, .int .i64 b, .int .i64 c], .agg [.int .i64 d, .int .i64 e, .int .i64 f]] => some fun bad => ((u ⟨a, b, c⟩ ⟨d, e, f⟩ bad).1.av, (u ⟨a, b, c⟩ ⟨d, e, f⟩ bad).2)
  | _ => none
theorem vvF_some {u : V3 → V3 → Bool → V3 × Bool} {args : List AV} {g : Bool → AV × Bool} (h : vvF u args = some g) : ∃ a b : V3, args = [a.av, b.av] ∧ ∀ bad, g bad = ((u a b bad).1.av, (u a b bad).2) := by
  unfold vvF at h
  split at h <;> cases h
  exact ⟨⟨_, _, _⟩, ⟨_, _, _⟩, rfl, fun _ => rfl⟩
def vkF (u : V3 → Int → Bool → V3 × Bool) : List AV → Option (Bool → AV × Bool)
  | [.agg [.int .i64 a, .int .i64 b, .int .i64 c], .int .i64 k] => some fun bad => ((u ⟨a, b, c⟩ k bad).1.av, (u ⟨a, b, c⟩ k bad).2)
  | _ => none
theorem vkF_some {u : V3 → Int → Bool → V3 × Bool} {args : List AV} {g : Bool → AV × Bool} (h : vkF u args = some g) : ∃ (a : V3) (k : Int), args = [a.av, I k] ∧ ∀ bad, g bad = ((u a k bad).1.av, (u a k bad).2) := by
  unfold vkF at h
  split at h <;> cases h
  exact ⟨⟨_, _, _⟩, _, rfl, fun _ => rfl⟩
def dotP : V3 → V3 → Bool → Int × Bool := dotG add mul
def scaP : V3 → Int → Bool → V3 × Bool := scaG mul
def vsubP : V3 → V3 → Bool → V3 × Bool := subG sub
theorem dot_con : Meth 136 (vv1F dotP) := by
  refine flow_of (EnvOk.f (EnvOk.f ok_nil Fx.en_mul mul_con) en_fAdd add_con) 60 _ _ (fun _ => true) _ ?_
  intro args g _ h bad
  obtain ⟨a, b, rfl, hg⟩ := vv1F_some h
  exact (dot_raw add mul a b bad).trans (congrArg some (hg bad).symm)
theorem sca_con : Meth 138 (vkF scaP) := by
  refine flow_of (EnvOk.f (EnvOk.t (EnvOk.t ok_nil (enter_of Tryz.func184 (by kernel_rfl) rfl)) (enter_of Tryz.func116 (by kernel_rfl) rfl)) Fx.en_mul mul_con) 80 _ _ (fun _ => true) _ ?_
  intro args g _ h bad
  obtain ⟨a, b, rfl, hg⟩ := vkF_some h
  exact (sca_raw mul a b bad).trans ((endV_eq ..).trans (congrArg some (hg bad).symm))
theorem vsub_con : Meth 137 (vvF vsubP) := by
  refine flow_of (EnvOk.f (EnvOk.t (EnvOk.t ok_nil (enter_of Tryz.func183 (by kernel_rfl) rfl)) (enter_of Tryz.func116 (by kernel_rfl) rfl)) en_sub sub_con) 80 _ _ (fun _ => true) _ ?_
  intro args g _ h bad
  obtain ⟨a, b, rfl, hg⟩ := vvF_some h
  exact (sub_raw sub a b bad).trans ((endV_eq ..).trans (congrArg some (hg bad).symm))
theorem en_fDays : EnterOk Tryz.prog 124 := enter_of Tryz.func124 (by kernel_rfl) rfl
theorem dir_con : Meth 79 (tickF dirP) := by
  refine flow_of (EnvOk.f (EnvOk.f (EnvOk.f (EnvOk.f (EnvOk.f (EnvOk.f (EnvOk.f (EnvOk.t ok_nil (enter_of Tryz.func133 (by kernel_rfl) rfl)) en_fDays days_con) en_fMod mod_con) Fx.en_mul mul_con) en_sub sub_con) en_fAdd add_con) en_Cos cos_con) en_Sin sin_con) 100 _ _ (fun _ => true) _ ?_
  intro args g _ h bad
  obtain ⟨t, rfl, hg⟩ := tickF_some h
  exact (dir_raw add sub mul mod sinP cosP daysP t bad).trans ((dirRaw_eq t bad).trans (congrArg some (hg bad).symm))
end Go.Proofs.YtdojnnlhaiennaaGreat.Su

/- The laws of layer 9, as the interpreter finds them; the one of the direction. Conditions: none. -/
namespace Go.Proofs.YtdojnnlhaiennaaGreat.Su
open Go Go.Proofs.YtdojnnlhaiennaaGreat.Ae Go.Proofs.YtdojnnlhaiennaaGreat.Fx Go.Proofs.YtdojnnlhaiennaaGreat.Lx Go.Proofs.YtdojnnlhaiennaaGreat.Tx Go.Proofs.YtdojnnlhaiennaaGreat.Te Go.Proofs.YtdojnnlhaiennaaGreat.Rx Go.Proofs.YtdojnnlhaiennaaGreat.Row Go.Proofs.YtdojnnlhaiennaaGreat.Ve Go.Proofs.YtdojnnlhaiennaaGreat.Orb

def vEq (a b : V3) : Bool := (a.x == b.x) && ((a.y == b.y) && ((a.z == b.z) && true))
theorem vEq_refl (a : V3) : vEq a a = true := by unfold vEq; simp
def boolF (u : V3 → V3 → Bool → Bool × Bool) : List AV → Option (Bool → AV × Bool)
  | [.agg [.int .i64 a, .int .i64 b, .int .i64 c], .agg [.int .i64 d, .int .i64 e, .int .i64 f]] => some fun bad => (.bool (u ⟨a, b, c⟩ ⟨d, e, f⟩ bad).1, (u ⟨a, b, c⟩ ⟨d, e, f⟩ bad).2)
  | _ => none
theorem boolF_some {u : V3 → V3 → Bool → Bool × Bool} {args : List AV} {g : Bool → AV × Bool} (h : boolF u args = some g) : ∃ a b : V3, args = [a.av, b.av] ∧ ∀ bad, g bad = (.bool (u a b bad).1, (u a b bad).2) := by
  unfold boolF at h
  split at h <;> cases h
  exact ⟨⟨_, _, _⟩, ⟨_, _, _⟩, rfl, fun _ => rfl⟩
section
variable (dt : V3 → V3 → Bool → Int × Bool) (sc : V3 → Int → Bool → V3 × Bool) (sb : V3 → V3 → Bool → V3 × Bool) (nr : Op3)
def shaG (a b : V3) (bad : Bool) : Bool × Bool :=
  let c := dt a b bad
  let s := sc b c.1 c.2
  let d := sb a s.1 s.2
  let n := nr d.1.x d.1.y d.1.z d.2
  (an (an (!n.2) (decide (c.1 < 0))) (decide (n.1 < 7012835795048)), n.2)
theorem shaded_raw (a b : V3) (bad : Bool) : acall Tryz.prog [(136, .flow 112 (vv1F dt)), (138, .flow 112 (vkF sc)), (137, .flow 112 (vvF sb)), (77, .flow 112 (nrmF nr))] 100 81 [.ptr 0 0, a.av, b.av] [.cells [.bool bad] 112] (flowK 112) =
    some (.bool (shaG dt sc sb nr a b bad).1, (shaG dt sc sb nr a b bad).2) := by kernel_rfl
end
def shaP : V3 → V3 → Bool → Bool × Bool := shaG dotP scaP vsubP norm
theorem sha_con : Meth 81 (boolF shaP) := by
  refine flow_of (EnvOk.f (EnvOk.f (EnvOk.f (EnvOk.f ok_nil en_vNorm vnorm_con) (enter_of Tryz.func137 (by kernel_rfl) rfl) vsub_con) (enter_of Tryz.func138 (by kernel_rfl) rfl) sca_con) (enter_of Tryz.func136 (by kernel_rfl) rfl) dot_con) 100 _ _ (fun _ => true) _ ?_
  intro args g _ h bad
  obtain ⟨a, b, rfl, hg⟩ := boolF_some h
  exact (shaded_raw dotP scaP vsubP norm a b bad).trans (congrArg some (hg bad).symm)
section
variable (sh : V3 → V3 → Bool → Bool × Bool) (di rdi : Int → Bool → V3 × Bool) (dt : V3 → V3 → Bool → Int × Bool) (sc : V3 → Int → Bool → V3 × Bool) (nr : Op3)
end
end Go.Proofs.YtdojnnlhaiennaaGreat.Su

/- The craft and a step of it, as plain values; how they lie in memory. Conditions: none. -/
namespace Go.Proofs.YtdojnnlhaiennaaGreat.Cs
open Go Go.Proofs.YtdojnnlhaiennaaGreat.Ae Go.Proofs.YtdojnnlhaiennaaGreat.Fx
open Go.Proofs.YtdojnnlhaiennaaGreat.Md (J Pl Sn)
open Go.Proofs.YtdojnnlhaiennaaGreat.Orb (El RO)
open Go.Proofs.YtdojnnlhaiennaaGreat.Se (Rdg)
open Go.Proofs.YtdojnnlhaiennaaGreat.Qx (Ns)

structure Cft where
  on : Bool
  tick : Int
  left : ByteArray
  pl : Pl
  placed : Bool
  el : El
  dr : Nat → Int
  gs : Nat → Int
  ack : Int
  err : Int
  rej : Int
def drA (f : Nat → Int) : List AV := Sh.ofL (.flag :: Ns 7) f 0
def gsA (f : Nat → Int) : List AV := Sh.ofL (Ns 43) f 0
def six (f : Nat → Int) : List AV := Sh.ofL (Ns 6) f 0
def Cft.av (c : Cft) : List AV := .bool c.on :: J c.tick :: .str c.left :: (c.pl.av ++ (.bool c.placed :: (c.el.av ++ (drA c.dr ++ (gsA c.gs ++ [J c.ack, J c.err, J c.rej])))))
structure Stp where
  tick : Int
  gap : Int
  sky : Nat → Int
  body : Nat → Int
  sn : Sn
def Stp.av (s : Stp) : List AV := .ptr 0 0 :: J s.tick :: J s.gap :: .map 2 :: (six s.sky ++ (six s.body ++ s.sn.av))
abbrev cB (c : Cft) : AB := .cells c.av 44
abbrev sB (s : Stp) : AB := .cells s.av 104
/-! ### What comes -/
def freshV (fr : Int → Int → Bool) : List AV → Option AV
  | [.agg [.int .i64 _, .int .i64 t, .int .i64 _, .int .i64 _, .int .i64 _], .int .i64 n] => some (.bool (fr t n))
  | _ => none
def envH (rd : Int → ByteArray → Rdg × Bool) (fr : Int → Int → Bool) (ro : Int → ByteArray → RO) : Env :=
  [(68, .text), (71, .text), (69, .pure anyArgs (Se.sreadF rd)), (70, .pure anyArgs (freshV fr)), (115, .pure anyArgs (Orb.oreadF ro))]
theorem ok_H : EnvOk Tryz.prog (envH Se.readS Se.freshP Orb.readO) :=
  EnvOk.t (EnvOk.t (EnvOk.p (EnvOk.p (EnvOk.p ok_nil (enter_of Tryz.func115 (by kernel_rfl) rfl) Orb.oread_con) (enter_of Tryz.func70 (by kernel_rfl) rfl) Se.fresh_con) (enter_of Tryz.func69 (by kernel_rfl) rfl) Se.sread_con)
    (enter_of Tryz.func71 (by kernel_rfl) rfl)) (enter_of Tryz.func68 (by kernel_rfl) rfl)
noncomputable def hearB : Code := Code.nav [1, 1, 1, 1, 2, 3] (bodyOf Tryz.prog 31)
end Go.Proofs.YtdojnnlhaiennaaGreat.Cs

/- What comes, frame by frame: the round of the loop. Conditions: none. -/
namespace Go.Proofs.YtdojnnlhaiennaaGreat.Cs
open Go Go.Proofs.YtdojnnlhaiennaaGreat.Ae Go.Proofs.YtdojnnlhaiennaaGreat.Fx
open Go.Proofs.YtdojnnlhaiennaaGreat.Md (J Pl Sn)
open Go.Proofs.YtdojnnlhaiennaaGreat.Orb (El RO)
open Go.Proofs.YtdojnnlhaiennaaGreat.Se (Rdg)
open Go.Proofs.YtdojnnlhaiennaaGreat.Qx (Ns)

def rjct (r : Int) : Int := wr .i64 ((if (65534 : Int) < r then 65534 else r) + 1)
def Cft.reject (c : Cft) : Cft := { c with rej := rjct c.rej }
def Cft.told (c : Cft) (o : RO) : Cft := { c with ack := o.o.q, err := o.e }
abbrev St3 := Ex × List (Nat × AV) × List AB
section
variable (rd : Int → ByteArray → Rdg × Bool) (fr : Int → Int → Bool) (ro : Int → ByteArray → RO) (c : Cft) (s : Stp) (z : AB) (es : List (MK × AV)) (kd : Nat → Int) (dt : Nat → ByteArray) (n : Nat) (i : Int)
abbrev hT (i : Int) : List (Nat × AV) := [(0, .ptr 3 0), (36, .own 4 n), (37, J n), (38, J i)]
abbrev hH (c : Cft) (es : List (MK × AV)) (s : Stp) : List AB := [cB c, z, .map false es, sB s, .tab (fun i => [J (kd i), .str (dt i)]) 2 n 53, .dead]
def hOut (c : Cft) (es : List (MK × AV)) (s : Stp) : Option St3 := some (.normal, hT n (wr .i64 (i + 1)), hH z kd dt n c es s)
def hSens (k : Int) (d : ByteArray) : Option St3 :=
  bif (rd k d).2 then
    bif (bif true then fr (rd k d).1.t s.tick else false) then hOut z kd dt n i c (putS (k, 0) (rd k d).1.av es) s else hOut z kd dt n i c.reject es s
  else bif (bif false then fr (rd k d).1.t s.tick else false) then hOut z kd dt n i c (putS (k, 0) (rd k d).1.av es) s else hOut z kd dt n i c.reject es s
def hOrd (o : RO) : Option St3 :=
  bif o.e != 0 then hOut z kd dt n i (c.told o).reject es s
  else bif (bif o.o.c == 1 then o.o.c == 1 else o.o.c == 2) then hOut z kd dt n i (c.told o) es { s with sn := { s.sn with order := o.o.c } }
  else bif o.o.c == 3 then hOut z kd dt n i { c.told o with el := o.o.el, placed := true } es s
  else bif o.o.c == 4 then hOut z kd dt n i { c.told o with rej := 0, pl := { c.pl with faults := 0 } } es s
  else hOut z kd dt n i (c.told o) es s
def hFrm (k : Int) (d : ByteArray) : Option St3 :=
  bif k == 1 then hSens rd fr c s z es kd dt n i k d
  else bif (bif k == 2 then k == 2 else k == 3) then hSens rd fr c s z es kd dt n i k d
  else bif k == 16 then hOrd c s z es kd dt n i (ro k d)
  else hOut z kd dt n i c.reject es s
abbrev hJ : Nat := i.toNat * 2 / 2
def keepL (ks : List Nat) (L : Nat) (e : Ex) (T : List (Nat × AV)) (H : List AB) : Option St3 := some (e, ks.map fun k => (k, get T k), H.take L)
theorem hear_round : acode Tryz.prog (envH rd fr ro) 100 79 hearB (hT n i) (hH z kd dt n c es s) (keepL [0, 36, 37, 38] 6) =
    bif decide (i < (n : Int)) then
      bif decide (0 ≤ i) && decide (i < (n : Int)) then
        bif (Nat.beq 2 2 && Nat.ble 1 2 && Nat.beq (i.toNat * 2 % 2) 0 && Nat.ble (hJ i + 1) n) then hFrm rd fr ro c s z es kd dt n i (kd (hJ i)) (dt (hJ i)) else none
      else none
    else some (.exit 0, hT n i, hH z kd dt n c es s) := by kernel_rfl
end
end Go.Proofs.YtdojnnlhaiennaaGreat.Cs

/- What comes: the loop over the frames. Conditions: none. -/
namespace Go.Proofs.YtdojnnlhaiennaaGreat.Ae
open Go
/-- A piece of code; of the heap the first L blocks are told. -/
theorem At.codeKL {P : Program} {env : Env} (hE : EnvOk P env) (fuel : Nat) (ks : List Nat) (L : Nat) {m0 : List Nat} {w0 : World} {n : Nat} {c : Code} {T T' : List (Nat × AV)} {H H' : List AB} {e : Ex}
    (h : acode P env fuel n c T H (Cs.keepL ks L) = some (e, T', H')) {Q : Exit → Act → World → Prop} {a : Act} {w : World} (hs : At m0 w0 n T H a w)
    (hQ : ∀ X a' w', At m0 w0 n T' (H' ++ X) a' w' → Q (exOf e) a' w') : c.wp P Q a w := by
  obtain ⟨⟨m, h1, h2, h3⟩, h4⟩ := hs
  refine (acode_both hE fuel).1 n c T H (Cs.keepL ks L) _ h m a w Q h1 h2 h4 fun e' T2 H2 a' m' w' q1 q2 q3 q4 q5 => ?_
  cases q5
  refine hQ (H2.drop L) a' w' ⟨⟨m', ⟨q1.1, fun i => ?_⟩, by rw [List.take_append_drop]; exact q2, h3.trans q3⟩, q4⟩
  rcases get_keep T2 ks i with h | h
  · rw [h]; simp only [R]
  · rw [h]; exact q1.2 i
end Go.Proofs.YtdojnnlhaiennaaGreat.Ae
namespace Go.Proofs.YtdojnnlhaiennaaGreat.Cs
open Go Go.Proofs.YtdojnnlhaiennaaGreat.Ae Go.Proofs.YtdojnnlhaiennaaGreat.Fx
open Go.Proofs.YtdojnnlhaiennaaGreat.Md (J Pl Sn)
open Go.Proofs.YtdojnnlhaiennaaGreat.Orb (El RO)
open Go.Proofs.YtdojnnlhaiennaaGreat.Se (Rdg)
open Go.Proofs.YtdojnnlhaiennaaGreat.Qx (Ns)
open Go.Proofs.YtdojnnlhaiennaaGreat.Cr (Frm ScR scanP cellsF)

/-! ### The readings, and the map that holds them -/
abbrev Rds := Int → Option Rdg
structure MapRel (es : List (MK × AV)) (rd : Rds) : Prop where
  flat : ∀ e ∈ es, e.2.noPtr = true
  some_ : ∀ k r, rd k = some r → ((k, 0), r.av) ∈ es
  none_ : ∀ k, rd k = none → ∀ e ∈ es, e.1 ≠ (k, 0)
theorem putS_mem {k : MK} {v : AV} {es : List (MK × AV)} (e : MK × AV) : e ∈ putS k v es ↔ e = (k, v) ∨ (e ∈ es ∧ e.1 ≠ k) := by
  unfold putS
  cases hb : es.any (fun e => keqB k e.1) with
  | true =>
    obtain ⟨e0, h0, h1⟩ := any_iff.1 hb
    simp only [cond_true, List.mem_map]
    constructor
    · rintro ⟨a, ha, rfl⟩
      unfold updS
      cases hk : keqB k a.1 with
      | true => left; rfl
      | false =>
        right
        refine ⟨ha, fun h => ?_⟩
        have h : a.1 = k := h
        rw [keq_iff.2 h.symm] at hk; cases hk
    · rintro (rfl | ⟨he, hk⟩)
      · refine ⟨e0, h0, ?_⟩
        unfold updS
        rw [keq_iff.2 h1.symm]; rfl
      · refine ⟨e, he, ?_⟩
        unfold updS
        cases hk' : keqB k e.1 with
        | true => exact absurd (keq_iff.1 hk').symm hk
        | false => rfl
  | false =>
    simp only [cond_false]
    rw [(insS_perm k v es).mem_iff, List.mem_cons]
    constructor
    · rintro (h | h)
      · exact .inl h
      · refine .inr ⟨h, fun hk => ?_⟩
        have := any_iff.2 ⟨e, h, hk⟩
        rw [hb] at this; cases this
    · rintro (h | h)
      · exact .inl h
      · exact .inr h.1
def upd (rd : Rds) (k : Int) (r : Rdg) : Rds := fun j => if j = k then some r else rd j
theorem MapRel.put {es : List (MK × AV)} {rd : Rds} (h : MapRel es rd) (k : Int) (r : Rdg) : MapRel (putS (k, 0) r.av es) (upd rd k r) := by
  refine ⟨fun e he => ?_, fun j r' hj => ?_, fun j hj e he => ?_⟩
  · rcases (putS_mem e).1 he with rfl | ⟨he, _⟩
    · rfl
    · exact h.flat e he
  · unfold upd at hj
    split at hj
    · rename_i hk
      cases hj
      exact (putS_mem _).2 (.inl (by rw [hk]))
    · rename_i hk
      exact (putS_mem _).2 (.inr ⟨h.some_ j r' hj, fun hc => hk (by simpa using hc)⟩)
  · unfold upd at hj
    split at hj
    · cases hj
    · rename_i hk
      rcases (putS_mem e).1 he with rfl | ⟨he, _⟩
      · intro hc
        simp at hc
        exact hk hc.symm
      · exact h.none_ j hj e he
theorem MapRel.nil : MapRel [] (fun _ => none) := by
  refine ⟨?_, ?_, ?_⟩
  · intro e h; cases h
  · intro k r h; cases h
  · intro k _ e h; cases h

/-! ### A frame -/
structure Hst where
  c : Cft
  s : Stp
  rd : Rds
def Hst.reject (h : Hst) : Hst := { h with c := h.c.reject }
def ordP (o : RO) (h : Hst) : Hst :=
  if o.e ≠ 0 then { h with c := (h.c.told o).reject }
  else if o.o.c = 1 ∨ o.o.c = 2 then { h with c := h.c.told o, s := { h.s with sn := { h.s.sn with order := o.o.c } } }
  else if o.o.c = 3 then { h with c := { h.c.told o with el := o.o.el, placed := true } }
  else if o.o.c = 4 then { h with c := { h.c.told o with rej := 0, pl := { h.c.pl with faults := 0 } } }
  else { h with c := h.c.told o }
def sensP (k : Int) (d : ByteArray) (h : Hst) : Hst :=
  if (Se.readS k d).2 = true ∧ Se.freshP (Se.readS k d).1.t h.s.tick = true then { h with rd := upd h.rd k (Se.readS k d).1 } else h.reject
def frmP (h : Hst) (x : Frm) : Hst :=
  if x.1 = 1 ∨ x.1 = 2 ∨ x.1 = 3 then sensP x.1 x.2 h
  else if x.1 = 16 then ordP (Orb.readO x.1 x.2) h
  else h.reject
section
variable (z : AB) (kd : Nat → Int) (dt : Nat → ByteArray) (n : Nat) (i : Int)
/-- What a round leads to. -/
theorem hFrm_eq (h : Hst) (es : List (MK × AV)) (hr : MapRel es h.rd) (k : Int) (d : ByteArray) :
    ∃ es', MapRel es' (frmP h (k, d)).rd ∧ hFrm Se.readS Se.freshP Orb.readO h.c h.s z es kd dt n i k d = hOut z kd dt n i (frmP h (k, d)).c es' (frmP h (k, d)).s := by
  have sens : ∃ es', MapRel es' (sensP k d h).rd ∧ hSens Se.readS Se.freshP h.c h.s z es kd dt n i k d = hOut z kd dt n i (sensP k d h).c es' (sensP k d h).s := by
    unfold hSens sensP
    cases (Se.readS k d).2 with
    | false => exact ⟨es, by rw [if_neg (by simp)]; exact hr, by rw [bf, bf, bf, if_neg (by simp)]; rfl⟩
    | true =>
      cases hf : Se.freshP (Se.readS k d).1.t h.s.tick with
      | true => exact ⟨putS (k, 0) (Se.readS k d).1.av es, by rw [if_pos ⟨rfl, rfl⟩]; exact hr.put k _, by rw [bt, bt, bt, if_pos ⟨rfl, rfl⟩]⟩
      | false => exact ⟨es, by rw [if_neg (by simp)]; exact hr, by rw [bt, bt, bf, if_neg (by simp)]; rfl⟩
  unfold frmP hFrm
  simp only
  by_cases k1 : k = 1
  · rw [if_pos (.inl k1), show (k == 1) = true by rw [k1]; rfl, bt]; exact sens
  rw [show (k == 1) = false from beq_eq_false_iff_ne.2 k1, bf]
  by_cases k2 : k = 2
  · rw [if_pos (.inr (.inl k2)), show (k == 2) = true by rw [k2]; rfl, bt, bt]; exact sens
  rw [show (k == 2) = false from beq_eq_false_iff_ne.2 k2, bf]
  by_cases k3 : k = 3
  · rw [if_pos (.inr (.inr k3)), show (k == 3) = true by rw [k3]; rfl, bt]; exact sens
  rw [show (k == 3) = false from beq_eq_false_iff_ne.2 k3, bf, if_neg (by rintro (h | h | h) <;> contradiction)]
  by_cases k16 : k = 16
  · rw [if_pos k16, show (k == 16) = true by rw [k16]; rfl, bt]
    generalize Orb.readO k d = o
    unfold hOrd ordP
    by_cases he : o.e = 0
    · rw [if_neg (fun h => h he), show (o.e != 0) = false by rw [he]; rfl, bf]
      by_cases c1 : o.o.c = 1
      · rw [if_pos (.inl c1), show (o.o.c == 1) = true by rw [c1]; rfl, bt, bt]; exact ⟨es, hr, rfl⟩
      rw [show (o.o.c == 1) = false from beq_eq_false_iff_ne.2 c1, bf]
      by_cases c2 : o.o.c = 2
      · rw [if_pos (.inr c2), show (o.o.c == 2) = true by rw [c2]; rfl, bt]; exact ⟨es, hr, rfl⟩
      rw [show (o.o.c == 2) = false from beq_eq_false_iff_ne.2 c2, bf, if_neg (by rintro (h | h) <;> contradiction)]
      by_cases c3 : o.o.c = 3
      · rw [if_pos c3, show (o.o.c == 3) = true by rw [c3]; rfl, bt]; exact ⟨es, hr, rfl⟩
      rw [show (o.o.c == 3) = false from beq_eq_false_iff_ne.2 c3, bf, if_neg c3]
      by_cases c4 : o.o.c = 4
      · rw [if_pos c4, show (o.o.c == 4) = true by rw [c4]; rfl, bt]; exact ⟨es, hr, rfl⟩
      · rw [if_neg c4, show (o.o.c == 4) = false from beq_eq_false_iff_ne.2 c4, bf]; exact ⟨es, hr, rfl⟩
    · rw [if_pos he, show (o.e != 0) = true from bne_iff_ne.2 he, bt]; exact ⟨es, hr, rfl⟩
  · rw [if_neg k16, show (k == 16) = false from beq_eq_false_iff_ne.2 k16, bf]
    exact ⟨es, hr, rfl⟩
end
def Cft.zero : Cft := ⟨false, 0, Cr.eS, Pl.zero, false, El.zero, fun _ => 0, fun _ => 0, 0, 0, 0⟩
theorem cav_trunc (L : Nat) (c : Cft) : AV.truncL L c.av = c.av := rfl
theorem sav_trunc (s : Stp) (L : Nat) (h : 3 ≤ L) : AV.truncL L s.av = s.av := by
  obtain ⟨k, rfl⟩ : ∃ k, L = k + 3 := ⟨L - 3, by omega⟩
  rfl
end Go.Proofs.YtdojnnlhaiennaaGreat.Cs

/- Calls that work on the first blocks of a heap: the others stay as they are. Conditions: the contracts that are looked up hold. -/
namespace Go.Proofs.YtdojnnlhaiennaaGreat.Ae
open Go

/-- Blocks that say nothing of blocks from L on. -/
def FirstOk (L : Nat) (H : List AB) : Prop := ∀ i B, H[i]? = some B → B.live = true ∧ B.inL L i ∧ ∀ m b o, capAt m i b o B
theorem FirstOk.nil (L : Nat) : FirstOk L [] := fun i B h => by simp at h
theorem first_cons {P : Nat → AB → Prop} {B : AB} {H : List AB} (hB : P 0 B) (h : ∀ i C, H[i]? = some C → P (i + 1) C) : ∀ i C, (B :: H)[i]? = some C → P i C := by
  intro i C hC
  cases i with
  | zero => simp at hC; subst hC; exact hB
  | succ i => exact h i C (by simpa using hC)
theorem take_get {m : List Nat} {L i b : Nat} (h : (m.take L)[i]? = some b) : m[i]? = some b ∧ i < L := by
  rw [List.getElem?_take] at h
  split at h
  · exact ⟨h, ‹_›⟩
  · cases h
theorem HR.first {m : List Nat} {H1 H2 : List AB} {w : World} (h : HR m (H1 ++ H2) w) (hf : FirstOk H1.length H1) : HR (m.take H1.length) H1 w := by
  have hl := h.len
  rw [List.length_append] at hl
  have htl : (m.take H1.length).length = H1.length := by rw [List.length_take]; omega
  refine ⟨htl, ?_, ?_⟩
  · intro i j b B C h1 h2 h3 h4 h5 h6
    obtain ⟨a1, a2⟩ := take_get h1
    obtain ⟨b1, b2⟩ := take_get h2
    exact h.nodup i j b B C a1 b1 (by rw [List.getElem?_append_left a2]; exact h3) (by rw [List.getElem?_append_left b2]; exact h4) h5 h6
  · intro i B h1 h2
    have hi : i < H1.length := (List.getElem?_eq_some_iff.1 h1).1
    obtain ⟨b, o, g1, g2, g3, g4⟩ := h.all i B (by rw [List.getElem?_append_left hi]; exact h1) h2
    obtain ⟨f1, f2, f3⟩ := hf i B h1
    refine ⟨b, o, by rw [List.getElem?_take, if_pos hi]; exact g1, g2, ?_, f3 _ _ _⟩
    refine RB_cut (y := m.drop H1.length) (i := i) ?_ (by rw [htl]; exact f2)
    rw [List.take_append_drop]
    exact g3
def keepN (L : Nat) (v : AV) (H : List AB) : Option (AV × List AB) := some (v, H.take L)
theorem first_calls {P : Program} {f : FuncId} {args : List AV} {H1 H1' : List AB} {v : AV} {L : Nat} (hL : H1.length = L) (hL' : H1'.length = L)
    (ha : AV.truncL L args = args) (hv : v.trunc L = v) (hf : FirstOk L H1) (hf' : ∀ i B, H1'[i]? = some B → B.inL L i ∧ ∀ m b o, capAt m i b o B)
    {m : List Nat} {H2 : List AB} {w : World} (hH : HR m (H1 ++ H2) w) {Args : Array Value} (hA : RL m args Args.toList)
    (h : ∀ m1 : List Nat, HR m1 H1 w → RL m1 args Args.toList → Calls P f Args w fun e w' => ∃ V m' H', e = .returned V ∧ R m' v V ∧ HR m' H' w' ∧ Ext m1 w m' w' ∧ H'.take L = H1') :
    Calls P f Args w fun e w' => ∃ V m', e = .returned V ∧ R m' v V ∧ HR m' (H1' ++ H2) w' ∧ Ext m w m' w' := by
  have hl := hH.len
  rw [List.length_append, hL] at hl
  have htl : (m.take L).length = L := by rw [List.length_take]; omega
  have hH1 : HR (m.take L) H1 w := by
    have := hH.first (hL ▸ hf)
    rwa [hL] at this
  have hA1 : RL (m.take L) args Args.toList := RL_cut (y := m.drop L) (by rw [List.take_append_drop]; exact hA) (by rw [htl]; exact ha)
  refine (h (m.take L) hH1 hA1).mono fun e w' ⟨V, m', H', e1, e2, e3, e4, e5⟩ => ?_
  subst e5
  obtain ⟨x, hx, hxs⟩ := e4.pre
  subst hx
  have blk : ∀ b, b < w.heap.size → b ∉ m.take L → w'.heap[b]? = w.heap[b]? := fun b h1 h2 => e4.block b h1 h2
  have hRV : R m v V := by
    have h1 : R (m.take L) v V := R_cut (y := x) e2 (by rw [htl]; exact hv)
    have h2 := R_mono (m.drop L) v h1
    rwa [List.take_append_drop] at h2
  refine ⟨V, m, e1, hRV, ⟨by rw [List.length_append, hL', hl], ?_, ?_⟩, ⟨⟨[], by simp, fun b hb => by cases hb⟩, e4.os, e4.tape, e4.output, e4.size, fun k hk hkm => e4.block k hk (fun h => hkm (List.mem_of_mem_take h))⟩⟩
  · have cross : ∀ (i j b : Nat) (B C : AB), i < L → L ≤ j → m[i]? = some b → m[j]? = some b → (H'.take L ++ H2)[j]? = some C → C.live = true → False := by
      intro i j b B C hi hj h1 h2 h3 h4
      have h3' : (H1 ++ H2)[j]? = some C := by
        rw [List.getElem?_append_right (by omega)] at h3 ⊢
        rw [hL] at *
        rw [hL'] at h3
        exact h3
      obtain ⟨B1, hB1⟩ : ∃ B1, H1[i]? = some B1 := ⟨_, List.getElem?_eq_getElem (by omega)⟩
      have := hH.nodup i j b B1 C h1 h2 (by rw [List.getElem?_append_left (by omega)]; exact hB1) h3' (hf i B1 hB1).1 h4
      omega
    intro i j b B C h1 h2 h3 h4 h5 h6
    rcases Nat.lt_or_ge i L with hi | hi <;> rcases Nat.lt_or_ge j L with hj | hj
    · rw [List.getElem?_append_left (by omega)] at h3 h4
      have g1 : (m.take L ++ x)[i]? = some b := get_mono x (by rw [List.getElem?_take, if_pos hi]; exact h1)
      have g2 : (m.take L ++ x)[j]? = some b := get_mono x (by rw [List.getElem?_take, if_pos hj]; exact h2)
      refine e3.nodup i j b B C g1 g2 ?_ ?_ h5 h6
      · rw [List.getElem?_take, if_pos hi] at h3; exact h3
      · rw [List.getElem?_take, if_pos hj] at h4; exact h4
    · exact (cross i j b B C hi hj h1 h2 h4 h6).elim
    · exact (cross j i b C B hj hi h2 h1 h3 h5).elim
    · have h3' : (H1 ++ H2)[i]? = some B := by
        rw [List.getElem?_append_right (by omega)] at h3 ⊢
        rw [hL'] at h3; rw [hL]; exact h3
      have h4' : (H1 ++ H2)[j]? = some C := by
        rw [List.getElem?_append_right (by omega)] at h4 ⊢
        rw [hL'] at h4; rw [hL]; exact h4
      exact hH.nodup i j b B C h1 h2 h3' h4' h5 h6
  · intro i B h1 h2
    rcases Nat.lt_or_ge i L with hi | hi
    · rw [List.getElem?_append_left (by omega)] at h1
      obtain ⟨f1, f2⟩ := hf' i B h1
      rw [List.getElem?_take, if_pos hi] at h1
      obtain ⟨b, o, g1, g2, g3, g4⟩ := e3.all i B h1 h2
      have hm : (m.take L)[i]? = some b := by
        rw [List.getElem?_append_left (by omega)] at g1; exact g1
      refine ⟨b, o, (take_get hm).1, g2, ?_, f2 _ _ _⟩
      have h3 : RB (m.take L) B o := RB_cut g3 (by rw [htl]; exact f1)
      have h4 := RB_mono (m.drop L) h3
      rwa [List.take_append_drop] at h4
    · have h1' : (H1 ++ H2)[i]? = some B := by
        rw [List.getElem?_append_right (by omega)] at h1 ⊢
        rw [hL'] at h1; rw [hL]; exact h1
      obtain ⟨b, o, g1, g2, g3, g4⟩ := hH.all i B h1' h2
      refine ⟨b, o, g1, ?_, g3, g4⟩
      rw [blk b (hH.lt g1 h1' h2) ?_]
      · exact g2
      · intro hb
        obtain ⟨k, hk⟩ := List.mem_iff_getElem?.1 hb
        obtain ⟨hk1, hk2⟩ := take_get hk
        obtain ⟨B1, hB1⟩ : ∃ B1, H1[k]? = some B1 := ⟨_, List.getElem?_eq_getElem (by omega)⟩
        have := hH.nodup k i b B1 B hk1 g1 (by rw [List.getElem?_append_left (by omega)]; exact hB1) h1' (hf k B1 hB1).1 h2
        omega
theorem first_run {P : Program} {env : Env} (hE : EnvOk P env) (fuel : Nat) {f : FuncId} {args : List AV} {H1 H1' : List AB} {v : AV} {L : Nat} (hL : H1.length = L) (hL' : H1'.length = L) (h : acall P env fuel f args H1 (keepN L) = some (v, H1'))
    (ha : AV.truncL L args = args) (hv : v.trunc L = v) (hf : FirstOk L H1) (hf' : ∀ i B, H1'[i]? = some B → B.inL L i ∧ ∀ m b o, capAt m i b o B)
    {m : List Nat} {H2 : List AB} {w : World} (hH : HR m (H1 ++ H2) w) {Args : Array Value} (hA : RL m args Args.toList) :
    Calls P f Args w fun e w' => ∃ V m', e = .returned V ∧ R m' v V ∧ HR m' (H1' ++ H2) w' ∧ Ext m w m' w' :=
  first_calls hL hL' ha hv hf hf' hH hA fun m1 hH1 hA1 => (acall_ok hE h hA1 hH1).mono fun e w' ⟨v', V, m', H', e1, e2, e3, e4, e5⟩ => by
    cases e5
    exact ⟨V, m', H', e1, e2, e3, e4, rfl⟩

/-! ### A call that looks at the first block -/
mutual
theorem noPtr_tr' (L : Nat) : ∀ v : AV, v.noPtr = true → v.trunc L = v
  | .int .., _ => rfl
  | .bool _, _ => rfl
  | .str _, _ => rfl
  | .ptr .., h => by simp [AV.noPtr] at h
  | .nilp, _ => rfl
  | .slice .., h => by simp [AV.noPtr] at h
  | .nils, _ => rfl
  | .own .., h => by simp [AV.noPtr] at h
  | .view .., h => by simp [AV.noPtr] at h
  | .agg l, h => by simp only [AV.noPtr] at h; simp only [AV.trunc, noPtr_trL L l h]
  | .tup l, h => by simp only [AV.noPtr] at h; simp only [AV.trunc, noPtr_trL L l h]
  | .fn .., h => by simp [AV.noPtr] at h
  | .nilfn, _ => rfl
  | .map _, h => by simp [AV.noPtr] at h
  | .strF .., _ => rfl
  | .intF .., _ => rfl
  | .strG .., _ => rfl
  | .any, h => by simp [AV.noPtr] at h
theorem noPtr_trL (L : Nat) : ∀ l : List AV, AV.noPtrL l = true → AV.truncL L l = l
  | [], _ => rfl
  | v :: l, h => by
    simp only [AV.noPtrL, Bool.and_eq_true] at h
    simp only [AV.truncL, noPtr_tr' L v h.1, noPtr_trL L l h.2]
end
theorem noPtr_tr {L : Nat} (v : AV) (h : v.noPtr = true) : v.trunc L = v := noPtr_tr' L v h
def peekF (F : List AV → AB → Option AV) (args : List AV) (H : List AB) : Option (AV × List AB) :=
  match H with
  | B :: _ =>
    match F args B with
    | some v => some (v, H)
    | none => none
  | [] => none
theorem peek_of {P : Program} {f : FuncId} {C : List AV → Bool} {F : List AV → AB → Option AV}
    (h : ∀ args v B, C args = true → F args B = some v → v.noPtr = true ∧ AV.truncL 1 args = args ∧ B.live = true ∧ B.inL 1 0 ∧ (∀ m b o, capAt m 0 b o B) ∧
      ∀ (m1 : List Nat) (Args : Array Value) (w : World), RL m1 args Args.toList → HR m1 [B] w → Calls P f Args w fun e w' => ∃ V m', e = .returned V ∧ R m' v V ∧ HR m' [B] w' ∧ Ext m1 w m' w') : EffOk P f C (peekF F) := by
  intro args H v H' hC hF m Args w hA hH
  unfold peekF at hF
  split at hF
  · rename_i B rest
    split at hF
    · rename_i v0 hF0
      cases hF
      obtain ⟨h1, h2, h3, h4, h5, h6⟩ := h args v B hC hF0
      have h0 : ∀ i C, [B][i]? = some C → C = B ∧ i = 0 := fun i C hi => by
        cases i with
        | zero => simp at hi; exact ⟨hi.symm, rfl⟩
        | succ i => simp at hi
      refine first_calls (L := 1) (H1 := [B]) (H1' := [B]) rfl rfl h2 (noPtr_tr v h1) (fun i C hi => ?_) (fun i C hi => ?_) hH hA fun m1 hH1 hA1 => (h6 m1 Args w hA1 hH1).mono fun e w' ⟨V, m', e1, e2, e3, e4⟩ => ⟨V, m', [B], e1, e2, e3, e4, rfl⟩
      · obtain ⟨rfl, rfl⟩ := h0 i C hi; exact ⟨h3, h4, h5⟩
      · obtain ⟨rfl, rfl⟩ := h0 i C hi; exact ⟨h4, h5⟩
    · cases hF
  · cases hF
/-- .. by its body. -/
theorem peek_at {P : Program} {f : FuncId} {nt : Nat} {res : List ResultVar} (hb : hasBody P f nt res = true) {C : List AV → Bool} {F : List AV → AB → Option AV}
    (h : ∀ args v B, C args = true → F args B = some v → v.noPtr = true ∧ AV.truncL 1 args = args ∧ B.live = true ∧ B.inL 1 0 ∧ (∀ m b o, capAt m 0 b o B) ∧ args.length ≤ nt ∧
      ∀ (m1 : List Nat) (w0 : World) a, m1.length = 1 → At m1 w0 nt (mkT 0 args) [B] a w0 → (bodyOf P f).wp P (fun e a' w' => (e = .normal ∨ e = .ret) ∧ ∃ T' X vs, At m1 w0 nt T' (B :: X) a' w' ∧ ares P T' (B :: X) res = some vs ∧ tupOf vs = v) a w0) : EffOk P f C (peekF F) := by
  obtain ⟨fn, hfn, hbody, rfl, rfl, _⟩ := hasBody_ok hb
  refine peek_of fun args v B hC hF => ?_
  obtain ⟨h1, h2, h3, h4, h5, h6, h7⟩ := h args v B hC hF
  refine ⟨h1, h2, h3, h4, h5, fun m1 Args w hA hH => ?_⟩
  have hm : m1.length = 1 := hH.len
  refine calls_at hfn hbody h6 hA hH fun a ha => wp_mono (h7 m1 w a hm ha) ?_
  rintro e a' w' ⟨g1, T', X, vs, g2, g3, rfl⟩
  refine ⟨g1, T', B :: X, vs, g2, g3, fun V m' hV hH' hE => ⟨V, m1, rfl, R_noPtr _ h1 hV, ?_, ?_⟩⟩
  · have hs : At m1 w fn.ntmps [] [B] a' w' := g2.keep (by rw [hm]; exact Nat.le_refl _) (by simp) trivial ⟨.inr ⟨rfl, h4⟩, trivial⟩
    obtain ⟨⟨m2, _, q2, q3⟩, _⟩ := hs
    obtain ⟨x, hx, _⟩ := q3.pre
    have : x = [] := by
      have := q2.len
      rw [hx, List.length_append, hm] at this
      simpa using this
    rw [hx, this, List.append_nil] at q2
    exact q2
  · obtain ⟨x, hx, hxs⟩ := hE.pre
    exact ⟨⟨[], by simp, fun b hb => by cases hb⟩, hE.os, hE.tape, hE.output, hE.size, hE.block⟩
end Go.Proofs.YtdojnnlhaiennaaGreat.Ae

/- What comes: a contract. Conditions: none. -/
namespace Go.Proofs.YtdojnnlhaiennaaGreat.Cs
open Go Go.Proofs.YtdojnnlhaiennaaGreat.Ae Go.Proofs.YtdojnnlhaiennaaGreat.Fx
open Go.Proofs.YtdojnnlhaiennaaGreat.Md (J Pl Sn)
open Go.Proofs.YtdojnnlhaiennaaGreat.Orb (El RO)
open Go.Proofs.YtdojnnlhaiennaaGreat.Se (Rdg)
open Go.Proofs.YtdojnnlhaiennaaGreat.Qx (Ns)
open Go.Proofs.YtdojnnlhaiennaaGreat.Cr (Frm ScR scanP cellsF)

section
variable (z0 : Cft) (fs : List Frm)
def kdL (i : Nat) : Int := (fs.getD i (0, Cr.eS)).1
def dtL (i : Nat) : ByteArray := (fs.getD i (0, Cr.eS)).2
abbrev hHf (h : Hst) (es : List (MK × AV)) : List AB := hH (cB z0) (kdL fs) (dtL fs) fs.length h.c es h.s
theorem es_trunc {es : List (MK × AV)} {rd : Rds} (h : MapRel es rd) (L : Nat) : ∀ e ∈ es, e.2.trunc L = e.2 := fun e he => noPtr_tr e.2 (h.flat e he)
theorem hear_keep {m0 : List Nat} {w0 : World} (hm : m0.length = 4) {n : Nat} {T T2 : List (Nat × AV)} {h : Hst} {es : List (MK × AV)} (hr : MapRel es h.rd) {X : List AB} {a : Act} {w : World} (hs : At m0 w0 n T (hHf z0 fs h es ++ X) a w) (hT : okT 6 T T2) : At m0 w0 n T2 (hHf z0 fs h es) a w := by
  refine hs.keep (by rw [hm]; exact Nat.le_of_ble_eq_true rfl) (by simp) hT ⟨.inr ⟨rfl, cav_trunc _ _⟩, .inr ⟨rfl, cav_trunc _ _⟩, .inr ⟨rfl, es_trunc hr 6⟩, .inr ⟨rfl, sav_trunc _ _ (Nat.le_of_ble_eq_true rfl)⟩, .inr ⟨rfl, fun j _ => rfl⟩, .inl rfl, trivial⟩
theorem hear_loop {m0 : List Nat} {w0 : World} (hm : m0.length = 4) (hfs : fs.length ≤ 100000) {Q : Exit → Act → World → Prop} (h0 : Hst) {es0 : List (MK × AV)} (hr0 : MapRel es0 h0.rd)
    (hex : ∀ es a w, MapRel es (fs.foldl frmP h0).rd → At m0 w0 79 (hT fs.length fs.length) (hHf z0 fs (fs.foldl frmP h0) es) a w → Q (.exit 0) a w) {a : Act} {w : World} (hA : At m0 w0 79 (hT fs.length 0) (hHf z0 fs h0 es0) a w) :
    (Code.loop hearB).wp Tryz.prog Q a w := by
  refine At.loop (σ := Nat × List (MK × AV) × Hst) (fun x a w => x.1 ≤ fs.length ∧ MapRel x.2.1 x.2.2.rd ∧ (fs.drop x.1).foldl frmP x.2.2 = fs.foldl frmP h0 ∧ At m0 w0 79 (hT fs.length x.1) (hHf z0 fs x.2.2 x.2.1) a w) (fun x => fs.length - x.1) ?_ (0, es0, h0) ⟨Nat.zero_le _, hr0, rfl, hA⟩
  rintro ⟨i, es, h⟩ a w ⟨hi, hr, hf, hA⟩
  simp only at hi hr hf hA
  have hraw := hear_round Se.readS Se.freshP Orb.readO h.c h.s (cB z0) es (kdL fs) (dtL fs) fs.length i
  have hj : hJ (i : Int) = i := by unfold hJ; rw [Int.toNat_natCast]; omega
  by_cases hlt : i < fs.length
  · have hd : fs.drop i = (kdL fs i, dtL fs i) :: fs.drop (i + 1) := by
      rw [List.drop_eq_getElem_cons hlt]
      unfold kdL dtL
      rw [List.getD_eq_getElem?_getD, List.getElem?_eq_getElem hlt]
      rfl
    obtain ⟨es', hr', he⟩ := hFrm_eq (cB z0) (kdL fs) (dtL fs) fs.length i h es hr (kdL fs i) (dtL fs i)
    rw [hj, he] at hraw
    rw [decide_eq_true (by omega : (i : Int) < fs.length), decide_eq_true (by omega : 0 ≤ (i : Int)), Nat.ble_eq_true_of_le (by omega : i + 1 ≤ fs.length), show Nat.beq ((i : Int).toNat * 2 % 2) 0 = true by rw [Int.toNat_natCast, Nat.mul_mod_left]; rfl] at hraw
    refine At.codeKL ok_H 100 [0, 36, 37, 38] 6 hraw hA fun X a w hs => then_normal ⟨(i + 1, es', frmP h (kdL fs i, dtL fs i)), by simp only; omega, by simp only; omega, hr', ?_, ?_⟩
    · rw [← hf, hd]; rfl
    · refine hear_keep z0 fs hm hr' hs ⟨⟨rfl, rfl⟩, ⟨rfl, rfl⟩, ⟨rfl, rfl⟩, ⟨?_, rfl⟩, trivial⟩
      show J (wr .i64 ((i : Int) + 1)) = J ((i + 1 : Nat) : Int)
      rw [Cr.w_of (by omega)]
      rfl
  · have : i = fs.length := by omega
    subst this
    rw [decide_eq_false (by omega : ¬ (fs.length : Int) < fs.length)] at hraw
    rw [List.drop_length] at hf
    have hf' : h = fs.foldl frmP h0 := hf
    subst hf'
    exact At.codeKL ok_H 100 [0, 36, 37, 38] 6 hraw hA fun X a w hs => then_exit (hex es a w hr (hear_keep z0 fs hm hr hs ⟨⟨rfl, rfl⟩, ⟨rfl, rfl⟩, ⟨rfl, rfl⟩, ⟨rfl, rfl⟩, trivial⟩))
end
end Go.Proofs.YtdojnnlhaiennaaGreat.Cs

/- What comes: a contract. Conditions: none. -/
namespace Go.Proofs.YtdojnnlhaiennaaGreat.Cs
open Go Go.Proofs.YtdojnnlhaiennaaGreat.Ae Go.Proofs.YtdojnnlhaiennaaGreat.Fx
open Go.Proofs.YtdojnnlhaiennaaGreat.Md (J Pl Sn)
open Go.Proofs.YtdojnnlhaiennaaGreat.Orb (El RO)
open Go.Proofs.YtdojnnlhaiennaaGreat.Se (Rdg)
open Go.Proofs.YtdojnnlhaiennaaGreat.Qx (Ns)
open Go.Proofs.YtdojnnlhaiennaaGreat.Cr (Frm ScR scanP cellsF)

/-! ### A craft and a step, out of their cells -/
def Cft.of : List AV → Option Cft
  | .bool on :: .int .i64 t :: .str lf :: .int .i64 a :: .int .i64 b :: .int .i64 c :: .int .i64 d :: .int .i64 e :: .int .i64 f :: .bool pb :: .int .i64 o1 :: .int .i64 o2 :: .int .i64 o3 :: .int .i64 o4 :: .int .i64 o5 :: .int .i64 o6 :: .int .i64 o7 :: rest =>
    match Sh.takeL (.flag :: Ns 7) (rest.take 8), Sh.takeL (Ns 43) ((rest.drop 8).take 43), rest.drop 51 with
    | some xs, some ys, [.int .i64 k, .int .i64 r, .int .i64 j] => some ⟨on, t, lf, ⟨a, b, c, d, e, f⟩, pb, ⟨o1, o2, o3, o4, o5, o6, o7⟩, rowf xs, rowf ys, k, r, j⟩
    | _, _, _ => none
  | _ => none
theorem split3 {α : Type} (l : List α) (i j : Nat) : l.take i ++ ((l.drop i).take j ++ l.drop (i + j)) = l := by
  rw [← List.drop_drop, List.take_append_drop, List.take_append_drop]
theorem Cft.of_av {l : List AV} {c : Cft} (h : Cft.of l = some c) : l = c.av := by
  unfold Cft.of at h
  split at h
  · rename_i rest
    split at h
    · rename_i xs ys k r j h1 h2 h3
      cases h
      have e1 := Sh.take_rowL h1
      have e2 := Sh.take_rowL h2
      have e3 := split3 rest 8 43
      unfold Cft.av
      simp only [drA, gsA, e1, e2, ← h3]
      rw [e3]
      rfl
    · cases h
  · cases h
def Stp.of : List AV → Option Stp
  | .ptr 0 0 :: .int .i64 t :: .int .i64 g :: .map 2 :: rest =>
    match Sh.takeL (Ns 6) (rest.take 6), Sh.takeL (Ns 6) ((rest.drop 6).take 6), rest.drop 12 with
    | some xs, some ys, [.bool gp, .bool gy, .bool sl, .bool pr, .bool li, .bool bd, .bool ps, .int .i64 o] => some ⟨t, g, rowf xs, rowf ys, ⟨gp, gy, sl, pr, li, bd, ps, o⟩⟩
    | _, _, _ => none
  | _ => none
theorem Stp.of_av {l : List AV} {s : Stp} (h : Stp.of l = some s) : l = s.av := by
  unfold Stp.of at h
  split at h
  · rename_i rest
    split at h
    · rename_i xs ys gp gy sl pr li bd ps o h1 h2 h3
      cases h
      have e1 := Sh.take_rowL h1
      have e2 := Sh.take_rowL h2
      have e3 := split3 rest 6 6
      unfold Stp.av
      simp only [six, e1, e2]
      rw [show (Sn.av ⟨gp, gy, sl, pr, li, bd, ps, o⟩) = rest.drop 12 from h3.symm, e3]
    · cases h
  · cases h

/-! ### Scan, for one caller -/
def scE (em : ByteArray → Bool) : List AV → Bool
  | [.str s] => Nat.ble s.size 90000 && em s
  | _ => false
def scN (lf : ByteArray → ByteArray) (ov : ByteArray → Int) : List AV → Option (AV × List AB)
  | [.str s] => some (.tup [.nils, .str (lf s), J (ov s)], [])
  | _ => none
def scW (fl : ByteArray → List AV) (ln : ByteArray → Nat) (lf : ByteArray → ByteArray) (ov : ByteArray → Int) : List AV → Option (AV × List AB)
  | [.str s] => some (.tup [.own 0 (ln s), .str (lf s), J (ov s)], [.rowz 2 (fl s) 53, .dead])
  | _ => none
def scF (s : ByteArray) : List Frm := (scanP s [] 0).fs
def lfP (s : ByteArray) : ByteArray := (scanP s [] 0).left
def ovP (s : ByteArray) : Int := ((scanP s [] 0).over : Int)
def envHN (em : ByteArray → Bool) (lf : ByteArray → ByteArray) (ov : ByteArray → Int) : Env := [(67, .eff (scE em) (madeF (scN lf ov))), (68, .text)]
def envHW (em : ByteArray → Bool) (fl : ByteArray → List AV) (ln : ByteArray → Nat) (lf : ByteArray → ByteArray) (ov : ByteArray → Int) : Env := [(67, .eff (scE em) (madeF (scW fl ln lf ov))), (68, .text)]
def emP (s : ByteArray) : Bool := (scF s).isEmpty
theorem scN_ok : EffOk Tryz.prog 67 (scE emP) (madeF (scN lfP ovP)) := by
  intro args H v H' hC hF m Args w hA hH
  unfold scE at hC
  split at hC
  · rename_i s
    simp only [Bool.and_eq_true] at hC
    have he : (scanP s [] 0).fs = [] := by simpa [emP, scF] using hC.2
    refine Cr.pscan_con [.str s] H v H' hC.1 ?_ m Args w hA hH
    rw [← hF]
    unfold madeF Cr.scO scN
    simp only [he]
    rfl
  · cases hC
theorem scW_ok : EffOk Tryz.prog 67 (scE fun s => !emP s) (madeF (scW (fun s => cellsF (scF s)) (fun s => (scF s).length) lfP ovP)) := by
  intro args H v H' hC hF m Args w hA hH
  unfold scE at hC
  split at hC
  · rename_i s
    simp only [Bool.and_eq_true] at hC
    refine Cr.pscan_con [.str s] H v H' hC.1 ?_ m Args w hA hH
    rw [← hF]
    unfold madeF Cr.scO scW
    have he : ∃ f l, (scanP s [] 0).fs = f :: l := by
      have := hC.2
      simp only [emP, scF] at this
      cases hs : (scanP s [] 0).fs with
      | nil => rw [hs] at this; cases this
      | cons f l => exact ⟨f, l, rfl⟩
    obtain ⟨f, l, he⟩ := he
    simp only [scF, lfP, ovP, he]
    rfl
  · cases hC
theorem ok_HN : EnvOk Tryz.prog (envHN emP lfP ovP) := EnvOk.e (EnvOk.t ok_nil (enter_of Tryz.func68 (by kernel_rfl) rfl)) (enter_of Tryz.func67 (by kernel_rfl) rfl) scN_ok
theorem ok_HW : EnvOk Tryz.prog (envHW (fun s => !emP s) (fun s => cellsF (scF s)) (fun s => (scF s).length) lfP ovP) := EnvOk.e (EnvOk.t ok_nil (enter_of Tryz.func68 (by kernel_rfl) rfl)) (enter_of Tryz.func67 (by kernel_rfl) rfl) scW_ok
noncomputable def hB : Code := bodyOf Tryz.prog 31
section
variable (em : ByteArray → Bool) (fl : ByteArray → List AV) (ln : ByteArray → Nat) (lf : ByteArray → ByteArray) (ov : ByteArray → Int) (c z0 : Cft) (s : Stp) (b : ByteArray) (M : AB)
abbrev h4 (c : Cft) : List AB := [cB c, cB z0, M, sB s]
theorem hear_0N : acode Tryz.prog (envHN em lf ov) 100 79 (Code.nav [0] hB) [(0, .ptr 3 0), (1, .str b)] (h4 z0 s M c) (keepK [0, 4, 5, 6]) =
    bif decide (c.left.size + b.size ≤ 4611686018427387904) then bif (Nat.ble (c.left ++ b).size 90000 && em (c.left ++ b)) then some (.normal, [(0, .ptr 3 0), (4, .nils), (5, .str (lf (c.left ++ b))), (6, J (ov (c.left ++ b)))], h4 z0 s M c) else none else none := by kernel_rfl
theorem hear_0W : acode Tryz.prog (envHW em fl ln lf ov) 100 79 (Code.nav [0] hB) [(0, .ptr 3 0), (1, .str b)] (h4 z0 s M c) (keepK [0, 4, 5, 6]) =
    bif decide (c.left.size + b.size ≤ 4611686018427387904) then bif (Nat.ble (c.left ++ b).size 90000 && em (c.left ++ b)) then some (.normal, [(0, .ptr 3 0), (4, .own 4 (ln (c.left ++ b))), (5, .str (lf (c.left ++ b))), (6, J (ov (c.left ++ b)))], h4 z0 s M c ++ [.rowz 2 (fl (c.left ++ b)) 53, .dead]) else none else none := by kernel_rfl
theorem hear_1 (lv : AV) (l : ByteArray) (o : Int) (X : List AB) : acode Tryz.prog (envHN em lf ov) 100 79 (Code.nav [1, 0] hB) [(0, .ptr 3 0), (4, lv), (5, .str l), (6, J o)] (h4 z0 s M c ++ X) (keepK [0, 4, 6]) =
    some (.normal, [(0, .ptr 3 0), (4, lv), (6, J o)], h4 z0 s M { c with left := l } ++ X) := by kernel_rfl
theorem hear_2 (lv : AV) (o : Int) (X : List AB) : acode Tryz.prog (envHN em lf ov) 100 79 (Code.nav [1, 1, 0] hB) [(0, .ptr 3 0), (4, lv), (6, J o)] (h4 z0 s M c ++ X) (keepK [0, 4]) =
    bif decide (o > 0) then some (.normal, [(0, .ptr 3 0), (4, lv)], h4 z0 s M c.reject ++ X) else some (.normal, [(0, .ptr 3 0), (4, lv)], h4 z0 s M c ++ X) := by kernel_rfl
theorem hear_4N : acode Tryz.prog (envHN em lf ov) 100 79 (Code.nav [1, 1, 1] hB) [(0, .ptr 3 0), (4, .nils)] (h4 z0 s M c) (keepK []) = some (.normal, [], h4 z0 s M c) := by kernel_rfl
theorem hear_4W (n : Nat) (X : List AB) : acode Tryz.prog (envHN em lf ov) 100 79 (Code.nav [1, 1, 1, 0] hB) [(0, .ptr 3 0), (4, .own 4 n)] (h4 z0 s M c ++ X) (keepK [0, 36, 37, 38]) = some (.normal, hT n 0, h4 z0 s M c ++ X) := by kernel_rfl
end

/-! ### The contract -/
def rdg (rd : Rds) (k : Int) : Rdg := (rd k).getD Rdg.zero
/-- The five numbers of a reading. -/
def Rdg.num (r : Rdg) : Nat → Int
  | 0 => r.k
  | 1 => r.t
  | 2 => r.v.x
  | 3 => r.v.y
  | _ => r.v.z
def rdB (rd : Rds) : AB := .mapN 5 (fun k => Rdg.num (rdg rd k)) (fun k => (rd k).isSome)
theorem tell_map {es : List (MK × AV)} {rd : Rds} (h : MapRel es rd) {m : List Nat} {o : Obj} (hR : RB m (.map false es) o) : RB m (rdB rd) o := by
  obtain ⟨ess, clock, es', h1, h2, h3, h4, h5⟩ := hR
  refine ⟨es, ess, clock, es', h1, h2, h3, h4, h5 rfl, h.flat, fun k => ⟨fun hk => ?_, fun hk => ?_⟩⟩
  · obtain ⟨r, hr⟩ := Option.isSome_iff_exists.1 hk
    have := h.some_ k r hr
    have e : rdg rd k = r := by unfold rdg; rw [hr]; rfl
    show ((k, 0), AV.agg (numL 5 (Rdg.num (rdg rd k)))) ∈ es
    rw [e]
    exact this
  · exact h.none_ k (by simpa using hk)
def hearP (c : Cft) (s : Stp) (b : ByteArray) : Hst :=
  (scF (c.left ++ b)).foldl frmP ⟨if ovP (c.left ++ b) > 0 then { c with left := lfP (c.left ++ b) }.reject else { c with left := lfP (c.left ++ b) }, s, fun _ => none⟩
def fitP (c : Cft) (b : ByteArray) : Bool := Nat.ble (c.left.size + b.size) 90000
def hearF (ft : Cft → ByteArray → Bool) (hp : Cft → Stp → ByteArray → Hst) (args : List AV) (H : List AB) : Option (AV × List AB) :=
  match args with
  | [.ptr 3 0, .str b] =>
    match H with
    | [.cells l t, .cells z t2, .map false [], .cells l' t'] =>
      match Cft.of l, Cft.of z, Stp.of l' with
      | some c, some z, some s =>
        bif Nat.beq t 44 && Nat.beq t2 44 && Nat.beq t' 104 && ft c b then some (.tup [], [cB (hp c s b).c, cB z, rdB (hp c s b).rd, sB (hp c s b).s]) else none
      | _, _, _ => none
    | _ => none
  | _ => none
theorem fit_size {c : Cft} {b : ByteArray} (h : fitP c b = true) : c.left.size + b.size ≤ 90000 := Nat.le_of_ble_eq_true h
theorem take4 {m0 : List Nat} {w0 : World} (hm : m0.length = 4) {n : Nat} {T : List (Nat × AV)} {c z0 : Cft} {s : Stp} {es : List (MK × AV)} {rd : Rds} (hr : MapRel es rd) {X : List AB} {a : Act} {w : World} (hs : At m0 w0 n T (cB c :: cB z0 :: .map false es :: sB s :: X) a w) :
    At m0 w0 n [] [cB c, cB z0, rdB rd, sB s] a w := by
  have h1 : At m0 w0 n [] [cB c, cB z0, .map false es, sB s] a w := hs.keep (by rw [hm]; exact Nat.le_refl _) (by simp) trivial
    ⟨.inr ⟨rfl, cav_trunc _ _⟩, .inr ⟨rfl, cav_trunc _ _⟩, .inr ⟨rfl, es_trunc hr 4⟩, .inr ⟨rfl, sav_trunc _ _ (Nat.le_of_ble_eq_true rfl)⟩, trivial⟩
  exact h1.tell 2 (.map false es) (rdB rd) rfl rfl (fun m o h => tell_map hr h) (fun _ _ _ => trivial)
theorem tell_tab {fs : List Frm} {m : List Nat} {o : Obj} (hR : RB m (.rowz 2 (cellsF fs) 53) o) : RB m (.tab (fun i => [J (kdL fs i), .str (dtL fs i)]) 2 fs.length 53) o := by
  obtain ⟨Vs, rfl, h0, h1⟩ := hR
  rw [Cr.cellsF_len] at h0 h1
  refine ⟨Vs, (0, 0), rfl, fun i hi => ⟨by omega, rfl, ?_⟩⟩
  have h2 := RL_take 2 (RL_drop (i * 2) h1)
  rw [drop_take_take Vs (by omega)] at h2
  have e : ∀ (fs : List Frm) (i : Nat), i < fs.length → ((cellsF fs).drop (i * 2)).take 2 = [J (kdL fs i), .str (dtL fs i)] := by
    intro fs
    induction fs with
    | nil => intro i hi; exact absurd hi (Nat.not_lt_zero _)
    | cons f l ih =>
      intro i hi
      cases i with
      | zero => rfl
      | succ i =>
        have := ih i (by simpa using hi)
        rw [Nat.succ_mul]
        exact this
  rw [e fs i hi] at h2
  exact h2
theorem scan_len : ∀ (t : ByteArray) (fs : List Frm) (o : Nat), (scanP t fs o).fs.length ≤ fs.length + t.size := by
  have key : ∀ (n : Nat) (t : ByteArray) (fs : List Frm) (o : Nat), t.size ≤ n → (scanP t fs o).fs.length ≤ fs.length + t.size := by
    intro n
    induction n with
    | zero =>
      intro t fs o h
      rw [scanP, if_pos (by omega)]
      exact Nat.le_add_right _ _
    | succ n ih =>
      intro t fs o h
      rw [scanP]
      by_cases h0 : t.size = 0
      · rw [if_pos h0]; exact Nat.le_add_right _ _
      rw [if_neg h0]
      have h1 := Cr.tail_size t 1
      have hf : 5 ≤ Cr.fln t := by unfold Cr.fln; omega
      have h2 := Cr.tail_size t (Cr.fln t)
      have g1 := ih (Cr.tailB t 1) fs (o + 1) (by omega)
      have g2 := ih (Cr.tailB t (Cr.fln t)) (fs ++ [Cr.frm (t.extract 0 (Cr.fln t))]) o (by omega)
      rw [List.length_append, List.length_cons, List.length_nil] at g2
      split
      · omega
      split
      · exact Nat.le_add_right _ _
      split
      · omega
      split
      · exact Nat.le_add_right _ _
      split
      · omega
      · omega
  exact fun t fs o => key t.size t fs o (Nat.le_refl _)
theorem hear_con : EffOk Tryz.prog 31 anyArgs (hearF fitP hearP) := by
  obtain ⟨fn, hfn, hbody, hnt, hres, _⟩ := hasBody_ok (P := Tryz.prog) (f := 31) (nt := 79) (res := []) (by kernel_rfl)
  intro args H v H' hC hF m Args W hA hH
  clear hC
  unfold hearF at hF
  split at hF
  · rename_i b
    split at hF
    · rename_i l t z t2 l' t'
      split at hF
      · rename_i c z0 s hc hz hs
        have e1 := Cft.of_av hc
        have e2 := Cft.of_av hz
        have e3 := Stp.of_av hs
        cases hb : (Nat.beq t 44 && Nat.beq t2 44 && Nat.beq t' 104 && fitP c b) with
        | false => rw [hb] at hF; cases hF
        | true =>
          rw [hb] at hF
          simp only [cond_true, Option.some.injEq, Prod.mk.injEq] at hF
          obtain ⟨rfl, rfl⟩ := hF
          simp only [Bool.and_eq_true] at hb
          obtain ⟨⟨⟨b1, b2⟩, b3⟩, b4⟩ := hb
          obtain rfl := Nat.eq_of_beq_eq_true b1
          obtain rfl := Nat.eq_of_beq_eq_true b2
          obtain rfl := Nat.eq_of_beq_eq_true b3
          subst e1; subst e2; subst e3
          have hm : m.length = 4 := hH.len
          have hfit := fit_size b4
          have hsz : (c.left ++ b).size = c.left.size + b.size := ByteArray.size_append
          refine calls_at (m := m) hfn hbody (by rw [hnt]; exact Nat.le_of_ble_eq_true rfl) hA hH fun a h0 => ?_
          rw [hnt] at h0 ⊢
          rw [hres]
          have h0 : At m W 79 [(0, .ptr 3 0), (1, .str b)] (h4 z0 s (.map false []) c) a W := h0
          have fin : ∀ {e : Exit} {a' : Act} {w' : World} {T : List (Nat × AV)} {X : List AB} {es : List (MK × AV)}, e = .normal ∨ e = .ret → MapRel es (hearP c s b).rd → At m W 79 T (cB (hearP c s b).c :: cB z0 :: .map false es :: sB (hearP c s b).s :: X) a' w' →
              (e = .normal ∨ e = .ret) ∧ ∃ T' H' vs, At m W 79 T' H' a' w' ∧ ares Tryz.prog T' H' [] = some vs ∧ ∀ V m', R m' (tupOf vs) V → HR m' H' w' → Ext m W m' w' → ∃ V_1 m'_1, Ending.returned V = .returned V_1 ∧ R m'_1 (.tup []) V_1 ∧ HR m'_1 [cB (hearP c s b).c, cB z0, rdB (hearP c s b).rd, sB (hearP c s b).s] w' ∧ Ext m W m'_1 w' := by
            intro e a' w' T X es he hr hs
            exact ⟨he, [], _, [], take4 hm hr hs, rfl, fun V m' h1 h2 h3 => ⟨V, m', rfl, h1, h2, h3⟩⟩
          refine wp_as hB rfl ?_
          by_cases hem : emP (c.left ++ b) = true
          · have hfs : scF (c.left ++ b) = [] := by simpa [emP] using hem
            have r0 := hear_0N emP lfP ovP c z0 s b (.map false [])
            rw [decide_eq_true (by omega : c.left.size + b.size ≤ 4611686018427387904), hem, Nat.ble_eq_true_of_le (by omega : (c.left ++ b).size ≤ 90000)] at r0
            refine wp_seqN (by kernel_rfl) (At.codeK ok_HN 100 [0, 4, 5, 6] r0 h0 fun a w hs => then_normal ?_)
            refine wp_seqN (by kernel_rfl) (wp_as (Code.nav [1, 0] hB) (by kernel_rfl) (At.codeK ok_HN 100 [0, 4, 6] (hear_1 emP lfP ovP c z0 s (.map false []) .nils (lfP (c.left ++ b)) (ovP (c.left ++ b)) []) hs fun a w hs => then_normal ?_))
            have r2 := hear_2 emP lfP ovP { c with left := lfP (c.left ++ b) } z0 s (.map false []) .nils (ovP (c.left ++ b)) []
            have last : ∀ (c' : Cft) a w', hearP c s b = ⟨c', s, fun _ => none⟩ → At m W 79 [(0, .ptr 3 0), (4, .nils)] (h4 z0 s (.map false []) c') a w' → (Code.nav [1, 1, 1] hB).wp Tryz.prog (fun e a' w' => (e = .normal ∨ e = .ret) ∧ ∃ T' H' vs, At m W 79 T' H' a' w' ∧ ares Tryz.prog T' H' [] = some vs ∧ ∀ V m', R m' (tupOf vs) V → HR m' H' w' → Ext m W m' w' → ∃ V_1 m'_1, Ending.returned V = .returned V_1 ∧ R m'_1 (.tup []) V_1 ∧ HR m'_1 [cB (hearP c s b).c, cB z0, rdB (hearP c s b).rd, sB (hearP c s b).s] w' ∧ Ext m W m'_1 w') a w' := by
              intro c' a w' he hs
              refine At.codeK ok_HN 100 [] (hear_4N emP lfP ovP c' z0 s (.map false [])) hs fun a w hs => ?_
              have e1 : (hearP c s b).c = c' := by rw [he]
              have e2 : (hearP c s b).s = s := by rw [he]
              have e3 : (hearP c s b).rd = fun _ => none := by rw [he]
              refine fin (T := []) (X := []) (es := []) (.inl rfl) (by rw [e3]; exact MapRel.nil) ?_
              rw [e1, e2]
              exact hs
            by_cases ho : ovP (c.left ++ b) > 0
            · rw [decide_eq_true ho, bt] at r2
              refine wp_seqN (by kernel_rfl) (wp_as (Code.nav [1, 1, 0] hB) (by kernel_rfl) (At.codeK ok_HN 100 [0, 4] r2 hs fun a w hs => then_normal ?_))
              refine wp_as (Code.nav [1, 1, 1] hB) (by kernel_rfl) (last _ a w ?_ hs)
              unfold hearP
              rw [hfs, if_pos ho]
              rfl
            · rw [decide_eq_false ho, bf] at r2
              refine wp_seqN (by kernel_rfl) (wp_as (Code.nav [1, 1, 0] hB) (by kernel_rfl) (At.codeK ok_HN 100 [0, 4] r2 hs fun a w hs => then_normal ?_))
              refine wp_as (Code.nav [1, 1, 1] hB) (by kernel_rfl) (last _ a w ?_ hs)
              unfold hearP
              rw [hfs, if_neg ho]
              rfl
          · have hem : (!emP (c.left ++ b)) = true := by simpa using hem
            have r0 := hear_0W (fun s => !emP s) (fun s => cellsF (scF s)) (fun s => (scF s).length) lfP ovP c z0 s b (.map false [])
            rw [decide_eq_true (by omega : c.left.size + b.size ≤ 4611686018427387904), hem, Nat.ble_eq_true_of_le (by omega : (c.left ++ b).size ≤ 90000)] at r0
            refine wp_seqN (by kernel_rfl) (At.codeK ok_HW 100 [0, 4, 5, 6] r0 h0 fun a w hs => then_normal ?_)
            have hs := hs.tell 4 (.rowz 2 (cellsF (scF (c.left ++ b))) 53) (.tab (fun i => [J (kdL (scF (c.left ++ b)) i), .str (dtL (scF (c.left ++ b)) i)]) 2 (scF (c.left ++ b)).length 53) rfl rfl (fun m o h => tell_tab h) (fun _ _ _ => trivial)
            refine wp_seqN (by kernel_rfl) (wp_as (Code.nav [1, 0] hB) (by kernel_rfl) (At.codeK ok_HN 100 [0, 4, 6] (hear_1 emP lfP ovP c z0 s (.map false []) _ (lfP (c.left ++ b)) (ovP (c.left ++ b)) [_, .dead]) hs fun a w hs => then_normal ?_))
            have r2 := hear_2 emP lfP ovP { c with left := lfP (c.left ++ b) } z0 s (.map false []) (.own 4 (scF (c.left ++ b)).length) (ovP (c.left ++ b)) [.tab (fun i => [J (kdL (scF (c.left ++ b)) i), .str (dtL (scF (c.left ++ b)) i)]) 2 (scF (c.left ++ b)).length 53, .dead]
            have hlen : (scF (c.left ++ b)).length ≤ 100000 := by
              have := scan_len (c.left ++ b) [] 0
              unfold scF
              simp only [List.length_nil] at this
              omega
            have last : ∀ (c' : Cft) a w', hearP c s b = (scF (c.left ++ b)).foldl frmP ⟨c', s, fun _ => none⟩ → At m W 79 [(0, .ptr 3 0), (4, .own 4 (scF (c.left ++ b)).length)] (h4 z0 s (.map false []) c' ++ [.tab (fun i => [J (kdL (scF (c.left ++ b)) i), .str (dtL (scF (c.left ++ b)) i)]) 2 (scF (c.left ++ b)).length 53, .dead]) a w' → (Code.nav [1, 1, 1] hB).wp Tryz.prog (fun e a' w' => (e = .normal ∨ e = .ret) ∧ ∃ T' H' vs, At m W 79 T' H' a' w' ∧ ares Tryz.prog T' H' [] = some vs ∧ ∀ V m', R m' (tupOf vs) V → HR m' H' w' → Ext m W m' w' → ∃ V_1 m'_1, Ending.returned V = .returned V_1 ∧ R m'_1 (.tup []) V_1 ∧ HR m'_1 [cB (hearP c s b).c, cB z0, rdB (hearP c s b).rd, sB (hearP c s b).s] w' ∧ Ext m W m'_1 w') a w' := by
              intro c' a w' he hs
              refine wp_seqN (by kernel_rfl) (wp_as (Code.nav [1, 1, 1, 0] hB) (by kernel_rfl) (At.codeK ok_HN 100 [0, 36, 37, 38] (hear_4W emP lfP ovP c' z0 s (.map false []) _ _) hs fun a w hs => then_normal ?_))
              refine wp_blockN 0 (by kernel_rfl) (wp_as (.loop hearB) (by kernel_rfl) ?_)
              refine hear_loop z0 (scF (c.left ++ b)) hm hlen ⟨c', s, fun _ => none⟩ MapRel.nil (fun es a w hr hs => inBlock_exit ?_) hs
              rw [← he] at hr hs
              exact fin (.inl rfl) hr hs
            by_cases ho : ovP (c.left ++ b) > 0
            · rw [decide_eq_true ho, bt] at r2
              refine wp_seqN (by kernel_rfl) (wp_as (Code.nav [1, 1, 0] hB) (by kernel_rfl) (At.codeK ok_HN 100 [0, 4] r2 hs fun a w hs => then_normal ?_))
              refine wp_as (Code.nav [1, 1, 1] hB) (by kernel_rfl) (last _ a w ?_ hs)
              unfold hearP
              rw [if_pos ho]
            · rw [decide_eq_false ho, bf] at r2
              refine wp_seqN (by kernel_rfl) (wp_as (Code.nav [1, 1, 0] hB) (by kernel_rfl) (At.codeK ok_HN 100 [0, 4] r2 hs fun a w hs => then_normal ?_))
              refine wp_as (Code.nav [1, 1, 1] hB) (by kernel_rfl) (last _ a w ?_ hs)
              unfold hearP
              rw [if_neg ho]
      · cases hF
    · cases hF
  · cases hF
end Go.Proofs.YtdojnnlhaiennaaGreat.Cs

/- The program's Wrap, of the frame of what is told: a contract. Conditions: none. -/
namespace Go.Proofs.YtdojnnlhaiennaaGreat.Cr
open Go Go.Proofs.YtdojnnlhaiennaaGreat.Ae Go.Proofs.YtdojnnlhaiennaaGreat.Fx

def sumV (cr : ByteArray → Int) : List AV → Option AV
  | [.str s] => some (.int .u16 (cr s))
  | _ => none
def envWr (cr : ByteArray → Int) : Env := [(164, .pure sumC (sumV cr))]
theorem ok_Wr : EnvOk Tryz.prog (envWr crcI) := by
  refine EnvOk.p ok_nil (enter_at (nt := 27) (res := [.tmp 2]) (by kernel_rfl)) ?_
  intro args v hC hv
  unfold sumV at hv
  split at hv
  · rename_i s
    cases hv
    exact sumG_of psum_con [.str s] _ hC rfl
  · cases hv

def tellL (g : Nat → Int) : List Int := wr .u8 32 :: wr .u8 26 :: (List.range 26).map g
def wrF (cr : ByteArray → Int) (g : Nat → Int) : ByteArray := strOf (165 :: (tellL g ++ [wr .u8 (cr (strOf (tellL g)) / p2 8), wr .u8 (cr (strOf (tellL g)))]))
theorem wrap_raw (cr : ByteArray → Int) (s : ByteArray) (g : Nat → Int) : acall Tryz.prog (envWr cr) 200 92 [.agg [.int .i64 32, .strG s 26 g]] [] okK = some (.tup [.str (wrF cr g), .bool true]) := by kernel_rfl
def wr0L : List Int := [wr .u8 0, wr .u8 0]
def wr0F (cr : ByteArray → Int) : ByteArray := strOf (165 :: (wr0L ++ [wr .u8 (cr (strOf wr0L) / p2 8), wr .u8 (cr (strOf wr0L))]))
theorem wrap_raw0 (cr : ByteArray → Int) (s : ByteArray) (g : Nat → Int) : acall Tryz.prog (envWr cr) 200 92 [.agg [.int .i64 0, .strG s 0 g]] [] okK = some (.tup [.str (wr0F cr), .bool true]) := by kernel_rfl
def isTell (k : Int) (s : ByteArray) : Bool := (k == 32 && Nat.beq s.size 26) || (k == 0 && Nat.beq s.size 0)
def wrC (tk : Int → ByteArray → Bool) : List AV → Bool
  | [.agg [.int .i64 k, .str s]] => tk k s
  | _ => false
def wrV (wf : ByteArray → ByteArray) : List AV → Option AV
  | [.agg [.int .i64 _, .str s]] => some (.tup [.str (wf s), .bool true])
  | _ => none
def wrapB26 (s : ByteArray) : ByteArray := wrF crcI (byteI s)
def wrapT (s : ByteArray) : ByteArray := if s.size = 26 then wrapB26 s else wr0F crcI
theorem wrap_con : PureOk Tryz.prog 92 (wrC isTell) (wrV wrapT) := by
  refine pure_of' ok_Wr 200 _ _ _ fun args v hC hv => ?_
  unfold wrV at hv
  split at hv
  · rename_i k s
    cases hv
    have hC : isTell k s = true := hC
    unfold isTell at hC
    simp only [Bool.or_eq_true, Bool.and_eq_true, beq_iff_eq] at hC
    have told : ∀ (n : Nat), s.size = n → ∀ (m : List Nat) (Vs : List Value), RL m [.agg [.int .i64 k, .str s]] Vs → RL m [.agg [.int .i64 k, .strG s n (byteI s)]] Vs := fun n hn m Vs h => by
      obtain ⟨V, Vs', rfl, h1, h2⟩ := RL_cons.1 h
      refine RL.cons ?_ h2
      simp only [R, RL] at h1 ⊢
      obtain ⟨Ws, e1, W1, Ws1, e2, e3, W2, Ws2, e4, e5, e6⟩ := h1
      exact ⟨Ws, e1, W1, Ws1, e2, e3, W2, Ws2, e4, ⟨e5, hn, fun i _ => rfl⟩, e6⟩
    rcases hC with ⟨rfl, h26⟩ | ⟨rfl, h0⟩
    · have h26 := Nat.eq_of_beq_eq_true h26
      refine ⟨rfl, [.agg [.int .i64 32, .strG s 26 (byteI s)]], rfl, told 26 h26, ?_⟩
      have e : wrapT s = wrF crcI (byteI s) := if_pos h26
      rw [e]
      exact wrap_raw crcI s (byteI s)
    · have h0 := Nat.eq_of_beq_eq_true h0
      refine ⟨rfl, [.agg [.int .i64 0, .strG s 0 (byteI s)]], rfl, told 0 h0, ?_⟩
      have e : wrapT s = wr0F crcI := if_neg (by omega)
      rw [e]
      exact wrap_raw0 crcI s (byteI s)
  · cases hv
theorem en_wrap : EnterOk Tryz.prog 92 := enter_of Tryz.func92 (by kernel_rfl) rfl

/-! ### It is opened as that -/
theorem strOf_l (ns : List Int) : (strOf ns).data.toList = ns.map fun n => UInt8.ofNat n.toNat := by
  unfold strOf
  simp
theorem strOf_byte (ns : List Int) (i : Nat) (z : Int) (h : ns[i]? = some z) (hz : 0 ≤ z ∧ z < 256) : byteI (strOf ns) i = z := by
  rw [byteI_at (strOf ns) i (UInt8.ofNat z.toNat) (by rw [strOf_l, List.getElem?_map, h]; rfl), UInt8.toNat_ofNat']
  omega
theorem strOf_size (ns : List Int) : (strOf ns).size = ns.length := by
  have : (strOf ns).data.toList.length = (strOf ns).size := by rw [Array.length_toList]; rfl
  rw [← this, strOf_l, List.length_map]
theorem strOf_ext (ns : List Int) (i j : Nat) : (strOf ns).extract i j = strOf ((ns.drop i).take (j - i)) := by
  refine ba_ext ?_
  rw [ext_l, strOf_l, strOf_l, List.map_take, List.map_drop]
theorem strOf_bytes (s : ByteArray) : strOf ((List.range s.size).map (byteI s)) = s := by
  refine ba_ext ?_
  rw [strOf_l, List.map_map]
  have hl : s.data.toList.length = s.size := by rw [Array.length_toList]; rfl
  refine List.ext_getElem (by simp [hl]) (fun i h1 h2 => ?_)
  simp only [List.getElem_map, List.getElem_range, Function.comp]
  have hi : i < s.size := by rw [← hl]; exact h2
  obtain ⟨b, h3, h4⟩ := byteI_l s i hi
  rw [h4]
  rw [List.getElem?_eq_getElem h2] at h3
  cases h3
  show UInt8.ofNat ((s.data.toList[i].toNat : Int)).toNat = _
  simp
theorem crcI_lt (s : ByteArray) : 0 ≤ crcI s ∧ crcI s < 65536 := by rw [crcI_l]; exact crcL_lt _
theorem open_wrap (s : ByteArray) (h : s.size = 26) : openV (wrapB26 s) = .tup [.agg [.int .i64 32, .str s], .bool true] := by
  have hc := crcI_lt (strOf (tellL (byteI s)))
  generalize hcr : crcI (strOf (tellL (byteI s))) = c at hc
  have hF : wrapB26 s = strOf (165 :: (tellL (byteI s) ++ [wr .u8 (c / p2 8), wr .u8 c])) := by unfold wrapB26 wrF; rw [hcr]
  have hlen : (tellL (byteI s)).length = 28 := by unfold tellL; simp
  have hsz : (wrapB26 s).size = 31 := by rw [hF, strOf_size]; simp [hlen]
  have hx : (wrapB26 s).extract 1 29 = strOf (tellL (byteI s)) := by
    rw [hF, strOf_ext, List.drop_succ_cons, List.drop_zero, List.take_append_of_le_length (by omega), List.take_of_length_le (by omega)]
  have hd : (wrapB26 s).extract 3 29 = s := by
    rw [hF, strOf_ext, List.drop_succ_cons]
    have : ((tellL (byteI s) ++ [wr .u8 (c / p2 8), wr .u8 c]).drop 2).take (29 - 3) = (List.range 26).map (byteI s) := by
      unfold tellL
      rw [List.cons_append, List.cons_append, List.drop_succ_cons, List.drop_succ_cons, List.drop_zero, List.take_append_of_le_length (by simp), List.take_of_length_le (by simp)]
    rw [this, ← h]
    exact strOf_bytes s
  have w1 : wr .u8 (c / p2 8) = c / 256 := by
    rw [show p2 8 = 256 from rfl]
    show c / 256 % 256 = _
    omega
  have w2 : wr .u8 c = c % 256 := rfl
  have g0 : byteI (wrapB26 s) 0 = 165 := by rw [hF]; exact strOf_byte _ 0 165 rfl (by omega)
  have g1 : byteI (wrapB26 s) 1 = 32 := by rw [hF]; exact strOf_byte _ 1 32 rfl (by omega)
  have g2 : byteI (wrapB26 s) 2 = 26 := by rw [hF]; exact strOf_byte _ 2 26 rfl (by omega)
  have g3 : byteI (wrapB26 s) 29 = c / 256 := by
    rw [hF]
    refine strOf_byte _ 29 _ ?_ (by omega)
    rw [List.getElem?_cons_succ, List.getElem?_append_right (by omega), hlen, w1]
    rfl
  have g4 : byteI (wrapB26 s) 30 = c % 256 := by
    rw [hF]
    refine strOf_byte _ 30 _ ?_ (by omega)
    rw [List.getElem?_cons_succ, List.getElem?_append_right (by omega), hlen, w2]
    rfl
  have ho : opens (wrapB26 s) = true := by
    refine decide_eq_true ⟨by omega, g0, by rw [g2, hsz]; rfl, by omega, ?_⟩
    rw [hsz]
    show crcI ((wrapB26 s).extract 1 29) = byteI (wrapB26 s) 29 * 256 + byteI (wrapB26 s) 30
    rw [hx, hcr, g3, g4]
    omega
  unfold openV
  rw [ho, hsz, g1]
  show (bif true then AV.tup [.agg [.int .i64 32, .str ((wrapB26 s).extract 3 29)], .bool true] else noFr) = _
  rw [hd, bt]
end Go.Proofs.YtdojnnlhaiennaaGreat.Cr

/- A look at the sky, the filter, the plan, what is told: the functions that are called. Conditions: none. -/
namespace Go.Proofs.YtdojnnlhaiennaaGreat.Cs
open Go Go.Proofs.YtdojnnlhaiennaaGreat.Ae Go.Proofs.YtdojnnlhaiennaaGreat.Fx
open Go.Proofs.YtdojnnlhaiennaaGreat.Md (J Pl Sn)
open Go.Proofs.YtdojnnlhaiennaaGreat.Orb (El RO)
open Go.Proofs.YtdojnnlhaiennaaGreat.Se (Rdg)
open Go.Proofs.YtdojnnlhaiennaaGreat.Ve (V3)
open Go.Proofs.YtdojnnlhaiennaaGreat.Qx (Ns)

abbrev V : Sh := Qx.V
abbrev FT : TypeId := 112
def envLk (nr : Int → Int → Int → Bool → Int × Bool) (pl : El → Int → Bool → V3 × Bool) (di : Int → Bool → V3 × Bool) (sk : V3 → Int → Bool → V3 × Bool) (sh : V3 → V3 → Bool → Bool × Bool) (ap : QF) : Env :=
  [(77, .flow FT (Ve.nrmF nr)), (78, .flow FT (Orb.plcF pl)), (79, .flow FT (Su.tickF di)), (80, .flow FT (Fd.vtF sk)), (81, .flow FT (Su.boolF sh)), (82, .flow FT (shF [V, V] .flag ap))]
noncomputable def envFi (mv me sp : QF) : Env :=
  [(83, .flow FT (shF [Qx.G43, Qx.V, Qx.N1] Qx.G43 mv)), (84, .flow FT (shF [Qx.G43, Qx.V2, Qx.V2] (.tup [Qx.G43, Qx.N1, .flag]) me)), (85, .flow FT (shF [Qx.G43] Qx.N1 sp))]
noncomputable def envPn (om : Int → Bool) (nx : Pl → Sn → Pl) (at_ : QF) (st : QP) : Env :=
  [(86, .pure (Md.nextC om) (Md.nextF nx)), (88, .flow FT (shF [Qx.V2, Qx.V2] Qx.Qs at_)), (87, .pure anyArgs (shP [Qx.Qs] Qx.G43 st))]
noncomputable def envTl (dp : QF) (cn : Int → Int → Int → Int → Int → Int → Int → Te.Seven) (tw : Te.Tell → Te.Fr) (tk : Int → ByteArray → Bool) (wf : ByteArray → ByteArray) : Env :=
  [(89, .flow FT (shF [.agg (.flag :: Ns 7)] Qx.V dp)), (90, .pure anyArgs (Te.countF cn)), (91, .pure anyArgs (Te.writeF tw)), (92, .pure (Cr.wrC tk) (Cr.wrV wf))]
end Go.Proofs.YtdojnnlhaiennaaGreat.Cs

/- A look at the sky: a contract. Conditions: none. -/
namespace Go.Proofs.YtdojnnlhaiennaaGreat.Cs
open Go Go.Proofs.YtdojnnlhaiennaaGreat.Ae Go.Proofs.YtdojnnlhaiennaaGreat.Fx
open Go.Proofs.YtdojnnlhaiennaaGreat.Md (J Pl Sn)
open Go.Proofs.YtdojnnlhaiennaaGreat.Orb (El RO)
open Go.Proofs.YtdojnnlhaiennaaGreat.Se (Rdg)
open Go.Proofs.YtdojnnlhaiennaaGreat.Ve (V3)
open Go.Proofs.YtdojnnlhaiennaaGreat.Qx (Ns)

/-- Two directions, as six numbers. -/
def six2 (a b : V3) : Nat → Int
  | 0 => a.x
  | 1 => a.y
  | 2 => a.z
  | 3 => b.x
  | 4 => b.y
  | _ => b.z
/-- A reading's direction, if it is there. -/
def rvec (G : Int → Nat → Int) (P : Int → Bool) (k : Int) : V3 := ⟨bif P k then G k 2 else 0, bif P k then G k 3 else 0, bif P k then G k 4 else 0⟩
def apX (a b : V3) : List Int := (Sh.takeL [V, V] [a.av, b.av]).getD []
section
variable (nr : Int → Int → Int → Bool → Int × Bool) (pl : El → Int → Bool → V3 × Bool) (di : Int → Bool → V3 × Bool) (sk : V3 → Int → Bool → V3 × Bool) (sh : V3 → V3 → Bool → Bool × Bool) (ap : QF) (placed : Bool) (el : El) (s : Stp) (G : Int → Nat → Int) (P : Int → Bool)
def lkSlow : Bool := decide ((nr (rvec G P 1).x (rvec G P 1).y (rvec G P 1).z false).1 ≤ 54975581388)
def lkPlace : V3 × Bool := pl el s.tick false
def lkSun : V3 × Bool := di s.tick (lkPlace pl el s).2
def lkFld : V3 × Bool := sk (lkPlace pl el s).1 s.tick (lkSun pl di el s).2
def lkSn (sl : Bool) : Sn := { s.sn with gy := P 1, sl := sl }
def lkAp1 : (Nat → Int) × Bool := ap (apX (lkSun pl di el s).1 (lkFld pl di sk el s).1) (lkFld pl di sk el s).2
def lkAp2 : (Nat → Int) × Bool := ap (apX (rvec G P 2) (rvec G P 3)) (lkAp1 pl di sk ap el s).2
def lkA (sl : Bool) : Stp := { s with sn := lkSn s P sl }
def lkB (sl : Bool) : Stp := { s with sky := six2 (lkSun pl di el s).1 (lkFld pl di sk el s).1, sn := lkSn s P sl }
def lkC (sl pr : Bool) : Stp := { s with sky := six2 (lkSun pl di el s).1 (lkFld pl di sk el s).1, body := six2 (rvec G P 2) (rvec G P 3), sn := { lkSn s P sl with li := !(sh (lkPlace pl el s).1 (lkSun pl di el s).1 false).1, pr := pr } }
def lkS (sl : Bool) : Stp :=
  bif !placed then lkA s P sl else bif (lkFld pl di sk el s).2 then lkB pl di sk el s P sl
  else lkC pl di sk sh el s G P sl (P 2 && P 3 && ((lkAp1 pl di sk ap el s).1 0 != 0) && ((lkAp2 pl di sk ap el s G P).1 0 != 0))
def lookS : Stp := lkS pl di sk sh ap placed el s G P (bif P 1 then lkSlow nr G P else s.sn.sl)
end
section
variable (nr : Int → Int → Int → Bool → Int × Bool) (pl : El → Int → Bool → V3 × Bool) (di : Int → Bool → V3 × Bool) (sk : V3 → Int → Bool → V3 × Bool) (sh : V3 → V3 → Bool → Bool × Bool) (ap : QF) (c z : Cft) (s : Stp) (G : Int → Nat → Int) (P : Int → Bool)
def lkOut (s : Stp) : Option (AV × List AB) := some (.tup [], [cB c, cB z, .mapN 5 G P, sB s])
def lkT (sl : Bool) : Option (AV × List AB) :=
  bif !c.placed then lkOut c z G P (lkA s P sl)
  else bif (lkFld pl di sk c.el s).2 then lkOut c z G P (lkB pl di sk c.el s P sl)
  else bif P 2 then
      (bif (bif true then P 3 else false) then
        (bif (bif true then (lkAp1 pl di sk ap c.el s).1 0 != 0 else false) then lkOut c z G P (lkC pl di sk sh c.el s G P sl (bif true then (lkAp2 pl di sk ap c.el s G P).1 0 != 0 else false))
        else lkOut c z G P (lkC pl di sk sh c.el s G P sl false))
      else lkOut c z G P (lkC pl di sk sh c.el s G P sl false))
    else lkOut c z G P (lkC pl di sk sh c.el s G P sl false)
theorem look_raw : acall Tryz.prog (envLk nr pl di sk sh ap) 200 33 [.ptr 3 0] [cB c, cB z, .mapN 5 G P, sB s] (keepN 4) =
    bif P 1 then lkT pl di sk sh ap c z s G P (lkSlow nr G P) else lkT pl di sk sh ap c z s G P s.sn.sl := by kernel_rfl
theorem lkT_eq (sl : Bool) : lkT pl di sk sh ap c z s G P sl = lkOut c z G P (lkS pl di sk sh ap c.placed c.el s G P sl) := by
  unfold lkT lkS
  cases !c.placed with
  | true => rw [bt, bt]
  | false =>
    rw [bf, bf]
    cases (lkFld pl di sk c.el s).2 with
    | true => rw [bt, bt]
    | false =>
      rw [bf, bf]
      simp only [bt]
      generalize ((lkAp1 pl di sk ap c.el s).1 0 != 0) = f1
      generalize ((lkAp2 pl di sk ap c.el s G P).1 0 != 0) = f2
      cases P 2 with
      | false => rw [bf]; simp only [Bool.false_and]
      | true =>
        rw [bt]
        cases P 3 with
        | false => rw [bf]; simp only [Bool.and_false, Bool.false_and]
        | true =>
          rw [bt]
          cases f1 with
          | false => rw [bf]; simp only [Bool.and_false, Bool.false_and]
          | true => rw [bt]; simp only [Bool.and_self, Bool.true_and]
theorem look_eq : acall Tryz.prog (envLk nr pl di sk sh ap) 200 33 [.ptr 3 0] [cB c, cB z, .mapN 5 G P, sB s] (keepN 4) = lkOut c z G P (lookS nr pl di sk sh ap c.placed c.el s G P) := by
  rw [look_raw, lkT_eq, lkT_eq]
  unfold lookS
  cases P 1 with
  | true => rw [bt, bt]
  | false => rw [bf, bf]
end
noncomputable def lookP (c : Cft) (s : Stp) (G : Int → Nat → Int) (P : Int → Bool) : Stp := lookS Fx.norm Orb.placeP Su.dirP Fd.skyP Su.shaP Qx.qtApa c.placed c.el s G P
def lookF (lp : Cft → Stp → (Int → Nat → Int) → (Int → Bool) → Stp) (args : List AV) (H : List AB) : Option (AV × List AB) :=
  match args, H with
  | [.ptr 3 0], .cells l t :: .cells z t2 :: .mapN 5 G P :: .cells l' t' :: rest =>
    match Cft.of l, Cft.of z, Stp.of l' with
    | some c, some z, some s => bif Nat.beq t 44 && Nat.beq t2 44 && Nat.beq t' 104 then some (.tup [], cB c :: cB z :: .mapN 5 G P :: sB (lp c s G P) :: rest) else none
    | _, _, _ => none
  | _, _ => none
theorem first4 (c z : Cft) (n : Nat) (G : Int → Nat → Int) (P : Int → Bool) (s : Stp) : FirstOk 4 [cB c, cB z, .mapN n G P, sB s] :=
  first_cons ⟨rfl, cav_trunc _ _, fun _ _ _ => trivial⟩ (first_cons ⟨rfl, cav_trunc _ _, fun _ _ _ => trivial⟩ (first_cons ⟨rfl, trivial, fun _ _ _ => trivial⟩ (first_cons ⟨rfl, sav_trunc _ _ (Nat.le_of_ble_eq_true rfl), fun _ _ _ => trivial⟩ (fun i B h => by simp at h))))
noncomputable def envLkP : Env := envLk Fx.norm Orb.placeP Su.dirP Fd.skyP Su.shaP Qx.qtApa
theorem ok_Lk : EnvOk Tryz.prog envLkP :=
  EnvOk.f (EnvOk.f (EnvOk.f (EnvOk.f (EnvOk.f (EnvOk.f ok_nil (enter_of Tryz.func82 (by kernel_rfl) rfl) Qx.qtApa_con) (enter_of Tryz.func81 (by kernel_rfl) rfl) Su.sha_con) (enter_of Tryz.func80 (by kernel_rfl) rfl) Fd.sky_con)
    (enter_of Tryz.func79 (by kernel_rfl) rfl) Su.dir_con) (enter_of Tryz.func78 (by kernel_rfl) rfl) Orb.place_con) Ve.en_vNorm Ve.vnorm_con
theorem look_con : EffOk Tryz.prog 33 anyArgs (lookF lookP) := by
  intro args H v H' hC hF m Args w hA hH
  clear hC
  unfold lookF at hF
  split at hF
  · rename_i l t z t2 G P l' t' rest
    split at hF
    · rename_i c z0 s hc hz hs
      have e1 := Cft.of_av hc
      have e2 := Cft.of_av hz
      have e3 := Stp.of_av hs
      cases hb : (Nat.beq t 44 && Nat.beq t2 44 && Nat.beq t' 104) with
      | false => rw [hb] at hF; cases hF
      | true =>
        rw [hb] at hF
        simp only [cond_true, Option.some.injEq, Prod.mk.injEq] at hF
        obtain ⟨rfl, rfl⟩ := hF
        simp only [Bool.and_eq_true] at hb
        obtain rfl := Nat.eq_of_beq_eq_true hb.1.1
        obtain rfl := Nat.eq_of_beq_eq_true hb.1.2
        obtain rfl := Nat.eq_of_beq_eq_true hb.2
        subst e1; subst e2; subst e3
        exact first_run ok_Lk 200 (L := 4) (H1 := [cB c, cB z0, .mapN 5 G P, sB s]) (H1' := [cB c, cB z0, .mapN 5 G P, sB (lookP c s G P)]) rfl rfl (look_eq Fx.norm Orb.placeP Su.dirP Fd.skyP Su.shaP Qx.qtApa c z0 s G P) rfl rfl (first4 c z0 5 G P s) (fun i B h => (first4 c z0 5 G P (lookP c s G P) i B h).2) hH hA
    · cases hF
  · cases hF
end Go.Proofs.YtdojnnlhaiennaaGreat.Cs

/- An attitude of two pairs: a contract of a known shape. Conditions: none. -/
namespace Go.Proofs.YtdojnnlhaiennaaGreat.Qx
open Go Go.Proofs.YtdojnnlhaiennaaGreat.Ae Go.Proofs.YtdojnnlhaiennaaGreat.Fx Go.Proofs.YtdojnnlhaiennaaGreat.Lx
noncomputable def qtAtt_env : Env := [(161, .flow 112 (shF [M9] (Qs) qqFrM)), (127, .flow 112 (int2 mul)), (76, .flow 112 (int2 add)), (160, .flow 112 (shF [V2] (M9) qtFra)), (82, .flow 112 (shF [V, V] (.flag) qtApa)), (123, .text)]
theorem qtAtt_env_ok : EnvOk Tryz.prog qtAtt_env := EnvOk.f (EnvOk.f (EnvOk.f (EnvOk.f (EnvOk.f (EnvOk.t (ok_nil) (enter_of Tryz.func123 (by kernel_rfl) rfl)) (enter_of Tryz.func82 (by kernel_rfl) rfl) qtApa_con) (enter_of Tryz.func160 (by kernel_rfl) rfl) qtFra_con) (enter_of Tryz.func76 (by kernel_rfl) rfl) add_con) (enter_of Tryz.func127 (by kernel_rfl) rfl) mul_con) (enter_of Tryz.func161 (by kernel_rfl) rfl) qqFrM_con
theorem qtAtt_ex : ∃ q : QF, Meth 88 (shF [V2, V2] (Qs) q) := flow_ex qtAtt_env_ok [] 600 _ _ _ _ (fun x b => by kernel_rfl)
noncomputable def qtAtt : QF := Classical.choose qtAtt_ex
theorem qtAtt_con : Meth 88 (shF [V2, V2] (Qs) qtAtt) := Classical.choose_spec qtAtt_ex
end Go.Proofs.YtdojnnlhaiennaaGreat.Qx

/- The filter and the plan: contracts. Conditions: none. -/
namespace Go.Proofs.YtdojnnlhaiennaaGreat.Cs
open Go Go.Proofs.YtdojnnlhaiennaaGreat.Ae Go.Proofs.YtdojnnlhaiennaaGreat.Fx
open Go.Proofs.YtdojnnlhaiennaaGreat.Md (J Pl Sn)
open Go.Proofs.YtdojnnlhaiennaaGreat.Orb (El RO)
open Go.Proofs.YtdojnnlhaiennaaGreat.Se (Rdg)
open Go.Proofs.YtdojnnlhaiennaaGreat.Ve (V3)
open Go.Proofs.YtdojnnlhaiennaaGreat.Qx (Ns)

/-! ### The filter -/
section
variable (mv me sp : QF) (gs : Nat → Int) (s : Stp) (r : V3)
noncomputable def fiMv : (Nat → Int) × Bool := mv ((Sh.takeL [Qx.G43, Qx.V, Qx.N1] [.agg (gsA gs), r.av, J s.gap]).getD []) false
noncomputable def fiMe : (Nat → Int) × Bool := me ((Sh.takeL [Qx.G43, Qx.V2, Qx.V2] [.agg (gsA (fiMv mv gs s r).1), .agg (six s.sky), .agg (six s.body)]).getD []) (fiMv mv gs s r).2
noncomputable def fiBd (g : Nat → Int) (b : Bool) : Bool := bif decide ((sp ((Sh.takeL [Qx.G43] [.agg (gsA g)]).getD []) b).1 0 > 274877906944) then true else (sp ((Sh.takeL [Qx.G43] [.agg (gsA g)]).getD []) b).2
noncomputable def fiG : Nat → Int := bif (s.sn.pr && s.sn.li) then (fiMe mv me gs s r).1 else (fiMv mv gs s r).1
noncomputable def fiS : Sn := bif (s.sn.pr && s.sn.li) then { s.sn with bd := fiBd sp (fiMe mv me gs s r).1 (fiMe mv me gs s r).2, ps := (fiMe mv me gs s r).1 44 != 0 } else { s.sn with bd := fiBd sp (fiMv mv gs s r).1 (fiMv mv gs s r).2 }
end
section
variable (mv me sp : QF) (c z : Cft) (s : Stp) (G : Int → Nat → Int) (P : Int → Bool)
noncomputable def fiOut (g : Nat → Int) (n : Sn) : Option (AV × List AB) := some (.tup [], [cB { c with gs := g }, cB z, .mapN 5 G P, sB { s with sn := n }])
noncomputable def fiT (r : V3) : Option (AV × List AB) :=
  bif (bif s.sn.pr then s.sn.li else false) then fiOut c z s G P (fiMe mv me c.gs s r).1 { s.sn with bd := fiBd sp (fiMe mv me c.gs s r).1 (fiMe mv me c.gs s r).2, ps := (fiMe mv me c.gs s r).1 44 != 0 }
  else fiOut c z s G P (fiMv mv c.gs s r).1 { s.sn with bd := fiBd sp (fiMv mv c.gs s r).1 (fiMv mv c.gs s r).2 }
theorem filt_raw : acall Tryz.prog (envFi mv me sp) 200 34 [.ptr 3 0] [cB c, cB z, .mapN 5 G P, sB s] (keepN 4) =
    bif s.sn.gy then fiT mv me sp c z s G P (rvec G P 1) else fiT mv me sp c z s G P ⟨c.gs 4, c.gs 5, c.gs 6⟩ := by kernel_rfl
noncomputable def fiRate : V3 := bif s.sn.gy then rvec G P 1 else ⟨c.gs 4, c.gs 5, c.gs 6⟩
theorem fiT_eq (r : V3) : fiT mv me sp c z s G P r = fiOut c z s G P (fiG mv me c.gs s r) (fiS mv me sp c.gs s r) := by
  unfold fiT fiG fiS
  cases s.sn.pr with
  | true =>
    rw [bt]
    cases s.sn.li with
    | true => simp only [Bool.and_self]; rw [bt, bt, bt]
    | false => simp only [Bool.and_false]; rw [bf, bf, bf]
  | false => simp only [Bool.false_and]; rw [bf, bf, bf, bf]
theorem filt_eq : acall Tryz.prog (envFi mv me sp) 200 34 [.ptr 3 0] [cB c, cB z, .mapN 5 G P, sB s] (keepN 4) = fiOut c z s G P (fiG mv me c.gs s (fiRate c s G P)) (fiS mv me sp c.gs s (fiRate c s G P)) := by
  rw [filt_raw, fiT_eq, fiT_eq]
  unfold fiRate
  cases s.sn.gy with
  | true => rw [bt, bt]
  | false => rw [bf, bf]
end
noncomputable def filtC (c : Cft) (s : Stp) (G : Int → Nat → Int) (P : Int → Bool) : Cft := { c with gs := fiG Qx.qfMov Qx.qfMee c.gs s (fiRate c s G P) }
noncomputable def filtS (c : Cft) (s : Stp) (G : Int → Nat → Int) (P : Int → Bool) : Stp := { s with sn := fiS Qx.qfMov Qx.qfMee Qx.qfSpr c.gs s (fiRate c s G P) }
def filtF (fc : Cft → Stp → (Int → Nat → Int) → (Int → Bool) → Cft) (fs : Cft → Stp → (Int → Nat → Int) → (Int → Bool) → Stp) (args : List AV) (H : List AB) : Option (AV × List AB) :=
  match args, H with
  | [.ptr 3 0], .cells l t :: .cells z t2 :: .mapN 5 G P :: .cells l' t' :: rest =>
    match Cft.of l, Cft.of z, Stp.of l' with
    | some c, some z, some s => bif Nat.beq t 44 && Nat.beq t2 44 && Nat.beq t' 104 then some (.tup [], cB (fc c s G P) :: cB z :: .mapN 5 G P :: sB (fs c s G P) :: rest) else none
    | _, _, _ => none
  | _, _ => none
theorem ok_Fi : EnvOk Tryz.prog (envFi Qx.qfMov Qx.qfMee Qx.qfSpr) :=
  EnvOk.f (EnvOk.f (EnvOk.f ok_nil (enter_of Tryz.func85 (by kernel_rfl) rfl) Qx.qfSpr_con) (enter_of Tryz.func84 (by kernel_rfl) rfl) Qx.qfMee_con) (enter_of Tryz.func83 (by kernel_rfl) rfl) Qx.qfMov_con
theorem filt_con : EffOk Tryz.prog 34 anyArgs (filtF filtC filtS) := by
  intro args H v H' hC hF m Args w hA hH
  clear hC
  unfold filtF at hF
  split at hF
  · rename_i l t z t2 G P l' t' rest
    split at hF
    · rename_i c z0 s hc hz hs
      have e1 := Cft.of_av hc
      have e2 := Cft.of_av hz
      have e3 := Stp.of_av hs
      cases hb : (Nat.beq t 44 && Nat.beq t2 44 && Nat.beq t' 104) with
      | false => rw [hb] at hF; cases hF
      | true =>
        rw [hb] at hF
        simp only [cond_true, Option.some.injEq, Prod.mk.injEq] at hF
        obtain ⟨rfl, rfl⟩ := hF
        simp only [Bool.and_eq_true] at hb
        obtain rfl := Nat.eq_of_beq_eq_true hb.1.1
        obtain rfl := Nat.eq_of_beq_eq_true hb.1.2
        obtain rfl := Nat.eq_of_beq_eq_true hb.2
        subst e1; subst e2; subst e3
        exact first_run ok_Fi 200 (L := 4) (H1 := [cB c, cB z0, .mapN 5 G P, sB s]) (H1' := [cB (filtC c s G P), cB z0, .mapN 5 G P, sB (filtS c s G P)]) rfl rfl (filt_eq Qx.qfMov Qx.qfMee Qx.qfSpr c z0 s G P) rfl rfl (first4 c z0 5 G P s) (fun i B h => (first4 (filtC c s G P) z0 5 G P (filtS c s G P) i B h).2) hH hA
    · cases hF
  · cases hF
/-! ### The plan -/
section
variable (om : Int → Bool) (nx : Pl → Sn → Pl) (at_ : QF) (st : QP) (c z : Cft) (s : Stp) (G : Int → Nat → Int) (P : Int → Bool)
noncomputable def plAt : (Nat → Int) × Bool := at_ ((Sh.takeL [Qx.V2, Qx.V2] [.agg (six s.sky), .agg (six s.body)]).getD []) false
noncomputable def plSt : Nat → Int := st ((Sh.takeL [Qx.Qs] [Qx.Qs.of (plAt at_ s).1 0]).getD [])
def zer : Nat → Int := fun _ => 0
noncomputable def plOut (c : Cft) : Option (AV × List AB) := some (.tup [], [cB c, cB z, .mapN 5 G P, sB s])
noncomputable def plT (n : Pl) : Option (AV × List AB) :=
  bif (bif n.mode == 2 then c.pl.mode != 2 else false) then
    (bif (plAt at_ s).2 then plOut z s G P { c with pl := ⟨1, 0, 0, 0, 0, bor .i64 n.faults 4⟩, gs := zer }
    else bif n.mode != 2 then plOut z s G P { c with pl := n, gs := zer } else plOut z s G P { c with pl := n, gs := plSt at_ st s })
  else bif n.mode != 2 then plOut z s G P { c with pl := n, gs := zer } else plOut z s G P { c with pl := n }
theorem plan_raw : acall Tryz.prog (envPn om nx at_ st) 200 35 [.ptr 3 0] [cB c, cB z, .mapN 5 G P, sB s] (keepN 4) =
    bif om c.pl.mode then plT at_ st c z s G P (nx c.pl s.sn) else none := by kernel_rfl
noncomputable def plC (n : Pl) : Cft :=
  if n.mode = 2 then
    (if c.pl.mode = 2 then { c with pl := n } else if (plAt at_ s).2 = true then { c with pl := ⟨1, 0, 0, 0, 0, bor .i64 n.faults 4⟩, gs := zer } else { c with pl := n, gs := plSt at_ st s })
  else { c with pl := n, gs := zer }
theorem plT_eq (n : Pl) : plT at_ st c z s G P n = plOut z s G P (plC at_ st c s n) := by
  unfold plT plC
  by_cases h2 : n.mode = 2
  · rw [if_pos h2, show (n.mode == 2) = true by rw [h2]; rfl, show (n.mode != 2) = false by rw [h2]; rfl, bt]
    by_cases h3 : c.pl.mode = 2
    · rw [if_pos h3, show (c.pl.mode != 2) = false by rw [h3]; rfl, bf, bf]
    · rw [if_neg h3, show (c.pl.mode != 2) = true from bne_iff_ne.2 h3, bt]
      cases (plAt at_ s).2 with
      | true => rw [bt, if_pos rfl]
      | false => rw [bf, bf, if_neg (by simp)]
  · rw [if_neg h2, show (n.mode == 2) = false from beq_eq_false_iff_ne.2 h2, show (n.mode != 2) = true from bne_iff_ne.2 h2, bf, bf, bt]
end
noncomputable def planP (c : Cft) (s : Stp) : Cft := plC Qx.qtAtt Qx.qfSta c s (Md.nextP c.pl s.sn)
def planF (om : Int → Bool) (pp : Cft → Stp → Cft) (args : List AV) (H : List AB) : Option (AV × List AB) :=
  match args, H with
  | [.ptr 3 0], .cells l t :: .cells z t2 :: .mapN 5 G P :: .cells l' t' :: rest =>
    match Cft.of l, Cft.of z, Stp.of l' with
    | some c, some z, some s => bif Nat.beq t 44 && Nat.beq t2 44 && Nat.beq t' 104 && om c.pl.mode then some (.tup [], cB (pp c s) :: cB z :: .mapN 5 G P :: sB s :: rest) else none
    | _, _, _ => none
  | _, _ => none
theorem ok_Pn : EnvOk Tryz.prog (envPn Md.modeOk Md.nextP Qx.qtAtt Qx.qfSta) :=
  EnvOk.p (EnvOk.f (EnvOk.p ok_nil (enter_of Tryz.func87 (by kernel_rfl) rfl) Qx.qfSta_con) (enter_of Tryz.func88 (by kernel_rfl) rfl) Qx.qtAtt_con) (enter_of Tryz.func86 (by kernel_rfl) rfl) Md.next_con
theorem plan_con : EffOk Tryz.prog 35 anyArgs (planF Md.modeOk planP) := by
  intro args H v H' hC hF m Args w hA hH
  clear hC
  unfold planF at hF
  split at hF
  · rename_i l t z t2 G P l' t' rest
    split at hF
    · rename_i c z0 s hc hz hs
      have e1 := Cft.of_av hc
      have e2 := Cft.of_av hz
      have e3 := Stp.of_av hs
      cases hb : (Nat.beq t 44 && Nat.beq t2 44 && Nat.beq t' 104 && Md.modeOk c.pl.mode) with
      | false => rw [hb] at hF; cases hF
      | true =>
        rw [hb] at hF
        simp only [cond_true, Option.some.injEq, Prod.mk.injEq] at hF
        obtain ⟨rfl, rfl⟩ := hF
        simp only [Bool.and_eq_true] at hb
        obtain rfl := Nat.eq_of_beq_eq_true hb.1.1.1
        obtain rfl := Nat.eq_of_beq_eq_true hb.1.1.2
        obtain rfl := Nat.eq_of_beq_eq_true hb.1.2
        subst e1; subst e2; subst e3
        refine first_run ok_Pn 200 (L := 4) (H1 := [cB c, cB z0, .mapN 5 G P, sB s]) (H1' := [cB (planP c s), cB z0, .mapN 5 G P, sB s]) rfl rfl ?_ rfl rfl (first4 c z0 5 G P s) (fun i B h => (first4 (planP c s) z0 5 G P s i B h).2) hH hA
        rw [plan_raw, hb.2, bt, plT_eq]
        rfl
    · cases hF
  · cases hF
end Go.Proofs.YtdojnnlhaiennaaGreat.Cs

/- What is told: a contract. Conditions: none. -/
namespace Go.Proofs.YtdojnnlhaiennaaGreat.Cs
open Go Go.Proofs.YtdojnnlhaiennaaGreat.Ae Go.Proofs.YtdojnnlhaiennaaGreat.Fx
open Go.Proofs.YtdojnnlhaiennaaGreat.Md (J Pl Sn)
open Go.Proofs.YtdojnnlhaiennaaGreat.Ve (V3)
open Go.Proofs.YtdojnnlhaiennaaGreat.Qx (Ns)

section
variable (dp : QF) (cn : Int → Int → Int → Int → Int → Int → Int → Te.Seven) (tw : Te.Tell → Te.Fr) (tk : Int → ByteArray → Bool) (wf : ByteArray → ByteArray) (c z : Cft) (s : Stp) (M : AB)
noncomputable def tlDp : Nat → Int := (dp ((Sh.takeL [.agg (.flag :: Ns 7)] [.agg (drA c.dr)]).getD []) false).1
def tlSv (m : V3) : Te.Seven := cn (c.gs 0) (c.gs 1) (c.gs 2) (c.gs 3) m.x m.y m.z
def tlTl (m : V3) : Te.Tell := ⟨s.tick, c.pl.mode, c.pl.faults, c.ack, c.err, c.rej, (tlSv cn c m).p0, (tlSv cn c m).p1, (tlSv cn c m).p2, (tlSv cn c m).p3, (tlSv cn c m).e0, (tlSv cn c m).e1, (tlSv cn c m).e2⟩
def tlT (m : V3) : Option (AV × List AB) :=
  bif tk (tw (tlTl cn c s m)).k (tw (tlTl cn c s m)).s then some (.str (wf (tw (tlTl cn c s m)).s), [cB c, cB z, M, sB s]) else none
theorem tell_raw : acall Tryz.prog (envTl dp cn tw tk wf) 200 36 [.ptr 3 0] [cB c, cB z, M, sB s] (keepN 4) =
    bif c.pl.mode == 0 then tlT cn tw tk wf c z s M ⟨tlDp dp c 0, tlDp dp c 1, tlDp dp c 2⟩ else tlT cn tw tk wf c z s M ⟨0, 0, 0⟩ := by kernel_rfl
end
noncomputable def tlM (c : Cft) : V3 := if c.pl.mode = 0 then ⟨tlDp Qx.qbDip c 0, tlDp Qx.qbDip c 1, tlDp Qx.qbDip c 2⟩ else ⟨0, 0, 0⟩
noncomputable def tellT (c : Cft) (s : Stp) : Te.Tell := tlTl Te.cntsP c s (tlM c)
noncomputable def tellP (c : Cft) (s : Stp) : ByteArray := Cr.wrapT (Te.writeP (tellT c s)).s
def tellF (tl : Cft → Stp → ByteArray) (args : List AV) (H : List AB) : Option (AV × AB) :=
  match args, H with
  | [.ptr 3 0], .cells l t :: .cells z t2 :: .mapN 5 _ _ :: .cells l' t' :: _ =>
    match Cft.of l, Cft.of z, Stp.of l' with
    | some c, some _, some s => bif Nat.beq t 44 && Nat.beq t2 44 && Nat.beq t' 104 then some (.str (tl c s), sB s) else none
    | _, _, _ => none
  | _, _ => none
theorem write_told (t : Te.Tell) : Cr.isTell (Te.writeP t).k (Te.writeP t).s = true := by
  unfold Te.writeP
  by_cases h : Te.rightP t = true
  · rw [if_pos h]
    have e : (strOf (Te.wBytes t)).size = 26 := by rw [Cr.strOf_size]; rfl
    unfold Cr.isTell
    simp only [e]
    rfl
  · rw [if_neg h]; rfl
theorem ok_Tl : EnvOk Tryz.prog (envTl Qx.qbDip Te.cntsP Te.writeP Cr.isTell Cr.wrapT) :=
  EnvOk.f (EnvOk.p (EnvOk.p (EnvOk.p ok_nil Cr.en_wrap Cr.wrap_con) (enter_of Tryz.func91 (by kernel_rfl) rfl) Te.write_con) (enter_of Tryz.func90 (by kernel_rfl) rfl) Te.counts_con) (enter_of Tryz.func89 (by kernel_rfl) rfl) Qx.qbDip_con
theorem tell_con : EffOk Tryz.prog 36 anyArgs (seeSpec (tellF tellP)) := by
  intro args H v H' hC hF m Args w hA hH
  clear hC
  unfold seeSpec at hF
  split at hF
  · split at hF
    · split at hF
      · rename_i v0 B hF0
        unfold tellF at hF0
        split at hF0
        · rename_i l t z t2 G P l' t' rest heq1 heq2
          split at hF0
          · rename_i c z0 s hc hz hs
            have e1 := Cft.of_av hc
            have e2 := Cft.of_av hz
            have e3 := Stp.of_av hs
            cases hb : (Nat.beq t 44 && Nat.beq t2 44 && Nat.beq t' 104) with
            | false => rw [hb] at hF0; cases hF0
            | true =>
              rw [hb] at hF0
              simp only [cond_true, Option.some.injEq, Prod.mk.injEq] at hF0
              obtain ⟨rfl, rfl⟩ := hF0
              simp only [Bool.and_eq_true] at hb
              obtain rfl := Nat.eq_of_beq_eq_true hb.1.1
              obtain rfl := Nat.eq_of_beq_eq_true hb.1.2
              obtain rfl := Nat.eq_of_beq_eq_true hb.2
              subst e1; subst e2; subst e3
              cases heq1
              have hv : v = .str (tellP c s) ∧ H' = cB c :: cB z0 :: .mapN 5 G P :: sB s :: rest := by
                simp only [AV.noPtr, cond_true, Option.some.injEq, Prod.mk.injEq] at hF
                exact ⟨hF.1.symm, hF.2.symm⟩
              obtain ⟨rfl, rfl⟩ := hv
              refine first_run ok_Tl 200 (L := 4) (H1 := [cB c, cB z0, .mapN 5 G P, sB s]) (H1' := [cB c, cB z0, .mapN 5 G P, sB s]) rfl rfl ?_ rfl rfl (first4 c z0 5 G P s) (fun i B h => (first4 c z0 5 G P s i B h).2) hH hA
              rw [tell_raw]
              unfold tlT tellP tellT tlM
              by_cases hm : c.pl.mode = 0
              · rw [if_pos hm]
                rw [show (c.pl.mode == 0) = true by rw [hm]; rfl, bt, write_told, bt]
              · rw [if_neg hm]
                rw [show (c.pl.mode == 0) = false from beq_eq_false_iff_ne.2 hm, bf, write_told, bt]
          · cases hF0
        · cases hF0
      · cases hF
    · cases hF
  · cases hF
/-! ### A step -/
end Go.Proofs.YtdojnnlhaiennaaGreat.Cs
