/- Ticks as days, and the numbers of the field's model, as the interpreter finds them. Conditions: none. -/
import Derived.Test.YtdojnnlhaiennaaGreatKi
import Derived.Test.YtdojnnlhaiennaaGreatKd
namespace Go.Proofs.YtdojnnlhaiennaaGreat.Fd
open Go Go.Proofs.YtdojnnlhaiennaaGreat.Ae Go.Proofs.YtdojnnlhaiennaaGreat.Fx Go.Proofs.YtdojnnlhaiennaaGreat.Lx Go.Proofs.YtdojnnlhaiennaaGreat.Tx Go.Proofs.YtdojnnlhaiennaaGreat.Te Go.Proofs.YtdojnnlhaiennaaGreat.Rx Go.Proofs.YtdojnnlhaiennaaGreat.Row Go.Proofs.YtdojnnlhaiennaaGreat.Ve

def daysP (t : Int) (bad : Bool) : Int × Bool := Fx.part 1099511627776 t 86400000 (bif !(ckT t) then true else bad)
section
variable (ad su mu di mo : Op2) (pa : Op3) (da : Op1)
def daysG (t : Int) (bad : Bool) : Option (AV × Bool) :=
  bif !(ckT t) then some (I (pa 1099511627776 t 86400000 true).1, (pa 1099511627776 t 86400000 true).2) else some (I (pa 1099511627776 t 86400000 bad).1, (pa 1099511627776 t 86400000 bad).2)
def rckT (t : Int) : Bool := an (decide (t ≥ 0)) (decide (t ≤ 157766400000))
theorem days_raw (u : Int) (bad : Bool) : acall Tryz.prog [(30, .text), (123, .text), (74, m3 112 pa)] 60 124 [.ptr 0 0, I u] [.cells [.bool bad] 112] (flowK 112) = daysG pa u bad := by kernel_rfl
theorem rdays_raw (u : Int) (bad : Bool) : acall Tryz.prog [(66, .text), (37, .text), (16, m3 74 pa)] 60 96 [.ptr 0 0, I u] [.cells [.bool bad] 74] (flowK 74) = daysG pa u bad := by kernel_rfl
/-- The model's rows: degree, order, g, h. -/
abbrev Tab4 := List (Int × Int × Int × Int)
def tabA : Tab4 := [(1, 0, -293500, 0), (1, 1, -14103, 45455), (2, 0, -25562, 0), (2, 1, 29509, -31336), (2, 2, 16487, -8142), (3, 0, 13609, 0), (3, 1, -24042, -569), (3, 2, 12438, 2376), (3, 3, 4534, -5496), (4, 0, 8947, 0), (4, 1, 7996, 2786), (4, 2, 558, -1340), (4, 3, -2811, 2120), (4, 4, 120, -3754), (5, 0, -2329, 0), (5, 1, 3690, 453), (5, 2, 1872, 2200), (5, 3, -1387, -1229), (5, 4, -1419, 429), (5, 5, 209, 1062), (6, 0, 643, 0), (6, 1, 638, -184), (6, 2, 767, 168), (6, 3, -1157, 489), (6, 4, -409, -598), (6, 5, 149, 109), (6, 6, -608, 728)]
def tabB : Tab4 := [(1, 0, 126, 0), (1, 1, 100, -215), (2, 0, -112, 0), (2, 1, -53, -273), (2, 2, -83, -111)]
def has : Tab4 → Int → Int → Bool
  | [], _, _ => false
  | (a, b, _, _) :: l, n, m => bif n == a && m == b then true else has l n m
def pickG : Tab4 → Int → Int → Int
  | [], _, _ => 0
  | (a, b, g, _) :: l, n, m => bif n == a && m == b then g else pickG l n m
def pickH : Tab4 → Int → Int → Int
  | [], _, _ => 0
  | (a, b, _, h) :: l, n, m => bif n == a && m == b then h else pickH l n m
def num0 (bad : Bool) : Option (AV × Bool) := some (.tup [I 0, I 0], bad)
def numE (g h g2 h2 : Int) (old : Bool) (d : Int × Bool) : Option (AV × Bool) :=
  let p := pa 1099511627776 g 10000 d.2
  let q := pa 1099511627776 h 10000 p.2
  bif old then
    let y := di d.1 401596622045184 q.2
    let p1 := pa 1099511627776 g2 10000 y.2
    let p2 := mu y.1 p1.1 p1.2
    let p3 := ad p.1 p2.1 p2.2
    let q1 := pa 1099511627776 h2 10000 p3.2
    let q2 := mu y.1 q1.1 q1.2
    let q3 := ad q.1 q2.1 q2.2
    some (.tup [I p3.1, I q3.1], q3.2)
  else some (.tup [I p.1, I q.1], q.2)
def numRaw (n m t : Int) (bad : Bool) : Option (AV × Bool) :=
  let d := da t bad
  bif !(has tabA n m) then num0 true else
  bif d.2 then num0 d.2 else numE ad mu di pa (pickG tabA n m) (pickH tabA n m) (pickG tabB n m) (pickH tabB n m) (has tabB n m) d
def envM : Env := [(124, m1 112 da), (76, m2 112 ad), (127, m2 112 mu), (125, m2 112 di), (74, m3 112 pa), (123, .text), (204, .text)]
theorem number_raw (n m t : Int) (bad : Bool) : acall Tryz.prog (envM ad mu di pa da) 1000 182 [.ptr 0 0, I n, I m, I t] [.cells [.bool bad] 112] (flowK 112) = numRaw ad mu di pa da n m t bad := by kernel_rfl
/-! ### The reference's -/
abbrev IP := Int → Int → Int × Int
variable (ta ye : IP)
def rnumRaw (n m t : Int) (bad : Bool) : Option (AV × Bool) :=
  let d := da t bad
  bif (bif (bif (bif decide (n < 1) then true else decide (n > 6)) then true else decide (m < 0)) then true else decide (m > n)) then num0 true else
  bif d.2 then num0 d.2 else numE ad mu di pa (ta n m).1 (ta n m).2 (ye n m).1 (ye n m).2 (decide (n ≤ 2)) d
end
end Go.Proofs.YtdojnnlhaiennaaGreat.Fd

/- Contracts of ticks as days and of the model's numbers, the program's and the reference's: the same plain functions. Conditions: none. -/
namespace Go.Proofs.YtdojnnlhaiennaaGreat.Fd
open Go Go.Proofs.YtdojnnlhaiennaaGreat.Ae Go.Proofs.YtdojnnlhaiennaaGreat.Fx Go.Proofs.YtdojnnlhaiennaaGreat.Lx Go.Proofs.YtdojnnlhaiennaaGreat.Tx Go.Proofs.YtdojnnlhaiennaaGreat.Te Go.Proofs.YtdojnnlhaiennaaGreat.Rx Go.Proofs.YtdojnnlhaiennaaGreat.Row Go.Proofs.YtdojnnlhaiennaaGreat.Ve

theorem daysG_eq (t : Int) (bad : Bool) : daysG Fx.part t bad = some (I (daysP t bad).1, (daysP t bad).2) := by
  unfold daysG daysP
  cases ckT t <;> rfl
theorem en_fFail : EnterOk Tryz.prog 123 := enter_of Tryz.func123 (by kernel_rfl) rfl
theorem en_rFail : EnterOk Tryz.prog 37 := enter_of Tryz.func37 (by kernel_rfl) rfl
theorem en_rAdd : EnterOk Tryz.prog 50 := enter_of Tryz.func50 (by kernel_rfl) rfl
theorem en_fAdd : EnterOk Tryz.prog 76 := enter_of Tryz.func76 (by kernel_rfl) rfl
theorem en_fSqrt : EnterOk Tryz.prog 126 := enter_of Tryz.func126 (by kernel_rfl) rfl
theorem en_fMod : EnterOk Tryz.prog 131 := enter_of Tryz.func131 (by kernel_rfl) rfl
theorem en_fPart : EnterOk Tryz.prog 74 := enter_of Tryz.func74 (by kernel_rfl) rfl
theorem days_con : Meth 124 (int1 daysP) := by
  refine flow_of (EnvOk.t (EnvOk.t (EnvOk.f ok_nil en_fPart part_con) en_fFail) (enter_of Tryz.func30 (by kernel_rfl) rfl)) 60 _ _ (fun _ => true) _ ?_
  intro args g _ h bad
  obtain ⟨a, rfl, hg⟩ := int1_some h
  exact (days_raw Fx.part a bad).trans ((daysG_eq a bad).trans (hg bad).symm)
theorem rdays_con : RMeth 96 (int1 daysP) := by
  refine flow_of (EnvOk.t (EnvOk.t (EnvOk.f ok_nil en_rPart rpart_con) en_rFail) (enter_of Tryz.func66 (by kernel_rfl) rfl)) 60 _ _ (fun _ => true) _ ?_
  intro args g _ h bad
  obtain ⟨a, rfl, hg⟩ := int1_some h
  exact (rdays_raw Fx.part a bad).trans ((daysG_eq a bad).trans (hg bad).symm)
/-! ### The tables -/
def swI (f : Int × Int → Int) : Tab4 → Int → Int
  | [], _ => 0
  | (a, b, g, h) :: l, k => bif k == 10 * a + b then f (g, h) else swI f l k
def tblP (l : Tab4) (n m : Int) : Int × Int := (swI Prod.fst l (wr .i64 (wr .i64 (n * 10) + m)), swI Prod.snd l (wr .i64 (wr .i64 (n * 10) + m)))
/-! ### The numbers -/
abbrev Op3p := Int → Int → Int → Bool → (Int × Int) × Bool
def numF (f : Op3p) : List AV → Option (Bool → AV × Bool)
  | [.int .i64 n, .int .i64 m, .int .i64 t] => some fun bad => (.tup [I (f n m t bad).1.1, I (f n m t bad).1.2], (f n m t bad).2)
  | _ => none
theorem numF_some {f : Op3p} {args : List AV} {g : Bool → AV × Bool} (h : numF f args = some g) : ∃ n m t, args = [I n, I m, I t] ∧ ∀ bad, g bad = (.tup [I (f n m t bad).1.1, I (f n m t bad).1.2], (f n m t bad).2) := by
  unfold numF at h
  split at h <;> cases h
  exact ⟨_, _, _, rfl, fun _ => rfl⟩
def numEP (g h g2 h2 : Int) (old : Bool) (d : Int × Bool) : (Int × Int) × Bool :=
  let p := Fx.part 1099511627776 g 10000 d.2
  let q := Fx.part 1099511627776 h 10000 p.2
  bif old then
    let y := div d.1 401596622045184 q.2
    let p1 := Fx.part 1099511627776 g2 10000 y.2
    let p2 := mul y.1 p1.1 p1.2
    let p3 := add p.1 p2.1 p2.2
    let q1 := Fx.part 1099511627776 h2 10000 p3.2
    let q2 := mul y.1 q1.1 q1.2
    let q3 := add q.1 q2.1 q2.2
    ((p3.1, q3.1), q3.2)
  else ((p.1, q.1), q.2)
def numP (n m t : Int) (bad : Bool) : (Int × Int) × Bool :=
  let d := daysP t bad
  bif !(has tabA n m) then ((0, 0), true) else
  bif d.2 then ((0, 0), true) else numEP (pickG tabA n m) (pickH tabA n m) (pickG tabB n m) (pickH tabB n m) (has tabB n m) d
theorem numE_eq (g h g2 h2 : Int) (old : Bool) (d : Int × Bool) : numE add mul div Fx.part g h g2 h2 old d = some (.tup [I (numEP g h g2 h2 old d).1.1, I (numEP g h g2 h2 old d).1.2], (numEP g h g2 h2 old d).2) := by
  unfold numE numEP
  dsimp only
  cases old <;> rfl
theorem numRaw_eq (n m t : Int) (bad : Bool) : numRaw add mul div Fx.part daysP n m t bad = some (.tup [I (numP n m t bad).1.1, I (numP n m t bad).1.2], (numP n m t bad).2) := by
  unfold numRaw numP
  dsimp only
  cases has tabA n m
  · rfl
  · cases hd : (daysP t bad).2
    · rw [Bool.not_true, bf, bf, bf, bf]; exact numE_eq ..
    · rfl
theorem has_iff : ∀ (l : Tab4) (n m : Int), has l n m = l.any (fun r => n == r.1 && m == r.2.1)
  | [], _, _ => rfl
  | (a, b, g, h) :: l, n, m => by
    unfold has
    rw [has_iff l, List.any_cons]
    cases (n == a && m == b) <;> rfl
theorem has_out {n m : Int} (h : has tabA n m = true) : 1 ≤ n ∧ n ≤ 6 ∧ 0 ≤ m ∧ m ≤ n := by
  rw [has_iff] at h
  simp only [tabA, List.any_cons, List.any_nil, Bool.or_false, Bool.or_eq_true, Bool.and_eq_true, beq_iff_eq] at h
  omega
section
variable (ad mu di : Op2) (pa : Op3) (da : Op1)
theorem rnum_in (n m t : Int) (bad : Bool) (h : 1 ≤ n ∧ n ≤ 6 ∧ 0 ≤ m ∧ m ≤ n) : rnumRaw ad mu di pa da (tblP tabA) (tblP tabB) n m t bad = numRaw ad mu di pa da n m t bad := by
  have hn : n = 1 ∨ n = 2 ∨ n = 3 ∨ n = 4 ∨ n = 5 ∨ n = 6 := by omega
  have hm : m = 0 ∨ m = 1 ∨ m = 2 ∨ m = 3 ∨ m = 4 ∨ m = 5 ∨ m = 6 := by omega
  rcases hn with rfl | rfl | rfl | rfl | rfl | rfl <;> rcases hm with rfl | rfl | rfl | rfl | rfl | rfl | rfl <;> first | (exfalso; omega) | (change _ = _; kernel_rfl)
theorem rnum_eq (n m t : Int) (bad : Bool) : rnumRaw ad mu di pa da (tblP tabA) (tblP tabB) n m t bad = numRaw ad mu di pa da n m t bad := by
  by_cases h : 1 ≤ n ∧ n ≤ 6 ∧ 0 ≤ m ∧ m ≤ n
  · exact rnum_in ad mu di pa da n m t bad h
  · have h1 : has tabA n m = false := by
      cases hb : has tabA n m with
      | false => rfl
      | true => exact absurd (has_out hb) h
    have h2 : (bif (bif (bif decide (n < 1) then true else decide (n > 6)) then true else decide (m < 0)) then true else decide (m > n)) = true := by
      by_cases a1 : n < 1
      · rw [decide_eq_true a1, bt, bt, bt]
      · rw [decide_eq_false a1, bf]
        by_cases a2 : n > 6
        · rw [decide_eq_true a2, bt, bt]
        · rw [decide_eq_false a2, bf]
          by_cases a3 : m < 0
          · rw [decide_eq_true a3, bt]
          · rw [decide_eq_false a3, bf]
            exact decide_eq_true (by omega)
    unfold rnumRaw numRaw
    rw [h1, h2]
    rfl
end
theorem number_con : Meth 182 (numF numP) := by
  refine flow_of (EnvOk.f (EnvOk.f (EnvOk.f (EnvOk.f (EnvOk.f (EnvOk.t (EnvOk.t ok_nil (enter_of Tryz.func204 (by kernel_rfl) rfl)) en_fFail) en_fPart part_con) Fx.en_div div_meth) Fx.en_mul mul_con) en_fAdd add_con) (enter_of Tryz.func124 (by kernel_rfl) rfl) days_con) 1000 _ _ (fun _ => true) _ ?_
  intro args g _ h bad
  obtain ⟨n, m, t, rfl, hg⟩ := numF_some h
  exact (number_raw add mul div Fx.part daysP n m t bad).trans ((numRaw_eq n m t bad).trans (congrArg some (hg bad).symm))
end Go.Proofs.YtdojnnlhaiennaaGreat.Fd

/- Contracts of function values of two arguments that keep where the flow's pointer lies. Conditions: none. -/
namespace Go.Proofs.YtdojnnlhaiennaaGreat.Ae
open Go

def cloK (tb T : TypeId) (v : AV) (H : List AB) : Option (AV × Bool) :=
  match H with
  | .cells [.ptr 1 0] t' :: .cells [.bool b] t :: _ => bif Nat.beq t' tb && Nat.beq t T && v.noPtr then some (v, b) else none
  | _ => none
theorem clo_of {P : Program} {env : Env} (hE : EnvOk P env) (fuel : Nat) (f : FuncId) (T : TypeId) (F : List AV → Option (Bool → AV × Bool))
    (h : ∀ a b g, F [a, b] = some g → ∀ tb y, acall P env fuel f [a, b, .ptr 0 0] [.cells [.ptr 1 0] tb, .cells [.bool y] T] (cloK tb T) = some (g y)) : EffOk P f (fun _ => true) (cloSpec T F) := by
  intro args H v H' _ hv m Args w hA hH
  unfold cloSpec at hv
  split at hv
  · rename_i a b x _dbg
    split at hv
    · rename_i j tb hx
      split at hv
      · rename_i y t hj
        cases hb : (Nat.beq t T && AV.noPtrL [a, b]) with
        | false => rw [hb] at hv; cases hv
        | true =>
          rw [hb] at hv
          simp only [Bool.and_eq_true] at hb
          obtain ⟨ht, hn⟩ := hb
          obtain rfl := Nat.eq_of_beq_eq_true ht
          simp only [cond_true] at hv
          split at hv
          · rename_i g hg
            simp only [Option.some.injEq, Prod.mk.injEq] at hv
            obtain ⟨rfl, rfl⟩ := hv
            obtain ⟨cx, ox, hcx, hwx, hBx⟩ := hH.at_ x hx
            obtain ⟨cj, oj, hcj, hwj, hBj⟩ := hH.at_ j hj
            have hne : x ≠ j := fun e => by subst e; rw [hx] at hj; cases hj
            have hcne : cx ≠ cj := fun e => by subst e; exact hne (hH.nodup _ _ _ _ _ hcx hcj hx hj rfl rfl)
            have ptr1 : ∀ {m1 : List Nat} {Vs : List Value}, RL m [.ptr j 0] Vs → m1[1]? = some cj → RL m1 [.ptr 1 0] Vs := fun {m1 Vs} hr h1 => by
              obtain ⟨V, _, rfl, hV, e⟩ := RL_cons.1 hr
              rw [RL_nil.1 e]
              refine RL.cons ?_ (RL_nil.2 rfl)
              simp only [R] at hV ⊢
              obtain ⟨c', hc', e⟩ := hV
              rw [hcj] at hc'; cases hc'
              exact ⟨cj, h1, e⟩
            have hH1 : HR [cx, cj] [.cells [.ptr 1 0] tb, .cells [.bool y] t] w := by
              refine ⟨rfl, ?_, fun i B hB' _ => ?_⟩
              · intro i j' b' B C h1 h2 _ _ _ _
                rcases i with _ | _ | i <;> rcases j' with _ | _ | j' <;> simp at h1 h2 <;> omega
              · rcases i with _ | _ | i
                · simp at hB'
                  subst hB'
                  obtain ⟨Vs, h1, h2⟩ := hBx
                  exact ⟨cx, ox, by simp, hwx, ⟨Vs, h1, ptr1 h2 (by simp)⟩, trivial⟩
                · simp at hB'
                  subst hB'
                  obtain ⟨Vs, h1, h2⟩ := hBj
                  exact ⟨cj, oj, by simp, hwj, ⟨Vs, h1, RL_noPtr _ (by simp [AV.noPtrL, AV.noPtr]) h2⟩, trivial⟩
                · simp at hB'
            have hA1 : RL [cx, cj] [a, b, .ptr 0 0] Args.toList := by
              obtain ⟨V0, V1, e0, h0, h1⟩ := RL_cons.1 hA
              obtain ⟨V2, V3, e2, h2, h3⟩ := RL_cons.1 h1
              obtain ⟨V4, V5, e4, h4, h5⟩ := RL_cons.1 h3
              simp only [AV.noPtrL, Bool.and_eq_true] at hn
              rw [e0, e2, e4, RL_nil.1 h5]
              refine RL.cons (R_noPtr a hn.1 h0) (RL.cons (R_noPtr b hn.2.1 h2) (RL.cons ?_ (RL_nil.2 rfl)))
              simp only [R] at h4 ⊢
              obtain ⟨c', hc', e⟩ := h4
              rw [hcx] at hc'; cases hc'
              exact ⟨cx, by simp, e⟩
            refine (acall_ok hE (h a b g hg tb y) hA1 hH1).mono fun e w' ⟨v', V, m', H', e1, e2, e3, e4, e5⟩ => ?_
            unfold cloK at e5
            split at e5
            · rename_i t2 b' t' Hr
              cases hb' : (Nat.beq t2 tb && Nat.beq t' t && v'.noPtr) with
              | false => rw [hb'] at e5; cases e5
              | true =>
                rw [hb'] at e5
                simp only [Bool.and_eq_true] at hb'
                obtain ⟨⟨ht2, ht'⟩, hnv⟩ := hb'
                obtain rfl := Nat.eq_of_beq_eq_true ht'
                obtain rfl := Nat.eq_of_beq_eq_true ht2
                simp only [cond_true, Option.some.injEq] at e5
                rw [← e5]
                obtain ⟨xs, hxs, hxss⟩ := e4.pre
                obtain ⟨c2, o2, hc2, hw2, hB2⟩ := e3.at_ 1 (B := .cells [.bool b'] t') rfl
                rw [hxs] at hc2
                simp at hc2
                subst hc2
                obtain ⟨c3, o3, hc3, hw3, hB3⟩ := e3.at_ 0 (B := .cells [.ptr 1 0] t2) rfl
                rw [hxs] at hc3
                simp at hc3
                subst hc3
                have live : ∀ {i : Nat} {B : AB}, (H.set j (.cells [.bool b'] t'))[i]? = some B → B.live = true → ∃ B', H[i]? = some B' ∧ B'.live = true := fun {i B} hB' hl => by
                  by_cases hij : j = i
                  · subst hij; exact ⟨_, hj, rfl⟩
                  · rw [List.getElem?_set_ne hij] at hB'; exact ⟨B, hB', hl⟩
                refine ⟨V, m, e1, R_noPtr v' hnv e2, ⟨by simp [hH.len], ?_, ?_⟩, ⟨⟨[], by simp⟩, e4.os, e4.tape, e4.output, e4.size, ?_⟩⟩
                · intro i i' b3 B C h1 h2 h3 h4 h5 h6
                  obtain ⟨B', b1, b2⟩ := live h3 h5
                  obtain ⟨C', d1, d2⟩ := live h4 h6
                  exact hH.nodup i i' b3 B' C' h1 h2 b1 d1 b2 d2
                · intro i B hB' hl
                  by_cases hij : j = i
                  · subst hij
                    have hlt : j < H.length := (List.getElem?_eq_some_iff.1 hj).1
                    simp [hlt] at hB'
                    subst hB'
                    obtain ⟨Vs', h1, h2⟩ := hB2
                    exact ⟨cj, o2, hcj, hw2, ⟨Vs', h1, RL_noPtr _ (by simp [AV.noPtrL, AV.noPtr]) h2⟩, trivial⟩
                  · rw [List.getElem?_set_ne hij] at hB'
                    by_cases hix : x = i
                    · subst hix
                      rw [hx] at hB'
                      cases hB'
                      obtain ⟨Vs', h1, h2⟩ := hB3
                      refine ⟨cx, o3, hcx, hw3, ⟨Vs', h1, ?_⟩, trivial⟩
                      obtain ⟨W, _, rfl, hW, e⟩ := RL_cons.1 h2
                      rw [RL_nil.1 e]
                      refine RL.cons ?_ (RL_nil.2 rfl)
                      simp only [R] at hW ⊢
                      obtain ⟨c', hc', e⟩ := hW
                      rw [hxs] at hc'
                      simp at hc'
                      subst hc'
                      exact ⟨cj, hcj, e⟩
                    · obtain ⟨c4, o4, h1, h2, h3, h4⟩ := hH.all i B hB' hl
                      refine ⟨c4, o4, h1, ?_, h3, h4⟩
                      have hlt3 := (Array.getElem?_eq_some_iff.1 h2).1
                      rw [e4.block c4 hlt3 ?_]
                      · exact h2
                      · simp only [List.mem_cons, List.not_mem_nil, or_false, not_or]
                        exact ⟨fun e => by subst e; exact hix (hH.nodup _ _ _ _ _ hcx h1 hx hB' rfl hl), fun e => by subst e; exact hij (hH.nodup _ _ _ _ _ hcj h1 hj hB' rfl hl)⟩
                · intro k hk hkm
                  refine e4.block k hk ?_
                  simp only [List.mem_cons, List.not_mem_nil, or_false, not_or]
                  exact ⟨fun e => by subst e; exact hkm (List.mem_of_getElem? hcx), fun e => by subst e; exact hkm (List.mem_of_getElem? hcj)⟩
            · cases e5
          · cases hv
      · cases hv
    · cases hv
  · cases hv
theorem EnvOk.clo {P : Program} {env : Env} (t : EnvOk P env) {f : FuncId} (h : EnterOk P f) {T : TypeId} {F : List AV → Option (Bool → AV × Bool)} (k : EffOk P f (fun _ => true) (cloSpec T F)) : EnvOk P ((f, .clo T F) :: env) := EnvOk.cons (s := .clo T F) ⟨h, k⟩ t
end Go.Proofs.YtdojnnlhaiennaaGreat.Ae

/- The terms of the field, as the interpreter finds them. Conditions: none. -/
namespace Go.Proofs.YtdojnnlhaiennaaGreat.Fd
open Go Go.Proofs.YtdojnnlhaiennaaGreat.Ae Go.Proofs.YtdojnnlhaiennaaGreat.Fx Go.Proofs.YtdojnnlhaiennaaGreat.Lx Go.Proofs.YtdojnnlhaiennaaGreat.Tx Go.Proofs.YtdojnnlhaiennaaGreat.Te Go.Proofs.YtdojnnlhaiennaaGreat.Rx Go.Proofs.YtdojnnlhaiennaaGreat.Row Go.Proofs.YtdojnnlhaiennaaGreat.Ve

abbrev Tri := Int × Int × Int
abbrev TT := List (MK × Tri)
def lookT (k : MK) : TT → Tri
  | [] => (0, 0, 0)
  | (k', v) :: l => bif keqB k k' then v else lookT k l
section
variable (ad su mu di rt : Op2) (pa : Op3) (sq : Op1) (c s : Int)
/-- One round: the entry of a degree and an order below it. -/
def rndG (n m : Int) (x y : Tri) (bad : Bool) : Tri × Bool :=
  let r1 := rt (n - 1) m bad
  let r2 := rt n m r1.2
  let a := di r1.1 r2.1 r2.2
  let p1 := pa 1099511627776 (2 * n - 1) 1 a.2
  let r3 := rt n m p1.2
  let b := di p1.1 r3.1 r3.2
  let t1 := mu c x.1 b.2
  let t2 := mu b.1 t1.1 t1.2
  let t3 := mu a.1 y.1 t2.2
  let P := su t2.1 t3.1 t3.2
  let u1 := mu c x.2.1 P.2
  let u2 := mu s x.1 u1.2
  let u3 := su u1.1 u2.1 u2.2
  let u4 := mu b.1 u3.1 u3.2
  let u5 := mu a.1 y.2.1 u4.2
  let D := su u4.1 u5.1 u5.2
  let v1 := mu c x.2.2 D.2
  let v2 := mu b.1 v1.1 v1.2
  let v3 := mu a.1 y.2.2 v2.2
  let Qq := su v2.1 v3.1 v3.2
  ((P.1, D.1, Qq.1), Qq.2)
/-- The entry of a degree and as great an order. -/
def diaG (n : Int) (x : Tri) (bad : Bool) : Tri × Bool :=
  let p0 := pa 1099511627776 (2 * n - 1) (2 * n) bad
  let j := sq p0.1 p0.2
  let t1 := mu s x.1 j.2
  let P := mu j.1 t1.1 t1.2
  let u1 := mu s x.2.1 P.2
  let u2 := mu c x.1 u1.2
  let u3 := ad u1.1 u2.1 u2.2
  let D := mu j.1 u3.1 u3.2
  let v1 := mu s x.2.2 D.2
  let Qq := mu j.1 v1.1 v1.2
  ((P.1, D.1, Qq.1), Qq.2)
/-- All rounds: (n, m) with m below n, or n and n. -/
def rounds : List MK := [(1, 0), (2, 0), (2, 1), (2, 2), (3, 0), (3, 1), (3, 2), (3, 3), (4, 0), (4, 1), (4, 2), (4, 3), (4, 4), (5, 0), (5, 1), (5, 2), (5, 3), (5, 4), (5, 5), (6, 0), (6, 1), (6, 2), (6, 3), (6, 4), (6, 5), (6, 6)]
def stepT (k : MK) (T : TT) (bad : Bool) : Tri × Bool :=
  bif k.1 == k.2 then diaG ad mu pa sq c s k.1 (lookT (k.1 - 1, k.1 - 1) T) bad else rndG su mu di rt pa c s k.1 k.2 (lookT (k.1 - 1, k.2) T) (lookT (k.1 - 2, k.2) T) bad
def putT' (k : MK) (v : Tri) : TT → TT
  | [] => [(k, v)]
  | e :: l => bif kltB k e.1 then (k, v) :: e :: l else e :: putT' k v l
def foldT : List MK → TT → Bool → TT × Bool
  | [], T, bad => (T, bad)
  | k :: l, T, bad =>
    let r := stepT ad su mu di rt pa sq c s k T bad
    foldT l (putT' k r.1 T) r.2
def termsG (bad : Bool) : TT × Bool := foldT ad su mu di rt pa sq c s rounds [((0, 0), (1099511627776, 0, 0)), ((1, 1), (s, c, 1099511627776))] bad
def KT (v : AV) (H : List AB) : Option (List (MK × AV) × Bool) := match v with
  | .map i => match H[i]?, H[0]? with
    | some (AB.map true es), some (AB.cells [AV.bool b] t) => bif Nat.beq t 112 then some (es, b) else none
    | _, _ => none
  | _ => none
def envT : Env := [(126, m1 112 sq), (76, m2 112 ad), (75, m2 112 su), (127, m2 112 mu), (125, m2 112 di), (74, m3 112 pa), (203, .clo 112 (int2 rt))]
def triAV (v : Tri) : AV := .agg [I v.1, I v.2.1, I v.2.2]
def ttAV (T : TT) : List (MK × AV) := T.map fun e => (e.1, triAV e.2)
end
end Go.Proofs.YtdojnnlhaiennaaGreat.Fd

/- The field in the Earth's axes, as the interpreter finds it. Conditions: none. -/
namespace Go.Proofs.YtdojnnlhaiennaaGreat.Fd
open Go Go.Proofs.YtdojnnlhaiennaaGreat.Ae Go.Proofs.YtdojnnlhaiennaaGreat.Fx Go.Proofs.YtdojnnlhaiennaaGreat.Lx Go.Proofs.YtdojnnlhaiennaaGreat.Tx Go.Proofs.YtdojnnlhaiennaaGreat.Te Go.Proofs.YtdojnnlhaiennaaGreat.Rx Go.Proofs.YtdojnnlhaiennaaGreat.Row Go.Proofs.YtdojnnlhaiennaaGreat.Ve

def keys28 : List MK := [(0, 0), (1, 0), (1, 1), (2, 0), (2, 1), (2, 2), (3, 0), (3, 1), (3, 2), (3, 3), (4, 0), (4, 1), (4, 2), (4, 3), (4, 4), (5, 0), (5, 1), (5, 2), (5, 3), (5, 4), (5, 5), (6, 0), (6, 1), (6, 2), (6, 3), (6, 4), (6, 5), (6, 6)]
def keys27 : List MK := [(1, 0), (1, 1), (2, 0), (2, 1), (2, 2), (3, 0), (3, 1), (3, 2), (3, 3), (4, 0), (4, 1), (4, 2), (4, 3), (4, 4), (5, 0), (5, 1), (5, 2), (5, 3), (5, 4), (5, 5), (6, 0), (6, 1), (6, 2), (6, 3), (6, 4), (6, 5), (6, 6)]
abbrev TmF := Int → Int → Bool → (MK → Tri) × Bool
def tabOf (f : MK → Tri) : List (MK × AV) := keys28.map fun k => (k, triAV (f k))
def tmSpec (tm : TmF) : List AV → List AB → Option (AV × List AB)
  | [.ptr j 0, .int .i64 c, .int .i64 s], H =>
    match H[j]? with
    | some (AB.cells [AV.bool y] t) => bif Nat.beq t 112 then some (.map H.length, H.set j (.cells [.bool (tm c s y).2] 112) ++ [.map true (tabOf (tm c s y).1)]) else none
    | _ => none
  | _, _ => none
structure Es where
  (t cos sin up south east : Int)
  bad : Bool
section
variable (ad su mu di : Op2) (pa nr : Op3) (nu : Op3p) (tm : TmF)
def eStep (u v ratio tick : Int) (T : MK → Tri) (k : MK) (e : Es) : Es :=
  let t := bif k.2 == 0 then mu e.t ratio e.bad else (e.t, e.bad)
  let cos := bif k.2 == 0 then 1099511627776 else e.cos
  let sin := bif k.2 == 0 then 0 else e.sin
  let x := T k
  let g := nu k.1 k.2 tick t.2
  let e1 := mu g.1.1 cos g.2
  let e2 := mu g.1.2 sin e1.2
  let ev := ad e1.1 e2.1 e2.2
  let o1 := mu g.1.1 sin ev.2
  let o2 := mu g.1.2 cos o1.2
  let od := su o1.1 o2.1 o2.2
  let a1 := mu ev.1 x.1 od.2
  let a2 := mu t.1 a1.1 a1.2
  let a3 := pa a2.1 (k.1 + 1) 1 a2.2
  let up := ad e.up a3.1 a3.2
  let b1 := mu ev.1 x.2.1 up.2
  let b2 := mu t.1 b1.1 b1.2
  let south := su e.south b2.1 b2.2
  let c1 := mu od.1 x.2.2 south.2
  let c2 := mu t.1 c1.1 c1.2
  let c3 := pa c2.1 k.2 1 c2.2
  let east := ad e.east c3.1 c3.2
  let d1 := mu cos u east.2
  let d2 := mu sin v d1.2
  let d := su d1.1 d2.1 d2.2
  let d3 := mu sin u d.2
  let d4 := mu cos v d3.2
  let d' := ad d3.1 d4.1 d4.2
  ⟨t.1, d.1, d'.1, up.1, south.1, east.1, d'.2⟩
def eFold (u v ratio tick : Int) (T : MK → Tri) : List MK → Es → Es
  | [], e => e
  | k :: l, e => eFold u v ratio tick T l (eStep ad su mu pa nu u v ratio tick T k e)
def endE (x y z : Int) (bad : Bool) : Option (AV × Bool) := bif bad then some (V3.zero.av, bad) else some (V3.av ⟨x, y, z⟩, bad)
def eLast (c s u v : Int) (e : Es) : Option (AV × Bool) :=
  let a1 := mu e.up s e.bad
  let a2 := mu e.south c a1.2
  let a := ad a1.1 a2.1 a2.2
  let x1 := mu a.1 u a.2
  let x2 := mu e.east v x1.2
  let x := su x1.1 x2.1 x2.2
  let y1 := mu a.1 v x.2
  let y2 := mu e.east u y1.2
  let y := ad y1.1 y2.1 y2.2
  let z1 := mu e.up c y.2
  let z2 := mu e.south s z1.2
  let z := su z1.1 z2.1 z2.2
  endE x.1 y.1 z.1 z.2
def eBody (tick r c s u v : Int) (bad : Bool) : Option (AV × Bool) :=
  let T := tm c s bad
  let ratio := di 7005208482886 r T.2
  let t0 := mu ratio.1 ratio.1 ratio.2
  eLast ad su mu c s u v (eFold ad su mu pa nu u v ratio.1 tick T.1 keys27 ⟨t0.1, 0, 0, 0, 0, 0, t0.2⟩)
def envE : Env := [(76, m2 112 ad), (75, m2 112 su), (127, m2 112 mu), (125, m2 112 di), (74, m3 112 pa), (121, m3 112 nr), (182, .flow 112 (numF nu)), (181, .eff anyArgs (tmSpec tm)), (77, .flow 112 (nrmF nr)), (30, .text), (123, .text)]
end
end Go.Proofs.YtdojnnlhaiennaaGreat.Fd

/- The field in the Earth's axes, as the interpreter finds it. Conditions: none. -/
namespace Go.Proofs.YtdojnnlhaiennaaGreat.Fd
open Go Go.Proofs.YtdojnnlhaiennaaGreat.Ae Go.Proofs.YtdojnnlhaiennaaGreat.Fx Go.Proofs.YtdojnnlhaiennaaGreat.Lx Go.Proofs.YtdojnnlhaiennaaGreat.Tx Go.Proofs.YtdojnnlhaiennaaGreat.Te Go.Proofs.YtdojnnlhaiennaaGreat.Rx Go.Proofs.YtdojnnlhaiennaaGreat.Row Go.Proofs.YtdojnnlhaiennaaGreat.Ve
section
variable (ad su mu di : Op2) (pa nr : Op3) (nu : Op3p) (tm : TmF)
def earthG (x y z t : Int) (bad : Bool) : Option (AV × Bool) :=
  let r := nr x y z bad
  bif (bif (bif !(ckT t) then true else decide (r.1 < 6597069766656)) then true else decide (r.1 > 10995116277760)) then some (V3.zero.av, true) else
  bif r.2 then some (V3.zero.av, r.2) else
  let w := nr x y 0 r.2
  let c := di z r.1 w.2
  let s := di w.1 r.1 c.2
  bif decide (w.1 ≥ 1048576) then
    let u := di x w.1 s.2
    let v := di y w.1 u.2
    eBody ad su mu di pa nu tm t r.1 c.1 s.1 u.1 v.1 v.2
  else eBody ad su mu di pa nu tm t r.1 c.1 s.1 1099511627776 0 s.2
theorem earth_raw (x y z t : Int) (bad : Bool) : acall Tryz.prog (envE ad su mu di pa nr nu tm) 2000 135 [.ptr 0 0, V3.av ⟨x, y, z⟩, I t] [.cells [.bool bad] 112] (flowK 112) = earthG ad su mu di pa nr nu tm x y z t bad := by kernel_rfl
end
end Go.Proofs.YtdojnnlhaiennaaGreat.Fd
