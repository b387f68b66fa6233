/- The contracts of the methods of the program's flow, in plain numbers. Conditions: none. -/
import Derived.Test.YtlkclpkpggapbaaFx3
import Derived.Laws.Externs
namespace Go.Proofs.Ytlkclpkpggapbaa.Fx
open Go Go.Proofs.Ytlkclpkpggapbaa.Ae

theorem EnvOk.t {P : Program} {env : Env} (t : EnvOk P env) {f : FuncId} (h : EnterOk P f) : EnvOk P ((f, .text) :: env) := EnvOk.cons (s := .text) h t
theorem EnvOk.p {P : Program} {env : Env} (t : EnvOk P env) {f : FuncId} (h : EnterOk P f) {C : List AV → Bool} {F : List AV → Option AV} (k : PureOk P f C F) : EnvOk P ((f, .pure C F) :: env) := EnvOk.cons (s := .pure C F) ⟨h, k⟩ t
theorem EnvOk.e {P : Program} {env : Env} (t : EnvOk P env) {f : FuncId} (h : EnterOk P f) {C : List AV → Bool} {F : List AV → List AB → Option (AV × List AB)} (k : EffOk P f C F) : EnvOk P ((f, .eff C F) :: env) := EnvOk.cons (s := .eff C F) ⟨h, k⟩ t
theorem EnvOk.x {P : Program} {env : Env} (t : EnvOk P env) {f : FuncId} {C : List AV → Bool} {F : List AV → Option AV} (k : ExtOk P f C F) : EnvOk P ((f, .ext C F) :: env) := EnvOk.cons (s := .ext C F) k t

theorem en_size : EnterOk Try.prog 52 := enter_of Try.func52 (by kernel_rfl) rfl
theorem en_mul64 : EnterOk Try.prog 53 := enter_of Try.func53 (by kernel_rfl) rfl
theorem en_len : EnterOk Try.prog 75 := enter_of Try.func75 (by kernel_rfl) rfl
theorem en_lz : EnterOk Try.prog 73 := enter_of Try.func73 (by kernel_rfl) rfl
theorem en_div64 : EnterOk Try.prog 70 := enter_of Try.func70 (by kernel_rfl) rfl
theorem en_give : EnterOk Try.prog 47 := enter_of Try.func47 (by kernel_rfl) rfl
theorem en_take : EnterOk Try.prog 45 := enter_of Try.func45 (by kernel_rfl) rfl
theorem en_fail : EnterOk Try.prog 18 := enter_of Try.func18 (by kernel_rfl) rfl
theorem en_root : EnterOk Try.prog 55 := enter_of Try.func55 (by kernel_rfl) rfl
theorem en_ratio : EnterOk Try.prog 46 := enter_of Try.func46 (by kernel_rfl) rfl
theorem en_add : EnterOk Try.prog 21 := enter_of Try.func21 (by kernel_rfl) rfl
theorem en_sub : EnterOk Try.prog 34 := enter_of Try.func34 (by kernel_rfl) rfl
theorem en_mul : EnterOk Try.prog 22 := enter_of Try.func22 (by kernel_rfl) rfl
theorem en_div : EnterOk Try.prog 20 := enter_of Try.func20 (by kernel_rfl) rfl
theorem en_part : EnterOk Try.prog 19 := enter_of Try.func19 (by kernel_rfl) rfl
theorem en_sqrt : EnterOk Try.prog 57 := enter_of Try.func57 (by kernel_rfl) rfl
theorem en_mod : EnterOk Try.prog 65 := enter_of Try.func65 (by kernel_rfl) rfl
theorem en_norm : EnterOk Try.prog 32 := enter_of Try.func32 (by kernel_rfl) rfl

theorem ok_nil : EnvOk Try.prog [] := EnvOk.nil _
theorem lz_con : PureOk Try.prog 73 anyArgs (lzF lzI) := lz_ok (EnvOk.p ok_nil en_len len_ok)
theorem lz_con' : PureOk Try.prog 73 lzC (lzF lzI) := fun args v _ h => lz_con args v rfl h
theorem div_con : PureOk Try.prog 70 divC (divF qtI rmI) := div_ok (EnvOk.p ok_nil en_lz lz_con')

theorem ratio_con : EffOk Try.prog 46 (fun l => ratC l.tail) (flowSpec 25 (int3 ratF)) := by
  have hE : EnvOk Try.prog (envQ sz sb mulHi qtI rmI) :=
    EnvOk.p (EnvOk.p (EnvOk.p (EnvOk.t ok_nil en_give) en_div64 div_con) en_mul64 mul_ok) en_size size_ok
  refine flow_of hE 60 _ _ _ _ ?_
  intro args g hC h b
  unfold int3 at h
  split at h <;> cases h
  simp only [ratC, Bool.and_eq_true] at hC
  rw [ratio_raw, ratio_eq hC.1.1 hC.1.2 hC.2]

theorem root_con : PureOk Try.prog 55 anyArgs (rootF rootI) := by
  refine pure_of (EnvOk.p ok_nil en_mul64 mul_ok : EnvOk Try.prog (envR mulHi)) 120 _ _ _ ?_
  rintro args v - h
  unfold rootF at h
  split at h <;> cases h
  exact ⟨rfl, rfl, root_raw _ _ _⟩

def aduI (x y c : Int) : Int := (x + y + c) % 18446744073709551616
def adcI (x y c : Int) : Int := (x + y + c) / 18446744073709551616
theorem add64_con : ExtOk Try.prog 54 addC (addF aduI adcI) := by
  intro args v hC h m Args hA
  unfold addF at h
  split at h <;> cases h
  rename_i x y c
  simp only [addC, Bool.and_eq_true, decide_eq_true_eq] at hC
  obtain ⟨X, _, e1, hx, h2⟩ := RL_cons.1 hA
  obtain ⟨Y, _, rfl, hy, h3⟩ := RL_cons.1 h2
  obtain ⟨Z, _, rfl, hz, h4⟩ := RL_cons.1 h3
  rw [RL_nil.1 h4] at e1
  simp only [R] at hx hy hz
  have hArgs : Args = #[.int .u64 x, .int .u64 y, .int .u64 c] := Array.toList_inj.1 (by rw [e1, hx, hy, hz])
  refine ⟨.tuple #[.int .u64 (aduI x y c), .int .u64 (adcI x y c)], ?_, fun w => ?_⟩
  · simp only [R]
    exact ⟨_, rfl, RL.cons (R_int _ _ _) (RL.cons (R_int _ _ _) (RL_nil.2 rfl))⟩
  · rw [hArgs]
    have hfind : Extern.find Try.f54 = some add64Entry := by kernel_rfl
    have hnext : Extern.findNext Try.f54 = none := by kernel_rfl
    have hname : (Try.f54.name == "runtime.NumGoroutine") = false := by kernel_rfl
    have hbody : Try.f54.body.isNone = true := by kernel_rfl
    simp only [callFunc, Sem.run_bind, run_program, Result.andThen_ok, Try.func54, hname, hbody, Bool.false_eq_true, if_false, if_true, hnext, hfind]
    have := run_add64 (P := Try.prog) x y c hC.1.1.1 hC.1.1.2 hC.1.2 hC.2 w
    simp only [mark, Sem.run, Result.andThen_ok, this]
    rfl

/-! ### The methods -/
theorem takeB_eq : ∀ (l : List Int) (bad : Bool), takeB bad l = (bad || l.any (fun n => !okn n))
  | [], bad => by simp [takeB]
  | n :: l, bad => by
    unfold takeB
    rw [takeB_eq l]
    have : (bif (bif bad then true else decide (n > 4611686018427387904)) then true else decide (n < -4611686018427387904)) = (bad || !okn n) := by
      unfold okn
      by_cases h1 : n > 4611686018427387904 <;> by_cases h2 : n < -4611686018427387904 <;> cases bad <;> simp [h1, h2] <;> omega
    rw [this, List.any_cons, Bool.or_assoc]

theorem opRaw_bad {bad : Bool} {l : List Int} (h : (bad || l.any (fun n => !okn n)) = true) (k : Bool → Option (AV × Bool)) : opRaw bad l k = some (.int .i64 0, true) := by
  unfold opRaw
  rw [takeB_eq, h]; rfl
theorem opRaw_ok {bad : Bool} {l : List Int} (h : (bad || l.any (fun n => !okn n)) = false) (k : Bool → Option (AV × Bool)) : opRaw bad l k = k false := by
  unfold opRaw
  rw [takeB_eq, h]; rfl
theorem lift_bad {bad : Bool} {l : List Int} (h : (bad || l.any (fun n => !okn n)) = true) (o : Option Int) : lift bad l o = (0, true) := by
  unfold lift; rw [if_pos h]
theorem lift_ok {bad : Bool} {l : List Int} (h : (bad || l.any (fun n => !okn n)) = false) (o : Option Int) : lift bad l o = resB false o := by
  unfold lift; rw [if_neg (by simp [h])]

theorem okn_iff {n : Int} : okn n = true ↔ -4611686018427387904 ≤ n ∧ n ≤ 4611686018427387904 := by simp [okn]
theorem rng_of {n : Int} (h : okn n = true) : rng n = true := by
  have := okn_iff.1 h
  simp [rng]; omega
theorem rng_one : rng 1099511627776 = true := by decide

/-- The pair that a method's answer is. -/
def av (p : Int × Bool) : Option (AV × Bool) := some (.int .i64 p.1, p.2)

theorem rrRaw_eq {a b c : Int} (ha : rng a = true) (hb : rng b = true) (hc : rng c = true) : rrRaw ratF a b c false = av (resB false (rat a b c)) := by
  unfold rrRaw
  have hC : ratC [.int .i64 a, .int .i64 b, .int .i64 c] = true := by simp only [ratC, ha, hb, hc, Bool.and_self]
  rw [hC, bt]
  rfl

theorem all_ok2 {bad : Bool} {a b : Int} (h : (bad || [a, b].any (fun n => !okn n)) = false) : bad = false ∧ okn a = true ∧ okn b = true := by
  simp at h; exact h
theorem all_ok3 {bad : Bool} {a b c : Int} (h : (bad || [a, b, c].any (fun n => !okn n)) = false) : bad = false ∧ okn a = true ∧ okn b = true ∧ okn c = true := by
  simp at h; exact h
theorem all_ok1 {bad : Bool} {a : Int} (h : (bad || [a].any (fun n => !okn n)) = false) : bad = false ∧ okn a = true := by
  simp at h; exact h

theorem mul_plain (a b : Int) (bad : Bool) : opRaw bad [a, b] (rrRaw ratF a b 1099511627776) = av (mul a b bad) := by
  unfold mul
  cases h : (bad || [a, b].any (fun n => !okn n)) with
  | true => rw [opRaw_bad h, lift_bad h]; rfl
  | false =>
    obtain ⟨_, h1, h2⟩ := all_ok2 h
    rw [opRaw_ok h, lift_ok h, rrRaw_eq (rng_of h1) (rng_of h2) rng_one]
theorem div_plain (a b : Int) (bad : Bool) : opRaw bad [a, b] (rrRaw ratF a 1099511627776 b) = av (div a b bad) := by
  unfold div
  cases h : (bad || [a, b].any (fun n => !okn n)) with
  | true => rw [opRaw_bad h, lift_bad h]; rfl
  | false =>
    obtain ⟨_, h1, h2⟩ := all_ok2 h
    rw [opRaw_ok h, lift_ok h, rrRaw_eq (rng_of h1) rng_one (rng_of h2)]
theorem part_plain (a b c : Int) (bad : Bool) : opRaw bad [a, b, c] (rrRaw ratF a b c) = av (part a b c bad) := by
  unfold part
  cases h : (bad || [a, b, c].any (fun n => !okn n)) with
  | true => rw [opRaw_bad h, lift_bad h]; rfl
  | false =>
    obtain ⟨_, h1, h2, h3⟩ := all_ok3 h
    rw [opRaw_ok h, lift_ok h, rrRaw_eq (rng_of h1) (rng_of h2) (rng_of h3)]
/-- Does a sum not fit? -/
def addBig (a b : Int) : Bool := bif (bif !(!(bif a == 4611686018427387904 then b == 4611686018427387904 else false)) then true else decide (wr .i64 (a + b) > 4611686018427387904)) then true else decide (wr .i64 (a + b) < -4611686018427387904)
theorem addBig_no {a b : Int} (h1 : -4611686018427387904 ≤ a + b) (h2 : a + b ≤ 4611686018427387904) : addBig a b = false := by
  unfold addBig
  rw [w64_in (by omega) (by omega), decide_eq_false (show ¬ a + b > 4611686018427387904 by omega), decide_eq_false (show ¬ a + b < -4611686018427387904 by omega)]
  by_cases ea : a = 4611686018427387904
  · have e : (b == 4611686018427387904) = false := by simp; omega
    rw [e]; cases (a == 4611686018427387904) <;> rfl
  · have e : (a == 4611686018427387904) = false := by simp; exact ea
    rw [e]; rfl
theorem addBig_yes {a b : Int} (ha : -4611686018427387904 ≤ a ∧ a ≤ 4611686018427387904) (hb : -4611686018427387904 ≤ b ∧ b ≤ 4611686018427387904) (h : ¬ (-4611686018427387904 ≤ a + b ∧ a + b ≤ 4611686018427387904)) : addBig a b = true := by
  unfold addBig
  by_cases ea : a = 4611686018427387904 ∧ b = 4611686018427387904
  · obtain ⟨rfl, rfl⟩ := ea
    have e : ((4611686018427387904 : Int) == 4611686018427387904) = true := by simp
    rw [e]; simp only [bt, Bool.not_true, Bool.not_false]
  · rw [w64_in (n := a + b) (by omega) (by omega)]
    by_cases hgt : a + b > 4611686018427387904
    · rw [decide_eq_true hgt]; cases (bif a == 4611686018427387904 then b == 4611686018427387904 else false) <;> simp only [bt, bf, Bool.not_true, Bool.not_false]
    · rw [decide_eq_true (show a + b < -4611686018427387904 by omega)]
      cases (bif !(!(bif a == 4611686018427387904 then b == 4611686018427387904 else false)) then true else decide (a + b > 4611686018427387904)) <;> simp only [bt, bf]
theorem add_plain (a b : Int) (bad : Bool) : (opRaw bad [a, b] fun bad => bif (bif (bif !(!(bif a == 4611686018427387904 then b == 4611686018427387904 else false)) then true else decide (wr .i64 (a + b) > 4611686018427387904)) then true else decide (wr .i64 (a + b) < -4611686018427387904)) then some (.int .i64 0, true) else some (.int .i64 (wr .i64 (a + b)), bad)) = av (add a b bad) := by
  unfold add
  cases h : (bad || [a, b].any (fun n => !okn n)) with
  | true => rw [opRaw_bad h, lift_bad h]; rfl
  | false =>
    obtain ⟨_, h1, h2⟩ := all_ok2 h
    rw [opRaw_ok h, lift_ok h]
    have i1 := okn_iff.1 h1
    have i2 := okn_iff.1 h2
    change (bif addBig a b then some (AV.int .i64 0, true) else some (AV.int .i64 (wr .i64 (a + b)), false)) = _
    by_cases hs : okn (a + b) = true
    · have i3 := okn_iff.1 hs
      rw [if_pos hs, addBig_no i3.1 i3.2, bf, w64_in (by omega) (by omega)]; rfl
    · rw [if_neg hs, addBig_yes i1 i2 (fun e => hs (okn_iff.2 e)), bt]; rfl
theorem sub_plain (a b : Int) (bad : Bool) : (opRaw bad [a, b] fun bad => some (.int .i64 (add a (wr .i64 (0 - b)) bad).1, (add a (wr .i64 (0 - b)) bad).2)) = av (sub a b bad) := by
  unfold sub
  cases h : (bad || [a, b].any (fun n => !okn n)) with
  | true => rw [opRaw_bad h, lift_bad h]; rfl
  | false =>
    obtain ⟨_, h1, h2⟩ := all_ok2 h
    rw [opRaw_ok h, lift_ok h]
    have i1 := okn_iff.1 h1
    have i2 := okn_iff.1 h2
    have hb : wr .i64 (0 - b) = -b := by rw [w64_in (by omega) (by omega)]; omega
    have h3 : okn (-b) = true := okn_iff.2 (by omega)
    rw [hb]
    unfold add
    rw [lift_ok (l := [a, -b]) (by simp [h1, h3])]
    rfl
theorem sqrt_plain (a : Int) (bad : Bool) : (bif (bif !(!takeB bad [a]) then true else decide (a < 0)) then some (.int .i64 0, true) else giveRaw (wr .i64 (rootI (wr .u64 a / 16777216) (wr .u64 (wr .u64 a * 1099511627776)))) (takeB bad [a])) = av (sqrt a bad) := by
  unfold sqrt
  rw [takeB_eq]
  cases h : (bad || [a].any (fun n => !okn n)) with
  | true => rw [lift_bad h]; rfl
  | false =>
    obtain ⟨_, h1⟩ := all_ok1 h
    rw [lift_ok h]
    have i1 := okn_iff.1 h1
    by_cases hn : a < 0
    · rw [decide_eq_true hn, if_pos hn]; rfl
    · rw [decide_eq_false hn, if_neg hn]
      simp only [Bool.not_false, Bool.not_true, bt, bf]
      rw [wu64_in (n := a) (by omega) (by omega), wr_u64]
      rw [rootI_eq (by omega) (by omega) (by omega) (by omega)]
      have hN : (a / 16777216).toNat * 18446744073709551616 + (a * 1099511627776 % 18446744073709551616).toNat = a.toNat * 1099511627776 := by omega
      rw [hN]
      have hr := (isq_ok (N := a.toNat * 1099511627776) (by
        have : (2 : Nat) ^ 128 = 340282366920938463463374607431768211456 := by kernel_rfl
        rw [this]; omega)).1
      have hle : isq (a.toNat * 1099511627776) ≤ 4611686018427387904 := by
        apply Nat.le_of_not_lt
        intro hlt
        have := Nat.mul_self_le_mul_self (show 4611686018427387904 ≤ isq (a.toNat * 1099511627776) by omega)
        omega
      generalize isq (a.toNat * 1099511627776) = r at *
      rw [w64_in (by omega) (by omega), give_in (by omega) (by omega)]
      rfl
theorem mod_plain (a m : Int) (bad : Bool) : (bif (bif !(!takeB bad [a, m]) then true else decide (m ≤ 0)) then some (.int .i64 0, true) else
    bif m == 0 then none else bif m == 0 then none else some (.int .i64 ((wr .i64 (a.tmod m + m)).tmod m), takeB bad [a, m])) = av (mod a m bad) := by
  unfold mod
  rw [takeB_eq]
  cases h : (bad || [a, m].any (fun n => !okn n)) with
  | true => rw [lift_bad h]; rfl
  | false =>
    obtain ⟨_, h1, h2⟩ := all_ok2 h
    rw [lift_ok h]
    have i1 := okn_iff.1 h1
    have i2 := okn_iff.1 h2
    by_cases hn : m ≤ 0
    · rw [decide_eq_true hn, if_pos hn]; rfl
    · rw [decide_eq_false hn, if_neg hn]
      have e0 : (m == 0) = false := by simp; omega
      rw [e0]
      simp only [Bool.not_false, Bool.not_true, bt, bf]
      have hm : 0 < m := by omega
      have t1 : -m < a.tmod m ∧ a.tmod m < m := ⟨by have := Int.tmod_lt_of_pos (-a) hm; rw [Int.neg_tmod] at this; omega, Int.tmod_lt_of_pos a hm⟩
      rw [w64_in (by omega) (by omega), Int.tmod_eq_emod_of_nonneg (by omega)]
      have e1 : (a.tmod m + m) % m = a % m := by
        rw [Int.add_emod_right]
        have := Int.tmod_add_mul_tdiv a m
        conv => rhs; rw [← this]
        rw [Int.add_mul_emod_self_left]
      rw [e1]; rfl
theorem normStep_eq {n hi lo : Int} (hn : rng n = true) (h0 : 0 ≤ hi) (l0 : 0 ≤ lo) (l1 : lo < 18446744073709551616) (k : Int → Int → Option (AV × Bool)) (hh : hi < 9223372036854775808) :
    ∃ hi' lo', normStep sz mulHi aduI adcI n hi lo k = k hi' lo' ∧ 0 ≤ hi' ∧ 0 ≤ lo' ∧ lo' < 18446744073709551616 ∧ hi' * 18446744073709551616 + lo' = hi * 18446744073709551616 + lo + (n.natAbs * n.natAbs : Nat) := by
  obtain ⟨e, u⟩ := sz_eq hn
  obtain ⟨m1, m2, m3, m4⟩ := mulHi_low (x := (n.natAbs : Int)) (y := (n.natAbs : Int)) (by omega) (by omega) (by omega) (by omega)
  have hsq : (n.natAbs : Int) * n.natAbs ≤ 85070591730234615865843651857942052864 := by
    have := Int.mul_le_mul u u (by omega) (by omega)
    omega
  have hp : (n.natAbs : Int) * (n.natAbs : Int) = ((n.natAbs * n.natAbs : Nat) : Int) := by rw [Int.natCast_mul]
  unfold normStep
  dsimp only
  rw [e]
  rw [hp] at m2 m3 m4 hsq ⊢
  generalize n.natAbs * n.natAbs = p at *
  generalize mulHi (n.natAbs : Int) (n.natAbs : Int) = h at *
  generalize wr .u64 (p : Int) = l at *
  have c1 : addC [.int .u64 lo, .int .u64 l, .int .u64 0] = true := by
    simp only [addC, Bool.and_eq_true, decide_eq_true_eq]; omega
  have hc : 0 ≤ adcI lo l 0 ∧ adcI lo l 0 ≤ 1 := by unfold adcI; omega
  have c2 : addC [.int .u64 hi, .int .u64 h, .int .u64 (adcI lo l 0)] = true := by
    simp only [addC, Bool.and_eq_true, decide_eq_true_eq]; omega
  rw [c1, c2]
  simp only [bt]
  refine ⟨_, _, rfl, ?_, ?_, ?_, ?_⟩ <;> simp only [aduI, adcI] <;> omega
def normK (hi lo : Int) (bad : Bool) : Option (AV × Bool) :=
  bif (bif (bif !(decide (rootI hi lo ≤ 4611686018427387904)) then true else decide (wr .i64 (rootI hi lo) > 4611686018427387904)) then true else decide (wr .i64 (rootI hi lo) < -4611686018427387904)) then some (.int .i64 0, true) else some (.int .i64 (wr .i64 (rootI hi lo)), bad)
theorem normK_eq {hi lo : Int} {r : Nat} (h : rootI hi lo = (r : Int)) (hr : r ≤ 9223372036854775807) (bad : Bool) : normK hi lo bad = if r > 4611686018427387904 then some (.int .i64 0, true) else some (.int .i64 (r : Int), bad) := by
  unfold normK
  rw [h, w64_in (by omega) (by omega)]
  by_cases hb : r > 4611686018427387904
  · rw [if_pos hb, decide_eq_false (show ¬ (r : Int) ≤ 4611686018427387904 by omega)]; simp only [Bool.not_false, bt]
  · rw [if_neg hb, decide_eq_true (show (r : Int) ≤ 4611686018427387904 by omega), decide_eq_false (show ¬ (r : Int) > 4611686018427387904 by omega), decide_eq_false (show ¬ (r : Int) < -4611686018427387904 by omega)]
    simp only [Bool.not_true, bf]
theorem norm_end (r : Nat) : (if r > 4611686018427387904 then some (AV.int .i64 0, true) else some (AV.int .i64 (r : Int), false)) = av (resB false (upTo r)) := by
  unfold upTo
  by_cases hb : r > 4611686018427387904
  · rw [if_pos hb, if_pos hb]; rfl
  · rw [if_neg hb, if_neg hb]; rfl
theorem norm_plain (a b c : Int) (bad : Bool) : (opRaw bad [a, b, c] fun bad =>
    normStep sz mulHi aduI adcI a 0 0 fun hi lo => normStep sz mulHi aduI adcI b hi lo fun hi lo => normStep sz mulHi aduI adcI c hi lo fun hi lo => normK hi lo bad) = av (norm a b c bad) := by
  unfold norm
  cases h : (bad || [a, b, c].any (fun n => !okn n)) with
  | true => rw [opRaw_bad h, lift_bad h]; rfl
  | false =>
    obtain ⟨_, h1, h2, h3⟩ := all_ok3 h
    rw [opRaw_ok h, lift_ok h]
    have sq : ∀ n : Int, okn n = true → n.natAbs * n.natAbs ≤ 21267647932558653966460912964485513216 := fun n hn => by
      have i := okn_iff.1 hn
      have := Nat.mul_le_mul (show n.natAbs ≤ 4611686018427387904 by omega) (show n.natAbs ≤ 4611686018427387904 by omega)
      omega
    have s1 := sq a h1
    have s2 := sq b h2
    have s3 := sq c h3
    obtain ⟨x1, y1, e1, p1, q1, r1, t1⟩ := normStep_eq (n := a) (hi := 0) (lo := 0) (rng_of h1) (by omega) (by omega) (by omega) (fun hi lo => normStep sz mulHi aduI adcI b hi lo fun hi lo => normStep sz mulHi aduI adcI c hi lo fun hi lo => normK hi lo false) (by omega)
    obtain ⟨x2, y2, e2, p2, q2, r2, t2⟩ := normStep_eq (n := b) (hi := x1) (lo := y1) (rng_of h2) p1 q1 r1 (fun hi lo => normStep sz mulHi aduI adcI c hi lo fun hi lo => normK hi lo false) (by omega)
    obtain ⟨x3, y3, e3, p3, q3, r3, t3⟩ := normStep_eq (n := c) (hi := x2) (lo := y2) (rng_of h3) p2 q2 r2 (fun hi lo => normK hi lo false) (by omega)
    refine Eq.trans (e1.trans (e2.trans e3)) ?_
    have hroot := rootI_eq p3 (by omega) q3 r3
    have hN : x3.toNat * 18446744073709551616 + y3.toNat = a.natAbs * a.natAbs + b.natAbs * b.natAbs + c.natAbs * c.natAbs := by omega
    rw [hN] at hroot
    have hr := (isq_ok (N := a.natAbs * a.natAbs + b.natAbs * b.natAbs + c.natAbs * c.natAbs) (by
      have : (2 : Nat) ^ 128 = 340282366920938463463374607431768211456 := by kernel_rfl
      rw [this]; omega)).1
    have hle : isq (a.natAbs * a.natAbs + b.natAbs * b.natAbs + c.natAbs * c.natAbs) ≤ 9223372036854775807 := by
      apply Nat.le_of_not_lt
      intro hlt
      have := Nat.mul_self_le_mul_self (show 9223372036854775808 ≤ isq (a.natAbs * a.natAbs + b.natAbs * b.natAbs + c.natAbs * c.natAbs) by omega)
      omega
    exact (normK_eq hroot hle false).trans (norm_end _)

/-! ### The contracts -/
theorem int2_some {f : Int → Int → Bool → Int × Bool} {args : List AV} {g : Bool → AV × Bool} (h : int2 f args = some g) : ∃ a b, args = [.int .i64 a, .int .i64 b] ∧ ∀ bad, some (g bad) = av (f a b bad) := by
  unfold int2 at h
  split at h <;> cases h
  exact ⟨_, _, rfl, fun _ => rfl⟩
theorem int3_some {f : Int → Int → Int → Bool → Int × Bool} {args : List AV} {g : Bool → AV × Bool} (h : int3 f args = some g) : ∃ a b c, args = [.int .i64 a, .int .i64 b, .int .i64 c] ∧ ∀ bad, some (g bad) = av (f a b c bad) := by
  unfold int3 at h
  split at h <;> cases h
  exact ⟨_, _, _, rfl, fun _ => rfl⟩
theorem int1_some {f : Int → Bool → Int × Bool} {args : List AV} {g : Bool → AV × Bool} (h : int1 f args = some g) : ∃ a, args = [.int .i64 a] ∧ ∀ bad, some (g bad) = av (f a bad) := by
  unfold int1 at h
  split at h <;> cases h
  exact ⟨_, rfl, fun _ => rfl⟩

/-- A method's contract. -/
abbrev Meth (f : FuncId) (F : List AV → Option (Bool → AV × Bool)) : Prop := EffOk Try.prog f (fun _ => true) (flowSpec 25 F)

theorem base_ok {ad : Int → Int → Bool → Int × Bool} (hA : Meth 21 (int2 ad)) : EnvOk Try.prog (envM sz sb mulHi ratF ad rootI aduI adcI) :=
  EnvOk.t (EnvOk.e (EnvOk.t (EnvOk.t (EnvOk.p (EnvOk.p (EnvOk.p (EnvOk.x (EnvOk.e ok_nil en_add hA) add64_con) en_mul64 mul_ok) en_size size_ok) en_root root_con) en_fail) en_give) en_ratio ratio_con) en_take

/-- The part of the list that the sum's own text is read with. -/
def envA : Env := [(45, .text), (47, .text)]
theorem add_raw' (a b : Int) (bad : Bool) : acall Try.prog envA 60 21 [.ptr 0 0, .int .i64 a, .int .i64 b] [.cells [.bool bad] 25] (flowK 25) =
    opRaw bad [a, b] fun bad => bif (bif (bif !(!(bif a == 4611686018427387904 then b == 4611686018427387904 else false)) then true else decide (wr .i64 (a + b) > 4611686018427387904)) then true else decide (wr .i64 (a + b) < -4611686018427387904)) then some (.int .i64 0, true) else some (.int .i64 (wr .i64 (a + b)), bad) := by kernel_rfl
theorem add_con : Meth 21 (int2 add) := by
  have hE : EnvOk Try.prog envA := EnvOk.t (EnvOk.t ok_nil en_give) en_take
  refine flow_of hE 60 _ _ (fun _ => true) _ ?_
  intro args g _ h bad
  obtain ⟨a, b, rfl, hg⟩ := int2_some h
  rw [add_raw', add_plain, hg]
theorem sub_con : Meth 34 (int2 sub) := by
  refine flow_of (base_ok add_con) 60 _ _ (fun _ => true) _ ?_
  intro args g _ h bad
  obtain ⟨a, b, rfl, hg⟩ := int2_some h
  rw [sub_raw, sub_plain, hg]
theorem mul_con : Meth 22 (int2 mul) := by
  refine flow_of (base_ok add_con) 60 _ _ (fun _ => true) _ ?_
  intro args g _ h bad
  obtain ⟨a, b, rfl, hg⟩ := int2_some h
  rw [mul_raw, mul_plain, hg]
theorem div_meth : Meth 20 (int2 div) := by
  refine flow_of (base_ok add_con) 60 _ _ (fun _ => true) _ ?_
  intro args g _ h bad
  obtain ⟨a, b, rfl, hg⟩ := int2_some h
  rw [div_raw2, div_plain, hg]
theorem mod_con : Meth 65 (int2 mod) := by
  refine flow_of (base_ok add_con) 60 _ _ (fun _ => true) _ ?_
  intro args g _ h bad
  obtain ⟨a, b, rfl, hg⟩ := int2_some h
  rw [mod_raw, mod_plain, hg]
theorem part_con : Meth 19 (int3 part) := by
  refine flow_of (base_ok add_con) 60 _ _ (fun _ => true) _ ?_
  intro args g _ h bad
  obtain ⟨a, b, c, rfl, hg⟩ := int3_some h
  rw [part_raw, part_plain, hg]
theorem norm_con : Meth 32 (int3 norm) := by
  refine flow_of (base_ok add_con) 60 _ _ (fun _ => true) _ ?_
  intro args g _ h bad
  obtain ⟨a, b, c, rfl, hg⟩ := int3_some h
  rw [norm_raw]
  refine Eq.trans (norm_plain a b c bad) (hg bad).symm
theorem sqrt_con : Meth 57 (int1 sqrt) := by
  refine flow_of (base_ok add_con) 60 _ _ (fun _ => true) _ ?_
  intro args g _ h bad
  obtain ⟨a, rfl, hg⟩ := int1_some h
  rw [sqrt_raw, sqrt_plain, hg]

#print axioms norm_con
end Go.Proofs.Ytlkclpkpggapbaa.Fx
