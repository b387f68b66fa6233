/- The contracts of the reference's ratio. Conditions: none. -/
import Derived.Test.YtlkclpkpggapbaaRx3
import Derived.Test.YtlkclpkpggapbaaRx4
import Derived.Test.YtlkclpkpggapbaaFx4
namespace Go.Proofs.Ytlkclpkpggapbaa.Rx
open Go Go.Proofs.Ytlkclpkpggapbaa.Ae Go.Proofs.Ytlkclpkpggapbaa.Fx

theorem en_add : EnterOk Try.prog 58 := enter_of Try.func58 (by kernel_rfl) rfl
theorem en_times : EnterOk Try.prog 59 := enter_of Try.func59 (by kernel_rfl) rfl
theorem en_over : EnterOk Try.prog 74 := enter_of Try.func74 (by kernel_rfl) rfl
theorem en_rounded : EnterOk Try.prog 71 := enter_of Try.func71 (by kernel_rfl) rfl
theorem en_size : EnterOk Try.prog 60 := enter_of Try.func60 (by kernel_rfl) rfl
theorem en_number : EnterOk Try.prog 51 := enter_of Try.func51 (by kernel_rfl) rfl
theorem en_above : EnterOk Try.prog 61 := enter_of Try.func61 (by kernel_rfl) rfl
theorem en_rgive : EnterOk Try.prog 62 := enter_of Try.func62 (by kernel_rfl) rfl
theorem en_rtake : EnterOk Try.prog 49 := enter_of Try.func49 (by kernel_rfl) rfl
theorem en_rratio : EnterOk Try.prog 50 := enter_of Try.func50 (by kernel_rfl) rfl
theorem en_rAdd : EnterOk Try.prog 29 := enter_of Try.func29 (by kernel_rfl) rfl

theorem _root_.Go.Proofs.Ytlkclpkpggapbaa.Ae.EnvOk.c {P : Program} {env : Env} (t : EnvOk P env) {f : FuncId} (h : EnterOk P f) {F : List AV → Option AV} (k : PureOk P f (fun _ => true) F) : EnvOk P ((f, .calc F) :: env) := EnvOk.cons (s := .calc F) ⟨h, k⟩ t

theorem rsize_con : PureOk Try.prog 60 anyA (rsizeF sz) := by
  refine pure_of ok_nil 30 _ _ _ ?_
  rintro args v - h
  unfold rsizeF at h
  split at h <;> cases h
  rename_i n
  refine ⟨rfl, rfl, ?_⟩
  rw [rsize_raw, sz]
  cases decide (n < 0) <;> rfl
theorem times_con : PureOk Try.prog 59 anyA (timesF thI tlI) := by
  have hE : EnvOk Try.prog (envT waH) := EnvOk.c ok_nil en_add wa_ok
  refine pure_of hE 75 _ _ _ ?_
  rintro args v - h
  unfold timesF at h
  split at h <;> cases h
  refine ⟨rfl, rfl, ?_⟩
  rw [times_raw, timesP_all]
  rfl
def ovBad (h b : Int) : Bool := bif b == 0 then true else decide (h ≥ b)
def okI (h _l b : Int) : Bool := !(ovBad h b)
def qoI (h l b : Int) : Int := bif ovBad h b then 0 else (overRaw b l 64 h 0).2
def loI (h l b : Int) : Int := bif ovBad h b then 0 else (overRaw b l 64 h 0).1
theorem over_con : PureOk Try.prog 74 anyA (overF okI qoI loI) := by
  refine pure_of ok_nil 90 _ _ _ ?_
  rintro args v - hh
  unfold overF at hh
  split at hh <;> cases hh
  rename_i h l b
  refine ⟨rfl, rfl, ?_⟩
  refine Eq.trans (over_raw h l b) ?_
  unfold okI qoI loI
  change (bif ovBad h b then _ else _) = _
  cases ovBad h b <;> rfl
def rdBad (h l b : Int) : Bool := bif !(okI h l b) then true else decide (qoI h l b > 4611686018427387904)
def roI (h l b : Int) : Bool := !(rdBad h l b)
def rqI (h l b : Int) : Int := bif rdBad h l b then 0 else bif decide (loI h l b ≥ wr .u64 (b - loI h l b)) then wr .u64 (qoI h l b + 1) else qoI h l b
theorem rounded_con : PureOk Try.prog 71 anyA (roundedF rqI roI) := by
  refine pure_of (EnvOk.p ok_nil en_over over_con : EnvOk Try.prog (envO okI qoI loI)) 40 _ _ _ ?_
  rintro args v - hh
  unfold roundedF at hh
  split at hh <;> cases hh
  rename_i h l b
  refine ⟨rfl, rfl, ?_⟩
  refine Eq.trans (rounded_raw okI qoI loI h l b) ?_
  unfold roI rqI
  change (bif rdBad h l b then _ else _) = _
  cases rdBad h l b <;> rfl

theorem rsigns (a b c : Int) : (Int.tmod (bif decide (c < 0) then wr .i64 ((bif decide (b < 0) then wr .i64 ((bif decide (a < 0) then wr .i64 (0 + 1) else 0) + 1) else bif decide (a < 0) then wr .i64 (0 + 1) else 0) + 1) else bif decide (b < 0) then wr .i64 ((bif decide (a < 0) then wr .i64 (0 + 1) else 0) + 1) else bif decide (a < 0) then wr .i64 (0 + 1) else 0) 2 == 1) = sgn3 a b c := by
  unfold sgn3
  cases decide (a < 0) <;> cases decide (b < 0) <;> cases decide (c < 0) <;> kernel_rfl

theorem rgive_big {q : Int} (h : q > 4611686018427387904) (below bad : Bool) : rgive q below bad = some (.int .i64 0, true) := by
  unfold rgive
  rw [decide_eq_true h, bt]
theorem rgive_in {q : Int} (h : 0 ≤ q) (h' : q ≤ 4611686018427387904) (below bad : Bool) : rgive q below bad = some (.int .i64 (if below then -q else q), bad) := by
  unfold rgive
  rw [decide_eq_false (by omega), bf, w64_in (n := q) (by omega) (by omega)]
  cases below
  · rw [bf, if_neg (by simp)]
  · rw [bt, if_pos rfl, w64_in (by omega) (by omega), Int.zero_sub]

theorem rratio_eq {a b c : Int} (ha : rng a = true) (hb : rng b = true) (hc : rng c = true) (bad : Bool) :
    rratRaw sz thI tlI rqI roI a b c bad = some (.int .i64 (ratF a b c bad).1, (ratF a b c bad).2) := by
  obtain ⟨ea, ua⟩ := sz_eq ha
  obtain ⟨eb, ub⟩ := sz_eq hb
  obtain ⟨ec, uc⟩ := sz_eq hc
  unfold rratRaw
  rw [ea, eb, ec]
  obtain ⟨t1, t2⟩ := times_eq (a := (a.natAbs : Int)) (b := (b.natAbs : Int)) (in64_iff.2 (by omega)) (in64_iff.2 (by omega))
  have hp : (a.natAbs : Int) * (b.natAbs : Int) = ((a.natAbs * b.natAbs : Nat) : Int) := by rw [Int.natCast_mul]
  dsimp only
  rw [rsigns, t1, t2, hp]
  unfold ratF rat
  have hcz : c = 0 ↔ c.natAbs = 0 := by omega
  generalize sgn3 a b c = sg at *
  generalize a.natAbs * b.natAbs = p at *
  generalize c.natAbs = z at *
  generalize hh : (p : Int) / 18446744073709551616 = h at *
  generalize hl : (p : Int) % 18446744073709551616 = l at *
  unfold roI rqI rdBad okI
  by_cases z0 : z = 0
  · rw [if_pos (hcz.2 z0)]
    have : ovBad h (z : Int) = true := by unfold ovBad; rw [show ((z : Int) == 0) = true by simp; exact z0, bt]
    rw [this]; rfl
  · rw [if_neg (fun e => z0 (hcz.1 e))]
    have e0 : ((z : Int) == 0) = false := by simp; exact z0
    by_cases hz : h ≥ (z : Int)
    · have : ovBad h (z : Int) = true := by unfold ovBad; rw [e0, bf]; exact decide_eq_true hz
      rw [this]
      have hbig : (2 * p + z) / (2 * z) > 4611686018427387904 := by
        have : 18446744073709551616 ≤ (2 * p + z) / (2 * z) := by
          rw [Nat.le_div_iff_mul_le (by omega)]
          omega
        omega
      rw [if_pos hbig]; simp only [Bool.not_true, Bool.not_false, bt, resB]
    · have hov : ovBad h (z : Int) = false := by unfold ovBad; rw [e0, bf]; exact decide_eq_false hz
      obtain ⟨o1, o2⟩ := overRaw_eq (b := (z : Int)) (lo := l) (h := h) (by omega) (by omega) (by omega) (by omega) 64 h 0 (Nat.le_refl _) (by omega) (by omega) (by omega)
        (by
          have e1 : p2 (64 - 64) = 1 := by kernel_rfl
          have e2 : l / p2 64 = 0 := by rw [p2_64]; omega
          rw [e1, e2]; omega) (by omega) (by omega)
      have hpp : h * 18446744073709551616 + l = (p : Int) := by omega
      rw [hpp] at o1 o2
      have hq : qoI h l (z : Int) = ((p / z : Nat) : Int) := by unfold qoI; rw [hov, bf, o1]; exact (Int.natCast_ediv _ _).symm
      have hr : loI h l (z : Int) = ((p % z : Nat) : Int) := by unfold loI; rw [hov, bf, o2]; exact (Int.natCast_emod _ _).symm
      rw [hov, hq, hr]
      simp only [Bool.not_false, Bool.not_true, bf]
      have hdm := Nat.div_add_mod p z
      have hml := Nat.mod_lt p (show z > 0 by omega)
      have hround := round_eq (show 0 < z by omega) hdm hml
      generalize p / z = n at *
      generalize p % z = left at *
      rw [hround]
      by_cases hn : (n : Int) > 4611686018427387904
      · rw [decide_eq_true hn]
        have : (if z ≤ 2 * left then n + 1 else n) > 4611686018427387904 := by split <;> omega
        rw [if_pos this]; simp only [Bool.not_true, Bool.not_false, bt, resB]
      · rw [decide_eq_false hn]
        simp only [Bool.not_false, Bool.not_true, bf]
        have hw : wr .u64 ((z : Int) - (left : Int)) = (z : Int) - left := wu64_in (by omega) (by omega)
        have hn0 : (n : Int) ≤ 4611686018427387904 := by omega
        rw [hw, wu64_in (n := (n : Int) + 1) (by omega) (by omega)]
        have hn' : (bif decide ((left : Int) ≥ (z : Int) - left) then (n : Int) + 1 else (n : Int)) = ((if z ≤ 2 * left then n + 1 else n : Nat) : Int) := by
          by_cases hh : z ≤ 2 * left
          · rw [decide_eq_true (by omega), if_pos hh]; rfl
          · rw [decide_eq_false (by omega), if_neg hh]; rfl
        rw [hn']
        generalize (if z ≤ 2 * left then n + 1 else n) = r at *
        by_cases hbig : r > 4611686018427387904
        · rw [if_pos hbig, rgive_big (by omega)]; simp only [resB]
        · rw [if_neg hbig, rgive_in (by omega) (by omega)]
          cases sg
          · simp only [Bool.false_eq_true, if_false, resB]
          · simp only [if_true, resB]

abbrev RMeth (f : FuncId) (F : List AV → Option (Bool → AV × Bool)) : Prop := EffOk Try.prog f (fun _ => true) (flowSpec 27 F)
theorem rratio_con : EffOk Try.prog 50 (fun l => ratC l.tail) (flowSpec 27 (int3 ratF)) := by
  have hE : EnvOk Try.prog (envS sz thI tlI rqI roI) :=
    EnvOk.p (EnvOk.p (EnvOk.p (EnvOk.t ok_nil en_rgive) en_rounded rounded_con) en_times times_con) en_size rsize_con
  refine flow_of hE 60 _ _ _ _ ?_
  intro args g hC h b
  unfold int3 at h
  split at h <;> cases h
  simp only [ratC, Bool.and_eq_true] at hC
  rw [rrat_raw, rratio_eq hC.1.1 hC.1.2 hC.2]
#print axioms rratio_con
end Go.Proofs.Ytlkclpkpggapbaa.Rx
