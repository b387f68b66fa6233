/- The contracts of sines and cosines, the program's and the reference's: the same plain functions. Conditions: none. -/
import Derived.Test.YtlkclpkpggapbaaTx1
namespace Go.Proofs.Ytlkclpkpggapbaa.Tx
open Go Go.Proofs.Ytlkclpkpggapbaa.Ae Go.Proofs.Ytlkclpkpggapbaa.Fx Go.Proofs.Ytlkclpkpggapbaa.Lx Go.Proofs.Ytlkclpkpggapbaa.Rx

def serP (t first : Int) (bad : Bool) : Int × Bool :=
  let u := mul t t bad
  let v := serL sub mul Fx.part u.1 first 10 (1099511627776, u.2)
  bif first == 1 then mul t v.1 v.2 else v
def turnP (a q : Int) (bad : Bool) : Int × Bool :=
  let r := mod a 6908435304716 bad
  bif r.2 then (0, r.2) else
  let k := (wr .i64 (wr .i64 (r.1.tdiv 1727108826179) + q)).tmod 4
  let v := serP (r.1.tmod 1727108826179) (wr .i64 (1 - k.tmod 2)) r.2
  bif decide (k > 1) then (wr .i64 (0 - v.1), v.2) else v
def sinP (a : Int) (bad : Bool) : Int × Bool := turnP a 0 bad
def cosP (a : Int) (bad : Bool) : Int × Bool := turnP a 1 bad

theorem serRaw_eq (t first : Int) (bad : Bool) : serRaw sub mul Fx.part t first bad = av (serP t first bad) := by
  unfold serRaw serP
  dsimp only
  cases (first == 1) <;> rfl
theorem turnRaw_eq (a q : Int) (bad : Bool) : turnRaw mod serP a q bad = av (turnP a q bad) := by
  unfold turnRaw turnP
  dsimp only
  cases (mod a 6908435304716 bad).2
  · simp only [cond_false]
    cases decide ((wr .i64 (wr .i64 ((mod a 6908435304716 bad).1.tdiv 1727108826179) + q)).tmod 4 > 1) <;> rfl
  · rfl

theorem en_series : EnterOk Try.prog 72 := enter_of Try.func72 (by kernel_rfl) rfl
theorem en_turn : EnterOk Try.prog 66 := enter_of Try.func66 (by kernel_rfl) rfl
theorem en_Sin : EnterOk Try.prog 41 := enter_of Try.func41 (by kernel_rfl) rfl
theorem en_Cos : EnterOk Try.prog 40 := enter_of Try.func40 (by kernel_rfl) rfl
theorem en_rs : EnterOk Try.prog 69 := enter_of Try.func69 (by kernel_rfl) rfl
theorem en_rc : EnterOk Try.prog 68 := enter_of Try.func68 (by kernel_rfl) rfl
theorem en_rSin : EnterOk Try.prog 44 := enter_of Try.func44 (by kernel_rfl) rfl
theorem en_rCos : EnterOk Try.prog 43 := enter_of Try.func43 (by kernel_rfl) rfl
theorem en_rMul : EnterOk Try.prog 30 := enter_of Try.func30 (by kernel_rfl) rfl
theorem en_rDiv : EnterOk Try.prog 27 := enter_of Try.func27 (by kernel_rfl) rfl
theorem en_rPart : EnterOk Try.prog 26 := enter_of Try.func26 (by kernel_rfl) rfl
theorem en_rMod : EnterOk Try.prog 67 := enter_of Try.func67 (by kernel_rfl) rfl
theorem en_rSqrt : EnterOk Try.prog 64 := enter_of Try.func64 (by kernel_rfl) rfl
theorem en_rNorm : EnterOk Try.prog 36 := enter_of Try.func36 (by kernel_rfl) rfl
theorem en_rSub : EnterOk Try.prog 37 := enter_of Try.func37 (by kernel_rfl) rfl

theorem ser_con : Meth 72 (int2 serP) := by
  refine flow_of (EnvOk.f (EnvOk.f (EnvOk.f ok_nil en_part part_con) en_sub sub_con) en_mul mul_con) 60 _ _ (fun _ => true) _ ?_
  intro args g _ h bad
  obtain ⟨a, b, rfl, hg⟩ := int2_some h
  exact (ser_raw sub mul Fx.part a b bad).trans ((serRaw_eq a b bad).trans (hg bad).symm)
theorem turn_con : Meth 66 (int2 turnP) := by
  refine flow_of (EnvOk.f (EnvOk.f ok_nil en_series ser_con) en_mod mod_con) 60 _ _ (fun _ => true) _ ?_
  intro args g _ h bad
  obtain ⟨a, b, rfl, hg⟩ := int2_some h
  exact (turn_raw mod serP a b bad).trans ((turnRaw_eq a b bad).trans (hg bad).symm)
theorem sin_con : Meth 41 (int1 sinP) := by
  refine flow_of (EnvOk.f ok_nil en_turn turn_con) 60 _ _ (fun _ => true) _ ?_
  intro args g _ h bad
  obtain ⟨a, rfl, hg⟩ := int1_some h
  exact (sin_raw turnP a bad).trans (hg bad).symm
theorem cos_con : Meth 40 (int1 cosP) := by
  refine flow_of (EnvOk.f ok_nil en_turn turn_con) 60 _ _ (fun _ => true) _ ?_
  intro args g _ h bad
  obtain ⟨a, rfl, hg⟩ := int1_some h
  exact (cos_raw turnP a bad).trans (hg bad).symm

/-! ### The reference's -/
theorem rserL_1 (su mu : Op2) (pa : Op3) (u : Int) (s : Int × Bool) : rserL su mu pa u 1 10 s = serL su mu pa u 1 10 s := by kernel_rfl
theorem rserL_0 (su mu : Op2) (pa : Op3) (u : Int) (s : Int × Bool) : rserL su mu pa u 0 10 s = serL su mu pa u 0 10 s := by kernel_rfl
def sP (t : Int) (bad : Bool) : Int × Bool := serP t 1 bad
def cP (t : Int) (bad : Bool) : Int × Bool := serP t 0 bad
theorem rs_con : RMeth 69 (int1 sP) := by
  refine flow_of (EnvOk.f (EnvOk.f (EnvOk.f ok_nil en_rPart rpart_con) en_rSub rsub_con) en_rMul rmul_con) 60 _ _ (fun _ => true) _ ?_
  intro args g _ h bad
  obtain ⟨a, rfl, hg⟩ := int1_some h
  refine (rs_raw sub mul Fx.part a bad).trans (Eq.trans ?_ (hg bad).symm)
  dsimp only
  rw [rserL_1]; rfl
theorem rc_con : RMeth 68 (int1 cP) := by
  refine flow_of (EnvOk.f (EnvOk.f (EnvOk.f ok_nil en_rPart rpart_con) en_rSub rsub_con) en_rMul rmul_con) 60 _ _ (fun _ => true) _ ?_
  intro args g _ h bad
  obtain ⟨a, rfl, hg⟩ := int1_some h
  refine (rc_raw sub mul Fx.part a bad).trans (Eq.trans ?_ (hg bad).symm)
  dsimp only
  rw [rserL_0]; rfl

theorem mod_range {a m : Int} {bad : Bool} (hm : 0 < m) (h : (mod a m bad).2 = false) : 0 ≤ (mod a m bad).1 ∧ (mod a m bad).1 < m := by
  unfold mod at *
  rw [if_neg (show ¬ m ≤ 0 by omega)] at *
  unfold lift at *
  split at h
  · cases h
  · rename_i hc
    rw [if_neg hc]
    exact ⟨Int.emod_nonneg _ (by omega), Int.emod_lt_of_pos _ hm⟩

theorem quarter {r : Int} (h0 : 0 ≤ r) (h1 : r < 6908435304716) : ∃ k t : Int, r.tdiv 1727108826179 = k ∧ r.tmod 1727108826179 = t ∧ wr .i64 (r - wr .i64 (wr .i64 k * 1727108826179)) = t ∧ wr .i64 k = k ∧ (k = 0 ∨ k = 1 ∨ k = 2 ∨ k = 3) ∧ r = k * 1727108826179 + t ∧ 0 ≤ t ∧ t < 1727108826179 := by
  refine ⟨r / 1727108826179, r % 1727108826179, Int.tdiv_eq_ediv_of_nonneg h0, Int.tmod_eq_emod_of_nonneg h0, ?_, w64_in (by omega) (by omega), by omega, by omega, by omega, by omega⟩
  rw [w64_in (n := r / 1727108826179) (by omega) (by omega), w64_in (n := r / 1727108826179 * 1727108826179) (by omega) (by omega), w64_in (by omega) (by omega)]
  omega

theorem rcase0 (p q r t : Option (AV × Bool)) : rcase 0 p q r t = p := by
  unfold rcase; rw [show ((0 : Int) == 0) = true from by decide, bt]
theorem rcase1 (p q r t : Option (AV × Bool)) : rcase 1 p q r t = q := by
  unfold rcase; rw [show ((1 : Int) == 0) = false from by decide, bf, show ((1 : Int) == 1) = true from by decide, bt]
theorem rcase2 (p q r t : Option (AV × Bool)) : rcase 2 p q r t = r := by
  unfold rcase; rw [show ((2 : Int) == 0) = false from by decide, bf, show ((2 : Int) == 1) = false from by decide, bf, show ((2 : Int) == 2) = true from by decide, bt]
theorem rcase3 (p q r t : Option (AV × Bool)) : rcase 3 p q r t = t := by
  unfold rcase; rw [show ((3 : Int) == 0) = false from by decide, bf, show ((3 : Int) == 1) = false from by decide, bf, show ((3 : Int) == 2) = false from by decide, bf]
theorem rend_f (v : Int × Bool) : rend v false = av v := by unfold rend; rw [bf]; rfl
theorem rend_t (v : Int × Bool) : rend v true = av (wr .i64 (0 - v.1), v.2) := by unfold rend; rw [bt]; rfl
theorem rsinRaw_eq (a : Int) (bad : Bool) : rsinRaw mod sP cP a bad = av (sinP a bad) := by
  unfold rsinRaw sinP turnP
  dsimp only
  cases hb : (mod a 6908435304716 bad).2 with
  | true => rfl
  | false =>
    obtain ⟨h0, h1⟩ := mod_range (by omega) hb
    generalize (mod a 6908435304716 bad).1 = r at *
    obtain ⟨k, t, e1, e2, e3, e4, hk, _⟩ := quarter h0 h1
    simp only [cond_false]
    rw [e1, e2, e3, e4]
    unfold sP cP
    generalize serP t = F
    rcases hk with rfl | rfl | rfl | rfl
    · rw [rcase0, show (wr .i64 ((0 : Int) + 0)).tmod 4 = 0 from by decide, show wr .i64 (1 - (0 : Int).tmod 2) = 1 from by decide, show decide ((0 : Int) > 1) = false from by decide, bf, rend_f]
    · rw [rcase1, show (wr .i64 ((1 : Int) + 0)).tmod 4 = 1 from by decide, show wr .i64 (1 - (1 : Int).tmod 2) = 0 from by decide, show decide ((1 : Int) > 1) = false from by decide, bf, rend_f]
    · rw [rcase2, show (wr .i64 ((2 : Int) + 0)).tmod 4 = 2 from by decide, show wr .i64 (1 - (2 : Int).tmod 2) = 1 from by decide, show decide ((2 : Int) > 1) = true from by decide, bt, rend_t]
    · rw [rcase3, show (wr .i64 ((3 : Int) + 0)).tmod 4 = 3 from by decide, show wr .i64 (1 - (3 : Int).tmod 2) = 0 from by decide, show decide ((3 : Int) > 1) = true from by decide, bt, rend_t]
theorem rcosRaw_eq (a : Int) (bad : Bool) : rcosRaw mod sP cP a bad = av (cosP a bad) := by
  unfold rcosRaw cosP turnP
  dsimp only
  cases hb : (mod a 6908435304716 bad).2 with
  | true => rfl
  | false =>
    obtain ⟨h0, h1⟩ := mod_range (by omega) hb
    generalize (mod a 6908435304716 bad).1 = r at *
    obtain ⟨k, t, e1, e2, e3, e4, hk, _⟩ := quarter h0 h1
    simp only [cond_false]
    rw [e1, e2, e3, e4]
    unfold sP cP
    generalize serP t = F
    rcases hk with rfl | rfl | rfl | rfl
    · rw [rcase0, show (wr .i64 ((0 : Int) + 1)).tmod 4 = 1 from by decide, show wr .i64 (1 - (1 : Int).tmod 2) = 0 from by decide, show decide ((1 : Int) > 1) = false from by decide, bf, rend_f]
    · rw [rcase1, show (wr .i64 ((1 : Int) + 1)).tmod 4 = 2 from by decide, show wr .i64 (1 - (2 : Int).tmod 2) = 1 from by decide, show decide ((2 : Int) > 1) = true from by decide, bt, rend_t]
    · rw [rcase2, show (wr .i64 ((2 : Int) + 1)).tmod 4 = 3 from by decide, show wr .i64 (1 - (3 : Int).tmod 2) = 0 from by decide, show decide ((3 : Int) > 1) = true from by decide, bt, rend_t]
    · rw [rcase3, show (wr .i64 ((3 : Int) + 1)).tmod 4 = 0 from by decide, show wr .i64 (1 - (0 : Int).tmod 2) = 1 from by decide, show decide ((0 : Int) > 1) = false from by decide, bf, rend_f]
theorem rsin_con : RMeth 44 (int1 sinP) := by
  refine flow_of (EnvOk.f (EnvOk.f (EnvOk.f ok_nil en_rc rc_con) en_rs rs_con) en_rMod rmod_con) 60 _ _ (fun _ => true) _ ?_
  intro args g _ h bad
  obtain ⟨a, rfl, hg⟩ := int1_some h
  exact (rsin_raw mod sP cP a bad).trans ((rsinRaw_eq a bad).trans (hg bad).symm)
theorem rcos_con : RMeth 43 (int1 cosP) := by
  refine flow_of (EnvOk.f (EnvOk.f (EnvOk.f ok_nil en_rc rc_con) en_rs rs_con) en_rMod rmod_con) 60 _ _ (fun _ => true) _ ?_
  intro args g _ h bad
  obtain ⟨a, rfl, hg⟩ := int1_some h
  exact (rcos_raw mod sP cP a bad).trans ((rcosRaw_eq a bad).trans (hg bad).symm)
#print axioms rcos_con
end Go.Proofs.Ytlkclpkpggapbaa.Tx
