/- A sensor's reading: the contracts. Conditions: none. -/
import Derived.Test.YtkdlliedpjnobaaSe2
namespace Go.Proofs.Ytkdlliedpjnobaa.Se
open Go Go.Proofs.Ytkdlliedpjnobaa.Ae Go.Proofs.Ytkdlliedpjnobaa.Fx Go.Proofs.Ytkdlliedpjnobaa.Lx Go.Proofs.Ytkdlliedpjnobaa.Tx Go.Proofs.Ytkdlliedpjnobaa.Ve Go.Proofs.Ytkdlliedpjnobaa.Te Go.Proofs.Ytkdlliedpjnobaa.Rx

def rdOut (r : Rdg × Bool) : AV := .tup [r.1.av, .bool r.2]
def sreadF (rd : Int → ByteArray → Rdg × Bool) : List AV → Option AV
  | [.agg [.int .i64 k, .str s]] => some (rdOut (rd k s))
  | _ => none
theorem sreadF_some {rd : Int → ByteArray → Rdg × Bool} {args : List AV} {v : AV} (h : sreadF rd args = some v) : ∃ k s, args = [.agg [I k, .str s]] ∧ v = rdOut (rd k s) := by
  unfold sreadF at h
  split at h <;> cases h
  exact ⟨_, _, rfl, rfl⟩
theorem R_intF (m : List Nat) (k : Int) (lo hi ex : List Int) (h : (∀ l ∈ lo, l ≤ k) ∧ ∀ l ∈ hi, k ≤ l) (hex : ∀ c ∈ ex, k ≠ c) {V : Value} (hv : R m (I k) V) : R m (.intF .i64 k lo hi ex) V := by
  simp only [R] at hv ⊢
  exact ⟨hv, h, hex⟩
theorem RL_kind {m : List Nat} {k : Int} {s : AV} {a : AV} (h : ∀ V, R m (I k) V → R m a V) {Vs : List Value} (hv : RL m [.agg [I k, s]] Vs) : RL m [.agg [a, s]] Vs := by
  obtain ⟨V, Vs', rfl, h1, h2⟩ := RL_cons.1 hv
  refine RL.cons ?_ h2
  simp only [R] at h1 ⊢
  obtain ⟨Ws, rfl, h3⟩ := h1
  obtain ⟨W1, Ws1, rfl, h4, h5⟩ := RL_cons.1 h3
  exact ⟨_, rfl, RL.cons (h _ h4) h5⟩
/-- A function of a frame that agrees with the plain one at all its kinds. -/
theorem sread_of {f : FuncId} {env : Env} (hE : EnvOk Try.prog env)
    (h1 : ∀ s, s.size = 12 → acall Try.prog env 200 f [.agg [I 1, .strG s 12 (gOf s)]] [] pK = rdT (rd1 (gOf s)).1 (rd1 (gOf s)).2)
    (h3 : ∀ s, s.size = 12 → acall Try.prog env 200 f [.agg [I 3, .strG s 12 (gOf s)]] [] pK = rdT (rd3 (gOf s)).1 (rd3 (gOf s)).2)
    (h2 : ∀ s, s.size = 18 → acall Try.prog env 200 f [.agg [I 2, .strG s 18 (gOf s)]] [] pK = rdT (rd2 (gOf s)).1 (rd2 (gOf s)).2)
    (n1 : ∀ s g, acall Try.prog env 200 f [.agg [I 1, .strF s 0 g [12]]] [] pK = none5)
    (n3 : ∀ s g, acall Try.prog env 200 f [.agg [I 3, .strF s 0 g [12]]] [] pK = none5)
    (n2 : ∀ s g, acall Try.prog env 200 f [.agg [I 2, .strF s 0 g [18]]] [] pK = none5)
    (lo : ∀ k s, acall Try.prog env 200 f [.agg [.intF .i64 k [] [0] [1, 2, 3], .str s]] [] pK = none5)
    (hi : ∀ k s, acall Try.prog env 200 f [.agg [.intF .i64 k [4] [] [1, 2, 3], .str s]] [] pK = none5) : PureOk Try.prog f anyArgs (sreadF readS) := by
  refine pure_of' hE 200 _ _ _ ?_
  rintro args v - h
  obtain ⟨k, s, rfl, rfl⟩ := sreadF_some h
  have G : ∀ n, s.size = n → ∀ m Vs, RL m [.agg [I k, .str s]] Vs → RL m [.agg [I k, .strG s n (gOf s)]] Vs := fun n hn m Vs hv => RL_frame (fun V hV => by rw [← hn]; exact R_strG m s hV) hv
  have F : ∀ n : Int, (s.size : Int) ≠ n → ∀ m Vs, RL m [.agg [I k, .str s]] Vs → RL m [.agg [I k, .strF s 0 (gOf s) [n]]] Vs := fun n hn m Vs hv => RL_frame (fun V hV => R_strF m s 0 [n] (by omega) (by simpa using hn) hV) hv
  have z : ¬ (k = 1 ∧ s.size = 12) → ¬ (k = 3 ∧ s.size = 12) → ¬ (k = 2 ∧ s.size = 18) → none5 = some (rdOut (readS k s)) := fun a b c => by unfold readS; rw [if_neg a, if_neg b, if_neg c]; rfl
  refine ⟨rfl, ?_⟩
  by_cases k1 : k = 1
  · subst k1
    by_cases hs : s.size = 12
    · refine ⟨[.agg [I 1, .strG s 12 (gOf s)]], rfl, G 12 hs, (h1 s hs).trans ?_⟩
      unfold readS; rw [if_pos ⟨rfl, hs⟩]; rfl
    · exact ⟨[.agg [I 1, .strF s 0 (gOf s) [12]]], rfl, F 12 (by omega), (n1 s _).trans (z (by omega) (by omega) (by omega))⟩
  by_cases k3 : k = 3
  · subst k3
    by_cases hs : s.size = 12
    · refine ⟨[.agg [I 3, .strG s 12 (gOf s)]], rfl, G 12 hs, (h3 s hs).trans ?_⟩
      unfold readS; rw [if_neg (by omega), if_pos ⟨rfl, hs⟩]; rfl
    · exact ⟨[.agg [I 3, .strF s 0 (gOf s) [12]]], rfl, F 12 (by omega), (n3 s _).trans (z (by omega) (by omega) (by omega))⟩
  by_cases k2 : k = 2
  · subst k2
    by_cases hs : s.size = 18
    · refine ⟨[.agg [I 2, .strG s 18 (gOf s)]], rfl, G 18 hs, (h2 s hs).trans ?_⟩
      unfold readS; rw [if_neg (by omega), if_neg (by omega), if_pos ⟨rfl, hs⟩]; rfl
    · exact ⟨[.agg [I 2, .strF s 0 (gOf s) [18]]], rfl, F 18 (by omega), (n2 s _).trans (z (by omega) (by omega) (by omega))⟩
  have e : ∀ c ∈ [(1 : Int), 2, 3], k ≠ c := by simp; omega
  rcases (show k ≤ 0 ∨ 4 ≤ k by omega) with l | l
  · exact ⟨[.agg [.intF .i64 k [] [0] [1, 2, 3], .str s]], rfl, fun m Vs hv => RL_kind (fun V hV => R_intF m k _ _ _ ⟨by simp, by simpa using l⟩ e hV) hv, (lo k s).trans (z (by omega) (by omega) (by omega))⟩
  · exact ⟨[.agg [.intF .i64 k [4] [] [1, 2, 3], .str s]], rfl, fun m Vs hv => RL_kind (fun V hV => R_intF m k _ _ _ ⟨by simpa using l, by simp⟩ e hV) hv, (hi k s).trans (z (by omega) (by omega) (by omega))⟩

/-! ### The two functions -/
theorem in_wd {g : Nat → Int} (hg : B g) (i j : Nat) (e : j = i + 1) : wr .i64 (wr .i16 (wdI (g i) (g j))) = s2 g i := by subst e; exact i16_eq (hg i) (hg _)
theorem in_sg {g : Nat → Int} (hg : B g) (i j : Nat) (e : j = i + 1) : sgI (g i) (g j) = s2 g i := by subst e; exact sgI_eq (hg i) (hg _)
theorem in_uw {g : Nat → Int} (hg : B g) (i j : Nat) (e : j = i + 1) : wdI (g i) (g j) = u2 g i := by subst e; exact wdI_eq (hg i) (hg _)
theorem in_cn {g : Nat → Int} (hg : B g) (i j : Nat) (e : j = i + 1) : cntI (g i) (g j) = u2 g i := by subst e; exact cntI_eq (hg i) (hg _)
theorem sread_con : PureOk Try.prog 26 anyArgs (sreadF readS) := by
  have hE : EnvOk Try.prog (envSR Fx.part norm unit wdI) := EnvOk.t (EnvOk.p (EnvOk.t (EnvOk.f (EnvOk.f (EnvOk.f ok_nil en_vUnit unit_con) en_vNorm vnorm_con) (enter_of Try.func36 (by kernel_rfl) rfl) part_con) (enter_of Try.func47 (by kernel_rfl) rfl)) (enter_of Try.func48 (by kernel_rfl) rfl) word_con) (enter_of Try.func46 (by kernel_rfl) rfl)
  refine sread_of hE (fun s hs => ?_) (fun s hs => ?_) (fun s hs => ?_) (read1_no _ _ _ _) (read3_no _ _ _ _) (read2_no _ _ _ _) (readL_no _ _ _ _) (readH_no _ _ _ _)
  · have hg := gOf_B s
    refine (read1_raw Fx.part norm unit wdI s (gOf s)).trans ?_
    dsimp only
    rw [tick_eq hg, in_wd hg 6 7 rfl, in_wd hg 8 9 rfl, in_wd hg 10 11 rfl, shl25_eq (s2_in hg 6), shl25_eq (s2_in hg 8), shl25_eq (s2_in hg 10), gy_eq, gy_eq, gy_eq, okT_eq]
    exact cut_eq rfl _
  · have hg := gOf_B s
    refine (read3_raw Fx.part norm unit wdI s (gOf s)).trans ?_
    dsimp only
    rw [tick_eq hg, in_wd hg 6 7 rfl, in_wd hg 8 9 rfl, in_wd hg 10 11 rfl, okT_eq, an_eq, an_eq]
    refine cut_eq ?_ _
    rw [Bool.and_assoc, dand]
    rfl
  · have hg := gOf_B s
    refine (read2_raw Fx.part norm unit wdI s (gOf s)).trans ?_
    dsimp only
    rw [tick_eq hg, in_uw hg 6 7 rfl, in_uw hg 8 9 rfl, in_uw hg 10 11 rfl, in_uw hg 12 13 rfl, in_uw hg 14 15 rfl, in_uw hg 16 17 rfl, df_eq (u2_in hg 6) (u2_in hg 8), df_eq (u2_in hg 10) (u2_in hg 12), df_eq (u2_in hg 14) (u2_in hg 16), okT_eq, an_eq, an_eq, lt2_eq, lt2_eq, lt2_eq, Bool.false_or]
    exact cut_eq rfl _
theorem rread_con : PureOk Try.prog 27 anyArgs (sreadF readS) := by
  have hE : EnvOk Try.prog (renvSR Fx.part norm unit cntI sgI) := EnvOk.t (EnvOk.p (EnvOk.p (EnvOk.f (EnvOk.f (EnvOk.f ok_nil en_vrUnit runit_con) en_vrNorm rvnorm_con) en_rPart rpart_con) (enter_of Try.func52 (by kernel_rfl) rfl) signed_con) (enter_of Try.func54 (by kernel_rfl) rfl) count_con) (enter_of Try.func51 (by kernel_rfl) rfl)
  refine sread_of hE (fun s hs => ?_) (fun s hs => ?_) (fun s hs => ?_) (rread1_no _ _ _ _ _) (rread3_no _ _ _ _ _) (rread2_no _ _ _ _ _) (rreadL_no _ _ _ _ _) (rreadH_no _ _ _ _ _)
  · have hg := gOf_B s
    refine (rread1_raw Fx.part norm unit cntI sgI s (gOf s)).trans ?_
    dsimp only
    have h6 := s2_in hg 6; have h8 := s2_in hg 8; have h10 := s2_in hg 10
    rw [rtick_eq hg, in_sg hg 6 7 rfl, in_sg hg 8 9 rfl, in_sg hg 10 11 rfl, w64_in (by omega) (by omega), w64_in (by omega) (by omega), w64_in (by omega) (by omega), far_eq, far_eq, far_eq, rokT_eq]
    unfold rd1 cut
    cases okP (tickP (gOf s)) <;> cases in3 (s2 (gOf s) 6) <;> cases in3 (s2 (gOf s) 8) <;> cases in3 (s2 (gOf s) 10) <;> rfl
  · have hg := gOf_B s
    refine (rread3_raw Fx.part norm unit cntI sgI s (gOf s)).trans ?_
    dsimp only
    rw [rtick_eq hg, in_sg hg 6 7 rfl, in_sg hg 8 9 rfl, in_sg hg 10 11 rfl, rokT_eq]
    refine cut_eq2 ?_ _
    show _ = (okP (tickP (gOf s)) && decide (1099511627776 ≤ (norm (fld (gOf s)).1.x (fld (gOf s)).1.y (fld (gOf s)).1.z (fld (gOf s)).2).1 ∧ (norm (fld (gOf s)).1.x (fld (gOf s)).1.y (fld (gOf s)).1.z (fld (gOf s)).2).1 ≤ 131941395333120))
    congr 1
    show (!(bif decide ((norm (fld (gOf s)).1.x (fld (gOf s)).1.y (fld (gOf s)).1.z (fld (gOf s)).2).1 < 1099511627776) then true else decide ((norm (fld (gOf s)).1.x (fld (gOf s)).1.y (fld (gOf s)).1.z (fld (gOf s)).2).1 > 131941395333120))) = _
    generalize (norm (fld (gOf s)).1.x (fld (gOf s)).1.y (fld (gOf s)).1.z (fld (gOf s)).2).1 = n
    by_cases h : n < 1099511627776
    · rw [decide_eq_true h, bt, decide_eq_false (show ¬ (1099511627776 ≤ n ∧ n ≤ 131941395333120) by omega)]; rfl
    · rw [decide_eq_false h, bf]
      by_cases h2 : n > 131941395333120
      · rw [decide_eq_true h2, decide_eq_false (show ¬ (1099511627776 ≤ n ∧ n ≤ 131941395333120) by omega)]; rfl
      · rw [decide_eq_false h2, decide_eq_true (show 1099511627776 ≤ n ∧ n ≤ 131941395333120 by omega)]; rfl
  · have hg := gOf_B s
    refine (rread2_raw Fx.part norm unit cntI sgI s (gOf s)).trans ?_
    dsimp only
    rw [rtick_eq hg, in_cn hg 6 7 rfl, in_cn hg 8 9 rfl, in_cn hg 10 11 rfl, in_cn hg 12 13 rfl, in_cn hg 14 15 rfl, in_cn hg 16 17 rfl, rdf_eq (u2_in hg 6) (u2_in hg 8), rdf_eq (u2_in hg 10) (u2_in hg 12), rdf_eq (u2_in hg 14) (u2_in hg 16), rokT_eq, rlt2_eq, rlt2_eq, rlt2_eq, Bool.false_or]
    refine cut_eq2 ?_ _
    show (okP (tickP (gOf s)) && !(bif !(lit (u2 (gOf s) 6) (u2 (gOf s) 8) || lit (u2 (gOf s) 10) (u2 (gOf s) 12) || lit (u2 (gOf s) 14) (u2 (gOf s) 16)) then true else (unit (sunV (gOf s)) false).2)) = _
    cases okP (tickP (gOf s)) <;> cases (lit (u2 (gOf s) 6) (u2 (gOf s) 8) || lit (u2 (gOf s) 10) (u2 (gOf s) 12) || lit (u2 (gOf s) 14) (u2 (gOf s) 16)) <;> cases (unit (sunV (gOf s)) false).2 <;> rfl
#print axioms rread_con
end Go.Proofs.Ytkdlliedpjnobaa.Se
