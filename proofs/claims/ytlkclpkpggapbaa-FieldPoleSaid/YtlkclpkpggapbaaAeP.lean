/- Regions that draw their order, second part: one step, two steps that change places, and all orders. Conditions: the contracts that are looked up hold. -/
import Derived.Test.YtlkclpkpggapbaaAeO
namespace Go.Proofs.Ytlkclpkpggapbaa.Ae
open Go

section
variable {P : Program} {env : Env} {ops : Array Oper} {n : Nat}

/-- Is the operation wanted, by what is known? -/
def wantedA (ops : Array Oper) (o : Oper) (T : Tab) : Option Bool :=
  match o.guard with
  | none => some true
  | some (j, want) =>
    match (ops[j]?).bind (·.dst) with
    | none => none
    | some d =>
      match get T d with
      | .bool x => some (x == want)
      | _ => none

theorem wantedA_agree {o : Oper} {T T2 : Tab} (h : Agree ops o T T2) : wantedA ops o T = wantedA ops o T2 := by
  unfold wantedA
  split
  · rfl
  · rename_i j want hg
    split
    · rfl
    · rename_i d hd
      have : get T d = get T2 d := h d (by
        unfold Oper.looksAt
        refine List.mem_append_right _ ?_
        simp only [hg, hd, Option.toList_some, List.mem_singleton])
      rw [this]

/-- What an operation, or what takes its place where it isn't wanted, comes to. -/
def LS (P : Program) (env : Env) (ops : Array Oper) (o : Oper) (T : Tab) (H : List AB) (v : AV) (H' : List AB) (f : Foot) : Prop :=
  (wantedA ops o T = some true ∧ footOf P env T H o.op = some f ∧ aexecD P env o T H = some (v, H')) ∨ (wantedA ops o T = some false ∧ f = .none ∧ v = .any ∧ H' = H)

/-- .. at a place like it. -/
def LocS (P : Program) (env : Env) (ops : Array Oper) (o : Oper) (T : Tab) (H : List AB) (v : AV) (H' : List AB) : Foot → Prop
  | .all => ∀ T2, Agree ops o T T2 → LS P env ops o T2 H v H' .all
  | .none => H' = H ∧ ∀ T2 H2, Agree ops o T T2 → LS P env ops o T2 H2 v H2 .none
  | .rd b => H' = H ∧ ∀ T2 H2, Agree ops o T T2 → H2[b]? = H[b]? → LS P env ops o T2 H2 v H2 (.rd b)
  | .wt b => ∃ B, H' = H.set b B ∧ b < H.length ∧ ∀ T2 H2, Agree ops o T T2 → H2[b]? = H[b]? → LS P env ops o T2 H2 v (H2.set b B) (.wt b)
  | .al k => k = H.length ∧ ∃ B, H' = H ++ [B] ∧ ∀ T2 H2, Agree ops o T T2 → H2.length = H.length → LS P env ops o T2 H2 v (H2 ++ [B]) (.al k)
  | .rw r b => ∃ B, H' = H.set b B ∧ r < H.length ∧ b < H.length ∧ ∀ T2 H2, Agree ops o T T2 → H2[r]? = H[r]? → H2[b]? = H[b]? → LS P env ops o T2 H2 v (H2.set b B) (.rw r b)
  | .put b k => ∃ two es u, H[b]? = some (.map two es) ∧ H' = H.set b (.map two (putS k u es)) ∧ ∀ T2 H2 es2, Agree ops o T T2 → H2[b]? = some (.map two es2) → LS P env ops o T2 H2 v (H2.set b (.map two (putS k u es2))) (.put b k)

theorem LS.loc {o : Oper} {T : Tab} {H : List AB} {f : Foot} {v : AV} {H' : List AB} (h : LS P env ops o T H v H' f) : LocS P env ops o T H v H' f := by
  rcases h with ⟨hw, hf, hx⟩ | ⟨hw, rfl, rfl, rfl⟩
  · have hl := exec_loc (ops := ops) hf hx
    cases f with
    | all => exact fun T2 ha => .inl ⟨by rw [← wantedA_agree ha]; exact hw, hl T2 ha⟩
    | none => exact ⟨hl.1, fun T2 H2 ha => .inl ⟨by rw [← wantedA_agree ha]; exact hw, hl.2 T2 H2 ha⟩⟩
    | rd b => exact ⟨hl.1, fun T2 H2 ha hb => .inl ⟨by rw [← wantedA_agree ha]; exact hw, hl.2 T2 H2 ha hb⟩⟩
    | wt b => obtain ⟨B, e, hlt, hl⟩ := hl; exact ⟨B, e, hlt, fun T2 H2 ha hb => .inl ⟨by rw [← wantedA_agree ha]; exact hw, hl T2 H2 ha hb⟩⟩
    | al k => obtain ⟨e, B, e2, hl⟩ := hl; exact ⟨e, B, e2, fun T2 H2 ha hb => .inl ⟨by rw [← wantedA_agree ha]; exact hw, hl T2 H2 ha hb⟩⟩
    | rw r b => obtain ⟨B, e, hr, hlt, hl⟩ := hl; exact ⟨B, e, hr, hlt, fun T2 H2 ha hr hb => .inl ⟨by rw [← wantedA_agree ha]; exact hw, hl T2 H2 ha hr hb⟩⟩
    | put b k => obtain ⟨two, es, u, e1, e2, hl⟩ := hl; exact ⟨two, es, u, e1, e2, fun T2 H2 es2 ha hb => .inl ⟨by rw [← wantedA_agree ha]; exact hw, hl T2 H2 es2 ha hb⟩⟩
  · exact ⟨rfl, fun T2 H2 ha => .inr ⟨by rw [← wantedA_agree ha]; exact hw, rfl, rfl, rfl⟩⟩

/-- Two that don't clash change places. -/
theorem LS.comm {oi oj : Oper} {T : Tab} {H H1 H2 : List AB} {vi vj : AV} {fi fj : Foot} {T1 T1' : Tab} (hi : LS P env ops oi T H vi H1 fi) (hj : LS P env ops oj T1 H1 vj H2 fj)
    (a1 : Agree ops oj T1 T) (a2 : Agree ops oi T T1') (hc : fi.clash fj = false) : ∃ H1', LS P env ops oj T H vj H1' fj ∧ LS P env ops oi T1' H1' vi H2 fi := by
  have li := hi.loc
  have lj := hj.loc
  cases fi with
  | all =>
    cases fj with
    | none => obtain ⟨rfl, lj⟩ := lj; exact ⟨_, lj _ _ a1, li _ a2⟩
    | all => simp [Foot.clash] at hc
    | rd c => simp [Foot.clash] at hc
    | wt c => simp [Foot.clash] at hc
    | al c => simp [Foot.clash] at hc
    | rw r c => simp [Foot.clash] at hc
    | put c k => simp [Foot.clash] at hc
  | none =>
    obtain ⟨rfl, li⟩ := li
    cases fj with
    | all => exact ⟨_, lj _ a1, li _ _ a2⟩
    | none => obtain ⟨rfl, lj⟩ := lj; exact ⟨_, lj _ _ a1, li _ _ a2⟩
    | rd c => obtain ⟨rfl, lj⟩ := lj; exact ⟨_, lj _ _ a1 rfl, li _ _ a2⟩
    | wt c => obtain ⟨B, rfl, hlt, lj⟩ := lj; exact ⟨_, lj _ _ a1 rfl, li _ _ a2⟩
    | al k => obtain ⟨rfl, B, rfl, lj⟩ := lj; exact ⟨_, lj _ _ a1 rfl, li _ _ a2⟩
    | rw r c => obtain ⟨B, rfl, hr, hlt, lj⟩ := lj; exact ⟨_, lj _ _ a1 rfl rfl, li _ _ a2⟩
    | put c k => obtain ⟨two, es, u, e1, rfl, lj⟩ := lj; exact ⟨_, lj _ _ _ a1 e1, li _ _ a2⟩
  | rd b =>
    obtain ⟨rfl, li⟩ := li
    cases fj with
    | all => simp [Foot.clash] at hc
    | none => obtain ⟨rfl, lj⟩ := lj; exact ⟨_, lj _ _ a1, li _ _ a2 rfl⟩
    | rd c => obtain ⟨rfl, lj⟩ := lj; exact ⟨_, lj _ _ a1 rfl, li _ _ a2 rfl⟩
    | wt c =>
      obtain ⟨B, rfl, hlt, lj⟩ := lj
      have hne : b ≠ c := fun e => by subst e; simp [Foot.clash] at hc
      exact ⟨_, lj _ _ a1 rfl, li _ _ a2 (List.getElem?_set_ne (Ne.symm hne))⟩
    | al k =>
      obtain ⟨rfl, B, rfl, lj⟩ := lj
      have hne : b ≠ H1.length := fun e => by subst e; simp [Foot.clash] at hc
      refine ⟨_, lj _ _ a1 rfl, li _ _ a2 ?_⟩
      rcases Nat.lt_or_ge b H1.length with h | h
      · rw [List.getElem?_append_left h]
      · rw [List.getElem?_eq_none (by simp; omega), List.getElem?_eq_none h]
    | rw r c =>
      obtain ⟨B, rfl, hr, hlt, lj⟩ := lj
      have hne : b ≠ c := fun e => by subst e; simp [Foot.clash] at hc
      exact ⟨_, lj _ _ a1 rfl rfl, li _ _ a2 (List.getElem?_set_ne (Ne.symm hne))⟩
    | put c k =>
      obtain ⟨two, es, u, e1, rfl, lj⟩ := lj
      have hne : b ≠ c := fun e => by subst e; simp [Foot.clash] at hc
      exact ⟨_, lj _ _ _ a1 e1, li _ _ a2 (List.getElem?_set_ne (Ne.symm hne))⟩
  | wt b =>
    obtain ⟨B, rfl, hlt, li⟩ := li
    cases fj with
    | all => simp [Foot.clash] at hc
    | none => obtain ⟨rfl, lj⟩ := lj; exact ⟨_, lj _ _ a1, li _ _ a2 rfl⟩
    | rd c =>
      obtain ⟨rfl, lj⟩ := lj
      have hne : b ≠ c := fun e => by subst e; simp [Foot.clash] at hc
      exact ⟨_, lj _ _ a1 (List.getElem?_set_ne hne).symm, li _ _ a2 rfl⟩
    | wt c =>
      obtain ⟨C, rfl, hlt2, lj⟩ := lj
      have hne : b ≠ c := fun e => by subst e; simp [Foot.clash] at hc
      refine ⟨_, lj _ _ a1 (List.getElem?_set_ne hne).symm, ?_⟩
      rw [List.set_comm _ _ hne]
      exact li _ _ a2 (List.getElem?_set_ne (Ne.symm hne))
    | al k =>
      obtain ⟨rfl, C, rfl, lj⟩ := lj
      rw [List.length_set] at lj
      refine ⟨_, by rw [List.length_set]; exact lj _ _ a1 rfl, ?_⟩
      have e : H.set b B ++ [C] = (H ++ [C]).set b B := by rw [List.set_append_left _ _ hlt]
      rw [e]
      exact li _ _ a2 (by rw [List.getElem?_append_left hlt])
    | rw r c =>
      obtain ⟨C, rfl, hr2, hlt2, lj⟩ := lj
      have hne : b ≠ c := fun e => by subst e; simp [Foot.clash] at hc
      have hnr : b ≠ r := fun e => by subst e; simp [Foot.clash] at hc
      refine ⟨_, lj _ _ a1 (List.getElem?_set_ne hnr).symm (List.getElem?_set_ne hne).symm, ?_⟩
      rw [List.set_comm _ _ hne]
      exact li _ _ a2 (List.getElem?_set_ne (Ne.symm hne))
    | put c k =>
      obtain ⟨two, es, u, e1, rfl, lj⟩ := lj
      have hne : b ≠ c := fun e => by subst e; simp [Foot.clash] at hc
      rw [List.getElem?_set_ne hne] at e1
      refine ⟨_, lj _ _ _ a1 e1, ?_⟩
      rw [List.set_comm _ _ hne]
      exact li _ _ a2 (List.getElem?_set_ne (Ne.symm hne))
  | al k =>
    obtain ⟨rfl, B, rfl, li⟩ := li
    cases fj with
    | all => simp [Foot.clash] at hc
    | none => obtain ⟨rfl, lj⟩ := lj; exact ⟨_, lj _ _ a1, li _ _ a2 rfl⟩
    | rd c =>
      obtain ⟨rfl, lj⟩ := lj
      have hne : H.length ≠ c := fun e => by subst e; simp [Foot.clash] at hc
      refine ⟨_, lj _ _ a1 ?_, li _ _ a2 rfl⟩
      rcases Nat.lt_or_ge c H.length with h | h
      · rw [List.getElem?_append_left h]
      · rw [List.getElem?_eq_none h, List.getElem?_eq_none (by simp; omega)]
    | wt c =>
      obtain ⟨C, rfl, hlt2, lj⟩ := lj
      have hne : H.length ≠ c := fun e => by subst e; simp [Foot.clash] at hc
      have h : c < H.length := by simp at hlt2; omega
      refine ⟨_, lj _ _ a1 (by rw [List.getElem?_append_left h]), ?_⟩
      rw [List.set_append_left _ _ h]
      exact li _ _ a2 (by simp)
    | al k => simp [Foot.clash] at hc
    | rw r c =>
      obtain ⟨C, rfl, hr2, hlt2, lj⟩ := lj
      have hne : H.length ≠ c := fun e => by subst e; simp [Foot.clash] at hc
      have hnr : H.length ≠ r := fun e => by subst e; simp [Foot.clash] at hc
      have h : c < H.length := by simp at hlt2; omega
      have h' : r < H.length := by simp at hr2; omega
      refine ⟨_, lj _ _ a1 (by rw [List.getElem?_append_left h']) (by rw [List.getElem?_append_left h]), ?_⟩
      rw [List.set_append_left _ _ h]
      exact li _ _ a2 (by simp)
    | put c k =>
      obtain ⟨two, es, u, e1, rfl, lj⟩ := lj
      have hne : H.length ≠ c := fun e => by subst e; simp [Foot.clash] at hc
      have h : c < H.length := by
        have := (List.getElem?_eq_some_iff.1 e1).1
        simp at this; omega
      rw [List.getElem?_append_left h] at e1
      refine ⟨_, lj _ _ _ a1 e1, ?_⟩
      rw [List.set_append_left _ _ h]
      exact li _ _ a2 (by simp)
  | put b k =>
    obtain ⟨two, es, u, e0, rfl, li⟩ := li
    have hlt := (List.getElem?_eq_some_iff.1 e0).1
    cases fj with
    | all => simp [Foot.clash] at hc
    | none => obtain ⟨rfl, lj⟩ := lj; exact ⟨_, lj _ _ a1, li _ _ _ a2 e0⟩
    | rd c =>
      obtain ⟨rfl, lj⟩ := lj
      have hne : b ≠ c := fun e => by subst e; simp [Foot.clash] at hc
      exact ⟨_, lj _ _ a1 (List.getElem?_set_ne hne).symm, li _ _ _ a2 e0⟩
    | wt c =>
      obtain ⟨C, rfl, hlt2, lj⟩ := lj
      have hne : b ≠ c := fun e => by subst e; simp [Foot.clash] at hc
      refine ⟨_, lj _ _ a1 (List.getElem?_set_ne hne).symm, ?_⟩
      rw [List.set_comm _ _ hne]
      exact li _ _ _ a2 (by rw [List.getElem?_set_ne (Ne.symm hne)]; exact e0)
    | al c =>
      obtain ⟨rfl, C, rfl, lj⟩ := lj
      rw [List.length_set] at lj
      refine ⟨_, by rw [List.length_set]; exact lj _ _ a1 rfl, ?_⟩
      have e : H.set b (.map two (putS k u es)) ++ [C] = (H ++ [C]).set b (.map two (putS k u es)) := by rw [List.set_append_left _ _ hlt]
      rw [e]
      exact li _ _ _ a2 (by rw [List.getElem?_append_left hlt]; exact e0)
    | rw r c =>
      obtain ⟨C, rfl, hr2, hlt2, lj⟩ := lj
      have hne : b ≠ c := fun e => by subst e; simp [Foot.clash] at hc
      have hnr : b ≠ r := fun e => by subst e; simp [Foot.clash] at hc
      refine ⟨_, lj _ _ a1 (List.getElem?_set_ne hnr).symm (List.getElem?_set_ne hne).symm, ?_⟩
      rw [List.set_comm _ _ hne]
      exact li _ _ _ a2 (by rw [List.getElem?_set_ne (Ne.symm hne)]; exact e0)
    | put c k' =>
      obtain ⟨two', es', u', e1, rfl, lj⟩ := lj
      by_cases hbc : b = c
      · subst hbc
        rw [List.getElem?_set_self hlt] at e1
        cases e1
        have hk : k ≠ k' := fun e => by
          subst e
          have : keqB k k = true := keq_iff.2 rfl
          simp [Foot.clash, this] at hc
        refine ⟨_, lj _ _ _ a1 e0, ?_⟩
        have := li _ (H.set b (.map two (putS k' u' es))) (putS k' u' es) a2 (by rw [List.getElem?_set_self hlt])
        rw [List.set_set, putS_comm hk] at this
        rw [List.set_set]
        exact this
      · rw [List.getElem?_set_ne hbc] at e1
        refine ⟨_, lj _ _ _ a1 e1, ?_⟩
        rw [List.set_comm _ _ hbc]
        exact li _ _ _ a2 (by rw [List.getElem?_set_ne (Ne.symm hbc)]; exact e0)
  | rw r b =>
    obtain ⟨B, rfl, hr, hlt, li⟩ := li
    cases fj with
    | all => simp [Foot.clash] at hc
    | none => obtain ⟨rfl, lj⟩ := lj; exact ⟨_, lj _ _ a1, li _ _ a2 rfl rfl⟩
    | rd c =>
      obtain ⟨rfl, lj⟩ := lj
      have hne : b ≠ c := fun e => by subst e; simp [Foot.clash] at hc
      exact ⟨_, lj _ _ a1 (List.getElem?_set_ne hne).symm, li _ _ a2 rfl rfl⟩
    | wt c =>
      obtain ⟨C, rfl, hlt2, lj⟩ := lj
      have hne : b ≠ c := fun e => by subst e; simp [Foot.clash] at hc
      have hnr : r ≠ c := fun e => by subst e; simp [Foot.clash] at hc
      refine ⟨_, lj _ _ a1 (List.getElem?_set_ne hne).symm, ?_⟩
      rw [List.set_comm _ _ hne]
      exact li _ _ a2 (List.getElem?_set_ne (Ne.symm hnr)) (List.getElem?_set_ne (Ne.symm hne))
    | al k =>
      obtain ⟨rfl, C, rfl, lj⟩ := lj
      rw [List.length_set] at lj
      refine ⟨_, by rw [List.length_set]; exact lj _ _ a1 rfl, ?_⟩
      have e : H.set b B ++ [C] = (H ++ [C]).set b B := by rw [List.set_append_left _ _ hlt]
      rw [e]
      exact li _ _ a2 (by rw [List.getElem?_append_left hr]) (by rw [List.getElem?_append_left hlt])
    | rw r' c =>
      obtain ⟨C, rfl, hr2, hlt2, lj⟩ := lj
      have hne : b ≠ c := fun e => by subst e; simp [Foot.clash] at hc
      have hnr : r ≠ c := fun e => by subst e; simp [Foot.clash] at hc
      have hnr' : b ≠ r' := fun e => by subst e; simp [Foot.clash] at hc
      refine ⟨_, lj _ _ a1 (List.getElem?_set_ne hnr').symm (List.getElem?_set_ne hne).symm, ?_⟩
      rw [List.set_comm _ _ hne]
      exact li _ _ a2 (List.getElem?_set_ne (Ne.symm hnr)) (List.getElem?_set_ne (Ne.symm hne))
    | put c k =>
      obtain ⟨two, es, u, e1, rfl, lj⟩ := lj
      have hne : b ≠ c := fun e => by subst e; simp [Foot.clash] at hc
      have hnr : r ≠ c := fun e => by subst e; simp [Foot.clash] at hc
      rw [List.getElem?_set_ne hne] at e1
      refine ⟨_, lj _ _ _ a1 e1, ?_⟩
      rw [List.set_comm _ _ hne]
      exact li _ _ a2 (List.getElem?_set_ne (Ne.symm hnr)) (List.getElem?_set_ne (Ne.symm hne))

/-! ### Steps -/
def StepA (P : Program) (env : Env) (ops : Array Oper) (n : Nat) (F : Foots) (i : Nat) (T : Tab) (H : List AB) (T' : Tab) (H' : List AB) : Prop :=
  ∃ o f v, ops[i]? = some o ∧ F[i]? = some f ∧ (∀ d, o.dst = some d → d < n) ∧ LS P env ops o T H v H' f ∧ Teq T' (putT o.dst v T)

theorem StepA.comm {F : Foots} {i j : Nat} {oi oj : Oper} {fi fj : Foot} (hi : ops[i]? = some oi) (hj : ops[j]? = some oj) (gi : F[i]? = some fi) (gj : F[j]? = some fj)
    (hap : oi.apart ops oj = true) (hc : fi.clash fj = false) {T T1 T2 : Tab} {H H1 H2 : List AB} (si : StepA P env ops n F i T H T1 H1) (sj : StepA P env ops n F j T1 H1 T2 H2) :
    ∃ T1' H1', StepA P env ops n F j T H T1' H1' ∧ StepA P env ops n F i T1' H1' T2 H2 := by
  obtain ⟨o, f, vi, e1, e2, di, li, ti⟩ := si
  rw [hi] at e1; rw [gi] at e2; cases e1; cases e2
  obtain ⟨o, f, vj, e1, e2, dj, lj, tj⟩ := sj
  rw [hj] at e1; rw [gj] at e2; cases e1; cases e2
  obtain ⟨p1, p2, p3⟩ := Oper.apart_spec hap
  have a1 : Agree ops oj T1 T := fun t ht => by
    rw [ti t, get_putT, if_neg (fun e => p1 t e ht)]
  have a2 : Agree ops oi T (putT oj.dst vj T) := fun t ht => by
    rw [get_putT, if_neg (fun e => p3 t e ht)]
  obtain ⟨H1', l1, l2⟩ := li.comm lj a1 a2 hc
  refine ⟨putT oj.dst vj T, H1', ⟨oj, fj, vj, hj, gj, dj, l1, Teq.refl _⟩, ⟨oi, fi, vi, hi, gi, di, l2, fun t => ?_⟩⟩
  rw [tj t, get_putT, ti t, get_putT, get_putT, get_putT]
  by_cases h1 : oj.dst = some t
  · rw [if_pos h1, if_neg (fun e => p2 t e h1), if_pos h1]
  · rw [if_neg h1, if_neg h1]

/-- Every order is well, and ends where it is to end. -/
def AnyA (P : Program) (env : Env) (ops : Array Oper) (n : Nat) (F : Foots) (Fin : Tab → List AB → Prop) : Nat → Array Bool → Tab → List AB → Prop
  | 0, listed, T, H => Region.ready .any ops listed = [] ∧ Fin T H
  | fuel + 1, listed, T, H =>
    (Region.ready .any ops listed = [] → Fin T H) ∧
    ∀ i ∈ Region.ready .any ops listed, ∃ T' H', StepA P env ops n F i T H T' H' ∧ AnyA P env ops n F Fin fuel (listed.setIfInBounds i true) T' H'

theorem getD_both' {listed : Array Bool} {i : Nat} (h : listed.getD i true = false) : listed.getD i false = false := by
  rcases Nat.lt_or_ge i listed.size with h' | h'
  · simp [h'] at h ⊢; exact h
  · simp [Array.getElem?_eq_none h'] at h

theorem closedB_spec {i : Nat} {D : List Bool} : ∀ (l : List Oper) (k : Nat), closedB i D k l = true → ∀ j o, l[j]? = some o → D.getD (k + j) false = true → ∃ e ∈ o.after, Region.binds .any e = true ∧ (e.on = i ∨ D.getD e.on false = true)
  | [], _, _, j, o, ho, _ => by simp at ho
  | o' :: l, k, h, j, o, ho, hd => by
    simp only [closedB, Bool.and_eq_true] at h
    cases j with
    | zero =>
      simp at ho
      subst ho
      simp only [Nat.add_zero] at hd
      have h1 := h.1
      rw [hd] at h1
      simp only [Bool.not_true, Bool.false_or, List.any_eq_true, Bool.and_eq_true, Bool.or_eq_true] at h1
      obtain ⟨e, he, hb, h2⟩ := h1
      exact ⟨e, by simpa using he, hb, h2.imp Nat.eq_of_beq_eq_true id⟩
    | succ j =>
      exact closedB_spec l (k + 1) h.2 j o (by simpa using ho) (by rw [← hd]; congr 1; omega)

theorem anyA_first {F : Foots} {Fin : Tab → List AB → Prop} {i : Nat} {oi : Oper} {fi : Foot} (hi : ops[i]? = some oi) (gi : F[i]? = some fi) (hF : F.length = ops.size) {D : List Bool}
    (hcl : ∀ j o, ops[j]? = some o → D.getD j false = true → ∃ e ∈ o.after, Region.binds .any e = true ∧ (e.on = i ∨ D.getD e.on false = true)) :
    ∀ (fuel : Nat) (listed : Array Bool) (T T1 : Tab) (H H1 : List AB),
      (∀ j oj fj, ops[j]? = some oj → F[j]? = some fj → j ≠ i → listed.getD j true = false → D.getD j false = false → oi.apart ops oj = true ∧ fi.clash fj = false) →
      (∀ j, D.getD j false = true → listed.getD j false = false) →
      i ∈ Region.ready .any ops listed → StepA P env ops n F i T H T1 H1 →
      AnyA P env ops n F Fin fuel (listed.setIfInBounds i true) T1 H1 → AnyA P env ops n F Fin (fuel + 1) listed T H := by
  intro fuel
  induction fuel with
  | zero =>
    intro listed T T1 H H1 _ _ hr hs A
    refine ⟨fun h => (by rw [h] at hr; cases hr), fun j hj => ?_⟩
    by_cases hji : j = i
    · subst hji; exact ⟨T1, H1, hs, A⟩
    · have := ready_mono hj hji
      rw [A.1] at this
      cases this
  | succ fuel ih =>
    intro listed T T1 H H1 hfree hd hr hs A
    refine ⟨fun h => (by rw [h] at hr; cases hr), fun j hj => ?_⟩
    by_cases hji : j = i
    · subst hji; exact ⟨T1, H1, hs, A⟩
    · obtain ⟨T2, H2, sj, A2⟩ := A.2 j (ready_mono hj hji)
      obtain ⟨hjun, oj, hoj, hall⟩ := mem_ready.1 hj
      have hDj : D.getD j false = false := by
        cases hDj : D.getD j false with
        | false => rfl
        | true =>
          obtain ⟨e, he, hb, h1⟩ := hcl j oj hoj hDj
          have h2 := hall e he hb
          rcases h1 with h1 | h1
          · rw [h1, getD_both' (mem_ready.1 hr).1] at h2; cases h2
          · rw [hd _ h1] at h2; cases h2
      have hjlt : j < F.length := by rw [hF]; exact (Array.getElem?_eq_some_iff.1 hoj).1
      obtain ⟨hap, hc⟩ := hfree j oj _ hoj (List.getElem?_eq_getElem hjlt) hji hjun hDj
      obtain ⟨T1', H1', s1, s2⟩ := StepA.comm hi hoj gi (List.getElem?_eq_getElem hjlt) hap hc hs sj
      refine ⟨T1', H1', s1, ih (listed.setIfInBounds j true) T1' T2 H1' H2 ?_ ?_ (ready_mono hr (Ne.symm hji)) s2 ?_⟩
      · intro k ok fk hk gk hki hun hDk
        refine hfree k ok fk hk gk hki ?_ hDk
        by_cases hjk : j = k
        · subst hjk; exact hjun
        · rw [getD_set_ne true hjk] at hun; exact hun
      · intro k hk
        have hjk : j ≠ k := fun e => by subst e; rw [hDj] at hk; cases hk
        rw [getD_set_ne false hjk]; exact hd k hk
      · rw [Array.setIfInBounds_comm _ _ hji]; exact A2

/-- The text's order. -/
def LexRun (P : Program) (env : Env) (ops : Array Oper) (n : Nat) (F : Foots) (Fin : Tab → List AB → Prop) : List Oper → Nat → Tab → List AB → Prop
  | [], _, T, H => Fin T H
  | _ :: l, k, T, H => ∃ T' H', StepA P env ops n F k T H T' H' ∧ LexRun P env ops n F Fin l (k + 1) T' H'

theorem freeFrom_spec {oi : Oper} {fi : Foot} {D : List Bool} : ∀ (l : List Oper) (F : Foots) (k : Nat), freeFrom ops oi fi D k l F = true → ∀ j oj fj, l[j]? = some oj → F[j]? = some fj → D.getD (k + j) false = false → oi.apart ops oj = true ∧ fi.clash fj = false
  | [], _, _, _, j, oj, _, ho, _, _ => by simp at ho
  | _ :: _, [], _, h, _, _, _, _, _, _ => by simp [freeFrom] at h
  | o :: l, f :: F, k, h, j, oj, fj, ho, hf, hd => by
    simp only [freeFrom, Bool.and_eq_true] at h
    cases j with
    | zero =>
      simp at ho hf
      subst ho; subst hf
      simp only [Nat.add_zero] at hd
      have h1 := h.1
      rw [hd] at h1
      simpa using h1
    | succ j => exact freeFrom_spec l F (k + 1) h.2 j oj fj (by simpa using ho) (by simpa using hf) (by rw [← hd]; congr 1; omega)

theorem take_all {D : List Bool} {k j : Nat} (h : ((D.take (k + 1)).all fun b => !b) = true) (hj : j < k + 1) : D.getD j false = false := by
  rw [List.all_eq_true] at h
  cases hd : D[j]? with
  | none => simp [hd]
  | some b =>
    have hm : b ∈ D.take (k + 1) := List.mem_of_getElem? (i := j) (by rw [List.getElem?_take, if_pos hj]; exact hd)
    have := h b hm
    simp [hd]; simpa using this

theorem anyA_lex {F : Foots} {Fin : Tab → List AB → Prop} (hF : F.length = ops.size) : ∀ (l : List Oper) (k : Nat) (listed : Array Bool) (T : Tab) (H : List AB), (∀ j, l[j]? = ops[k + j]?) →
    lexOk ops l.length k listed = true → orderedB ops k l (F.drop k) = true → (∀ j, k ≤ j → listed.getD j false = false) → (∀ j, j < k → listed.getD j true = true) → LexRun P env ops n F Fin l k T H → AnyA P env ops n F Fin l.length listed T H
  | [], k, listed, T, H, _, hL, _, _, _, hr => ⟨by simpa [lexOk] using hL, hr⟩
  | o :: l, k, listed, T, H, hl, hL, hO, hun, hli, hr => by
    have h0 : ops[k]? = some o := by simpa using (hl 0).symm
    have hkF : k < F.length := by rw [hF]; exact (Array.getElem?_eq_some_iff.1 h0).1
    have hdrop : F.drop k = F[k] :: F.drop (k + 1) := List.drop_eq_getElem_cons hkF
    rw [hdrop] at hO
    simp only [orderedB, Bool.and_eq_true] at hO
    obtain ⟨⟨⟨hDself, hcl⟩, hfree⟩, hO'⟩ := hO
    simp only [List.length_cons, lexOk, Bool.and_eq_true] at hL
    obtain ⟨T', H', hs, hr'⟩ := hr
    have hkr : k ∈ Region.ready .any ops listed := by simpa using hL.1
    have hl' : ∀ j, l[j]? = ops[k + 1 + j]? := fun j => by have := hl (j + 1); simpa [Nat.add_assoc, Nat.add_comm 1 j] using this
    refine anyA_first h0 (List.getElem?_eq_getElem hkF) hF (D := descL k ops.toList []) ?_ l.length listed T T' H H' ?_ ?_ hkr hs ?_
    · intro j oj hj hd
      exact closedB_spec ops.toList 0 hcl j oj (by simpa using hj) (by rw [Nat.zero_add]; exact hd)
    · intro j oj fj hj gj hne hun' hd
      have hjk : k + 1 ≤ j := by
        rcases Nat.lt_or_ge j k with h | h
        · rw [hli j h] at hun'; cases hun'
        · omega
      refine freeFrom_spec l (F.drop (k + 1)) (k + 1) hfree (j - (k + 1)) oj fj ?_ ?_ ?_
      · rw [hl', show k + 1 + (j - (k + 1)) = j by omega]; exact hj
      · rw [List.getElem?_drop, show k + 1 + (j - (k + 1)) = j by omega]; exact gj
      · rw [show k + 1 + (j - (k + 1)) = j by omega]; exact hd
    · intro j hd
      rcases Nat.lt_or_ge j k with h | h
      · exact absurd hd (by rw [take_all hDself (by omega)]; simp)
      · exact hun j h
    · refine anyA_lex hF l (k + 1) _ T' H' hl' hL.2 hO' ?_ ?_ hr'
      · intro j hj
        rw [getD_set_ne false (by omega)]; exact hun j (by omega)
      · intro j hj
        by_cases e : j = k
        · subst e
          have : (listed.setIfInBounds j true).getD j true = true := by
            rcases Nat.lt_or_ge j listed.size with h | h
            · simp [h]
            · simp [Array.getElem?_eq_none h]
          exact this
        · rw [getD_set_ne true (Ne.symm e)]; exact hli j (by omega)
theorem Teq.ev {T T' : Tab} (h : Teq T T') : ev T = ev T' := funext fun x => by
  cases x with
  | tmp t => exact h t
  | _ => rfl
theorem Teq.foot {T T' : Tab} (h : Teq T T') (H : List AB) (op : Op) : footOf P env T H op = footOf P env T' H op := by
  unfold footOf; rw [h.ev]
theorem Teq.exec {T T' : Tab} (h : Teq T T') (o : Oper) (H : List AB) : aexecD P env o T H = aexecD P env o T' H := by
  unfold aexecD aexec; rw [h.ev]
theorem Teq.putT {T T' : Tab} (h : Teq T T') (d : Option Tmp) (v : AV) : Teq (putT d v T) (putT d v T') := fun t => by
  rw [get_putT, get_putT, h t]

theorem aguard_cases {ρ : Type} {o : Oper} {T : Tab} {run skip : Tab → Option ρ} {r : ρ} (h : aguard ops n o T run skip = some r) :
    (∃ T1, Teq T1 T ∧ wantedA ops o T = some true ∧ run T1 = some r) ∨ (∃ T1, Teq T1 T ∧ wantedA ops o T = some false ∧ skip T1 = some r) := by
  unfold aguard at h
  split at h
  · rename_i hg
    exact .inl ⟨T, Teq.refl T, by simp only [wantedA, hg], h⟩
  · rename_i j want hg
    split at h
    · cases h
    · rename_i d hd
      cases hb : Nat.ble (d + 1) n with
      | false => rw [hb] at h; cases h
      | true =>
        rw [hb] at h
        simp only [cond_true] at h
        split at h
        · rename_i x hx
          have hq : ∀ y, y = x → Teq ((d, .bool y) :: T) T := fun y hy t => by
            subst hy
            by_cases e : d = t
            · subst e; rw [hx]; simp [get]
            · exact get_cons_ne e _ _
          have hw : wantedA ops o T = some (x == want) := by simp only [wantedA, hg, hd, hx]
          cases x <;> cases want <;> simp at h <;> first
            | exact .inl ⟨_, hq _ rfl, by rw [hw]; rfl, h⟩
            | exact .inr ⟨_, hq _ rfl, by rw [hw]; rfl, h⟩
        · cases h

theorem aput_cases {ρ : Type} {d : Option Tmp} {v : AV} {T : Tab} {K : Tab → Option ρ} {r : ρ} (h : aput n d v T K = some r) : (∀ e, d = some e → e < n) ∧ K (putT d v T) = some r := by
  cases d with
  | none => exact ⟨fun e he => (by cases he), h⟩
  | some d =>
    simp only [aput] at h
    cases hb : Nat.ble (d + 1) n with
    | false => rw [hb] at h; cases h
    | true => rw [hb] at h; exact ⟨fun e he => (by cases he; exact Nat.le_of_ble_eq_true hb), h⟩

theorem aopsO_lex {ρ : Type} {chk : Foots → Bool} {K : Tab → List AB → Option ρ} {r : ρ} : ∀ (l : List Oper) (k : Nat) (T : Tab) (H : List AB) (Fa : Foots), (∀ j, l[j]? = ops[k + j]?) → k + l.length = ops.size → Fa.length = k →
    aopsO chk P env ops n l T H Fa K = some r → ∃ F : Foots, F.length = ops.size ∧ F.take k = Fa.reverse ∧ (chk F = true ∧ orderedB ops 0 ops.toList F = true) ∧
      LexRun P env ops n F (fun T H => ∃ Tl, Teq T Tl ∧ K Tl H = some r) l k T H
  | [], k, T, H, Fa, _, hk, hFa, h => by
    simp only [aopsO] at h
    cases hb : (chk Fa.reverse && orderedB ops 0 ops.toList Fa.reverse) with
    | false => rw [hb] at h; cases h
    | true =>
      rw [hb] at h
      simp only [Bool.and_eq_true] at hb
      simp only [List.length_nil, Nat.add_zero] at hk
      exact ⟨Fa.reverse, by simp [hFa, hk], by rw [List.take_of_length_le (by simp [hFa])], hb, T, Teq.refl T, h⟩
  | o :: l, k, T, H, Fa, hl, hk, hFa, h => by
    have h0 : ops[k]? = some o := by simpa using (hl 0).symm
    have hl' : ∀ j, l[j]? = ops[k + 1 + j]? := fun j => by have := hl (j + 1); simpa [Nat.add_assoc, Nat.add_comm 1 j] using this
    simp only [List.length_cons] at hk
    have ends : ∀ (F : Foots) (f : Foot), F.length = ops.size → F.take (k + 1) = (f :: Fa).reverse → F[k]? = some f ∧ F.take k = Fa.reverse := fun F f hF ht => by
      rw [List.reverse_cons] at ht
      constructor
      · have : (F.take (k + 1))[k]? = F[k]? := by rw [List.getElem?_take, if_pos (by omega)]
        rw [← this, ht, List.getElem?_append_right (by simp [hFa])]; simp [hFa]
      · have : (F.take (k + 1)).take k = F.take k := by rw [List.take_take]; congr 1; omega
        rw [← this, ht, List.take_append_of_le_length (by simp [hFa]), List.take_of_length_le (by simp [hFa])]
    simp only [aopsO] at h
    rcases aguard_cases h with ⟨T1, ht, hw, h1⟩ | ⟨T1, ht, hw, h1⟩
    · split at h1
      · rename_i f hf
        rw [aexec_nat hf] at h1
        obtain ⟨⟨v, H'⟩, hx, h2⟩ := Option.bind_eq_some_iff.1 h1
        obtain ⟨hd, h3⟩ := aput_cases h2
        obtain ⟨F, e1, e2, e3, e4⟩ := aopsO_lex l (k + 1) _ H' (f :: Fa) hl' (by omega) (by simp [hFa]) h3
        obtain ⟨g1, g2⟩ := ends F f e1 e2
        exact ⟨F, e1, g2, e3, _, H', ⟨o, f, v, h0, g1, hd, .inl ⟨hw, by rw [← ht.foot]; exact hf, by rw [← ht.exec]; exact hx⟩, ht.putT _ _⟩, e4⟩
      · cases h1
    · obtain ⟨hd, h3⟩ := aput_cases h1
      obtain ⟨F, e1, e2, e3, e4⟩ := aopsO_lex l (k + 1) _ H (.none :: Fa) hl' (by omega) (by simp [hFa]) h3
      obtain ⟨g1, g2⟩ := ends F .none e1 e2
      exact ⟨F, e1, g2, e3, _, H, ⟨o, .none, .any, h0, g1, hd, .inr ⟨hw, rfl, rfl, rfl⟩, ht.putT _ _⟩, e4⟩

/-! ### What the orders are in the model -/
theorem dcD_DC (hE : EnvOk P env) {ρ : Type} : DC P (dcD (ρ := ρ) env) := by
  intro fid args H K r h m Args w hA hH
  unfold dcD at h
  split at h
  · rename_i C F hF
    cases hC : C args with
    | false => rw [hC] at h; cases h
    | true =>
    rw [hC] at h
    simp only [cond_true] at h
    split at h
    · rename_i v hv
      cases hb : v.noPtr with
      | false => rw [hb] at h; cases h
      | true =>
        rw [hb] at h
        obtain ⟨h1, h2⟩ := hE fid _ hF
        refine .inr ⟨h1 Args w, (h2 args v hC hv m Args w hA).mono fun e w' ⟨V, e1, e2, e3⟩ => ?_⟩
        exact ⟨v, V, m, H, e1, R_noPtr v hb e2, hH.same e3.blocks, e3.same, h⟩
    · cases h
  · rename_i C F hF
    cases hC : C args with
    | false => rw [hC] at h; cases h
    | true =>
    rw [hC] at h
    simp only [cond_true] at h
    split at h
    · rename_i v hv
      obtain ⟨V, h2, h3⟩ := hE fid _ hF args v hC hv m Args hA
      exact .inl ⟨v, V, h, h2, h3 w⟩
    · cases h
  · rename_i F hF
    split at h
    · rename_i v hv
      cases hb : v.noPtr with
      | false => rw [hb] at h; cases h
      | true =>
        rw [hb] at h
        obtain ⟨h1, h2⟩ := hE fid _ hF
        refine .inr ⟨h1 Args w, (h2 args v rfl hv m Args w hA).mono fun e w' ⟨V, e1, e2, e3⟩ => ?_⟩
        exact ⟨v, V, m, H, e1, R_noPtr v hb e2, hH.same e3.blocks, e3.same, h⟩
    · cases h
  · rename_i T F hF
    split at h
    · rename_i v H' hv
      obtain ⟨h1, h2⟩ := hE fid _ hF
      refine .inr ⟨h1 Args w, (h2 args H v H' rfl hv m Args w hA hH).mono fun e w' ⟨V, m', e1, e2, e3, e4⟩ => ?_⟩
      exact ⟨v, V, m', H', e1, e2, e3, e4, h⟩
    · cases h
  · rename_i T F hF
    split at h
    · rename_i v H' hv
      obtain ⟨h1, h2⟩ := hE fid _ hF
      refine .inr ⟨h1 Args w, (h2 args H v H' rfl hv m Args w hA hH).mono fun e w' ⟨V, m', e1, e2, e3, e4⟩ => ?_⟩
      exact ⟨v, V, m', H', e1, e2, e3, e4, h⟩
    · cases h
  · cases h

theorem wantedA_ok {m : List Nat} {o : Oper} {T : Tab} {tmps : Array Value} (hT : TR m n T tmps) {b : Bool} (h : wantedA ops o T = some b) : Region.wanted o (yielded ops tmps) = b := by
  unfold wantedA at h
  split at h
  · rename_i hg; cases h; simp [Region.wanted, hg]
  · rename_i j want hg
    split at h
    · cases h
    · rename_i d hd
      split at h
      · rename_i x hx
        cases h
        have hR := hT.2 d
        rw [hx] at hR
        simp only [R] at hR
        have hg' : tmps[d]? = some (.bool x) := by
          rw [Array.getD_eq_getD_getElem?] at hR
          cases hq : tmps[d]? with
          | none => rw [hq] at hR; simp [undef] at hR
          | some V => rw [hq] at hR; simp at hR; rw [hR]
        have hy : yielded ops tmps j = some x := by
          unfold yielded
          rw [hd]
          show (match tmps[d]? with | some (.bool b) => some b | _ => none) = some x
          rw [hg']
        simp [Region.wanted, hg, hy]
      · cases h

theorem TR.teq {m : List Nat} {T T' : Tab} {tmps : Array Value} (h : TR m n T tmps) (ht : Teq T' T) : TR m n T' tmps := ⟨h.1, fun i => by rw [ht i]; exact h.2 i⟩
theorem TR.putT {m : List Nat} {T : Tab} {a : Act} (h : TR m n T a.tmps) {d : Option Tmp} (hd : ∀ e, d = some e → e < n) {v : AV} {V : Value} (hv : R m v V) : TR m n (putT d v T) (a.put d V).tmps := by
  cases d with
  | none => exact h
  | some d => exact h.put (hd d rfl) hv

theorem anyA_sound (hE : EnvOk P env) {F : Foots} {Fin : Tab → List AB → Prop} {Q : Exit → Act → World → Prop} : ∀ (fuel : Nat) (listed : Array Bool) (T : Tab) (H : List AB) (m : List Nat) (a : Act) (w : World),
    AnyA P env ops n F Fin fuel listed T H → TR m n T a.tmps → HR m H w →
    (∀ T' H' a' m' w', TR m' n T' a'.tmps → HR m' H' w' → Ext m w m' w' → a'.defers = a.defers → Fin T' H' → Q .normal a' w') → wpAny P .any ops Q fuel listed a w
  | 0, _, T, H, m, a, w, h, hT, hH, hQ => ⟨h.1, hQ T H a m w hT hH (Ext.refl m w) rfl h.2⟩
  | fuel + 1, listed, T, H, m, a, w, h, hT, hH, hQ => by
    refine ⟨fun h0 => hQ T H a m w hT hH (Ext.refl m w) rfl (h.1 h0), fun i hi => ?_⟩
    obtain ⟨T', H', ⟨o, f, v, e1, e2, hd, hl, ht⟩, hA⟩ := h.2 i hi
    unfold wpOp
    simp only [e1]
    rcases hl with ⟨hw, hf, hx⟩ | ⟨hw, rfl, rfl, rfl⟩
    · rw [if_pos (wantedA_ok hT hw)]
      refine .inl (aexec_ok (dcD_DC hE) hT hH hx fun v' H'' V m' w' hv hH' hEx hK => ?_)
      cases hK
      have hT1 : TR m' n T a.tmps := by obtain ⟨x, hx, _⟩ := hEx.pre; rw [hx]; exact hT.mono x
      exact anyA_sound hE fuel _ T' H' m' _ w' hA ((hT1.putT hd hv).teq ht) hH' fun T3 H3 a3 m3 w3 q1 q2 q3 q4 q5 => hQ T3 H3 a3 m3 w3 q1 q2 (hEx.trans q3) (q4.trans (put_defers _ _ _)) q5
    · rw [if_neg (by rw [wantedA_ok hT hw]; simp)]
      exact anyA_sound hE fuel _ T' H' m _ w hA ((hT.putT hd (V := undef) (by simp only [R])).teq ht) hH fun T3 H3 a3 m3 w3 q1 q2 q3 q4 q5 => hQ T3 H3 a3 m3 w3 q1 q2 q3 (q4.trans (put_defers _ _ _)) q5

/-- A region that draws its order. -/
theorem aopsO_ok {ρ : Type} (hE : EnvOk P env) {K : Tab → List AB → Option ρ} {r : ρ} {T : Tab} {H : List AB} (hL : lexOk ops ops.size 0 (Array.replicate ops.size false) = true) (h : aopsO (fun _ => true) P env ops n ops.toList T H [] K = some r)
    {m : List Nat} {a : Act} {w : World} {Q : Exit → Act → World → Prop} {id : Nat} (hm : P.follows .mixedOrders = true) (hT : TR m n T a.tmps) (hH : HR m H w)
    (hQ : ∀ T' H' a' m' w', TR m' n T' a'.tmps → HR m' H' w' → Ext m w m' w' → a'.defers = a.defers → K T' H' = some r → Q .normal a' w') : (Code.region id ops true).wp P Q a w := by
  obtain ⟨F, e1, _, ⟨_, e3⟩, e4⟩ := aopsO_lex ops.toList 0 T H [] (by simp) (by simp) rfl h
  have hA := anyA_lex (P := P) (env := env) (n := n) e1 ops.toList 0 (Array.replicate ops.size false) T H (by simp) (by simpa using hL) (by simpa using e3)
    (fun j _ => by rcases Nat.lt_or_ge j ops.size with h | h <;> simp [h]) (fun j hj => by omega) e4
  have hw : HR m H { w with drawn := w.drawn + 1 } := hH.drewN 1
  have hx : Ext m w m { w with drawn := w.drawn + 1 } := ⟨⟨[], by simp⟩, rfl, rfl, rfl, Nat.le_refl _, fun _ _ _ => rfl⟩
  refine wp_region_any hm ?_
  have := anyA_sound (Q := Q) hE ops.toList.length (Array.replicate ops.size false) T H m a { w with drawn := w.drawn + 1 } hA hT hw fun T' H' a' m' w' q1 q2 q3 q4 ⟨Tl, t1, t2⟩ =>
    hQ Tl H' a' m' w' (q1.teq fun i => (t1 i).symm) q2 (hx.trans q3) q4 t2
  simpa using this
end
#print axioms aopsO_ok
end Go.Proofs.Ytlkclpkpggapbaa.Ae
