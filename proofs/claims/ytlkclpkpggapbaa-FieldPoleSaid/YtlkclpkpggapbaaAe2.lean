/- The interpreter's comparisons and arithmetic are the model's. Conditions: none. -/
import Derived.Test.YtlkclpkpggapbaaAe1
import Derived.Laws.StructEq
namespace Go.Proofs.Ytlkclpkpggapbaa.Ae
open Go

theorem aeqFields_ok {P : Program} {m : List Nat} {d : Nat} (ih : ∀ t x y b, aeq P d t x y = some b → ∀ X Y, R m x X → R m y Y → ∀ w, (Op.equalIn d t X Y).run P w = .ok b w)
    {xs ys : List AV} {Xs Ys : Array Value} (hx : RL m xs Xs.toList) (hy : RL m ys Ys.toList) : ∀ (fs : List Field) (b : Bool), aeq.aeqFields (aeq P d) P xs ys fs = some b →
    ∀ w, (Op.eqFields d Xs Ys fs).run P w = .ok b w
  | [], b, h, w => by simp only [aeq.aeqFields, Option.some.injEq] at h; subst h; simp [Op.eqFields]
  | f :: fs, b, h, w => by
    simp only [aeq.aeqFields] at h
    by_cases hn : f.name ≠ "_"
    · rw [if_pos hn] at h
      split at h
      · rename_i a c ha hc
        split at h
        · rename_i r hr
          split at h
          · rename_i s hs
            cases h
            obtain ⟨A, hA, hAR⟩ := run_partA hx ha
            obtain ⟨C, hC, hCR⟩ := run_partA hy hc
            have h1 := ih _ _ _ _ hr A C hAR hCR
            have h2 := aeqFields_ok ih hx hy fs s hs
            simp only [Op.eqFields, if_pos hn, Sem.run_bind, hA, hC, h1, Result.andThen_ok]
            cases r
            · simp
            · simpa using h2 w
          · cases h
        · cases h
      · cases h
    · rw [if_neg hn] at h
      simp only [Op.eqFields, if_neg hn]
      exact aeqFields_ok ih hx hy fs b h w

theorem aeqItems_ok {P : Program} {m : List Nat} {d : Nat} (ih : ∀ t x y b, aeq P d t x y = some b → ∀ X Y, R m x X → R m y Y → ∀ w, (Op.equalIn d t X Y).run P w = .ok b w)
    {xs ys : List AV} {Xs Ys : Array Value} (hx : RL m xs Xs.toList) (hy : RL m ys Ys.toList) (e : TypeId) (sz : Nat) : ∀ (n i : Nat) (b : Bool), aeq.aeqItems (aeq P d) P xs ys e sz n i = some b →
    ∀ w, (Op.eqItems d e sz Xs Ys (List.range' i n)).run P w = .ok b w
  | 0, i, b, h, w => by simp only [aeq.aeqItems, Option.some.injEq] at h; subst h; simp [Op.eqItems]
  | n + 1, i, b, h, w => by
    simp only [aeq.aeqItems] at h
    split at h
    · rename_i a c ha hc
      split at h
      · rename_i r hr
        split at h
        · rename_i s hs
          cases h
          obtain ⟨A, hA, hAR⟩ := run_partA hx ha
          obtain ⟨C, hC, hCR⟩ := run_partA hy hc
          have h1 := ih _ _ _ _ hr A C hAR hCR
          have h2 := aeqItems_ok ih hx hy e sz n (i + 1) s hs
          simp only [List.range'_succ, Op.eqItems, Sem.run_bind, hA, hC, h1, Result.andThen_ok]
          cases r
          · simp
          · simpa using h2 w
        · cases h
      · cases h
    · cases h

theorem aeq_ok {P : Program} {m : List Nat} : ∀ (d : Nat) (t : TypeId) (x y : AV) (b : Bool), aeq P d t x y = some b → ∀ X Y, R m x X → R m y Y → ∀ w, (Op.equalIn d t X Y).run P w = .ok b w
  | 0, t, x, y, b, h, _, _, _, _, _ => by simp [aeq] at h
  | d + 1, t, x, y, b, h, X, Y, hX, hY, w => by
    have ih := aeq_ok (P := P) (m := m) d
    unfold aeq at h
    split at h
    all_goals (try (rename_i hu; simp only [R] at hX hY))
    case h_1 => cases h; subst hX; subst hY; simp [Op.equalIn, run_underlying hu]
    case h_2 => split at h <;> cases h; subst hX; subst hY; simp [Op.equalIn, run_underlying hu, *]
    case h_3 => cases h; subst hX; subst hY; simp [Op.equalIn, run_underlying hu]
    case h_4 => cases h; subst hX; subst hY; simp [Op.equalIn, run_underlying hu]
    case h_5 => cases h; subst hX; obtain ⟨_, _, rfl⟩ := hY; simp [Op.equalIn, run_underlying hu]
    case h_6 => cases h; subst hY; obtain ⟨_, _, rfl⟩ := hX; simp [Op.equalIn, run_underlying hu]
    case h_7 => cases h; subst hX; subst hY; simp [Op.equalIn, run_underlying hu]
    case h_8 => cases h; subst hX; obtain ⟨_, rfl, _⟩ := hY; simp [Op.equalIn, run_underlying hu]
    case h_9 => cases h; subst hY; obtain ⟨_, rfl, _⟩ := hX; simp [Op.equalIn, run_underlying hu]
    case h_10 => cases h; subst hX; subst hY; simp [Op.equalIn, run_underlying hu]
    case h_11 => cases h; subst hY; obtain ⟨_, _, rfl⟩ := hX; simp [Op.equalIn, run_underlying hu]
    case h_12 => cases h; subst hX; obtain ⟨_, _, rfl⟩ := hY; simp [Op.equalIn, run_underlying hu]
    case h_13 fs xs ys =>
      split at h
      · cases h
      · rename_i hs
        obtain ⟨Vx, rfl, hx⟩ := hX
        obtain ⟨Vy, rfl, hy⟩ := hY
        have hf : P.fieldsOf t = fs := by simp [Program.fieldsOf, hu]
        rw [run_equalIn_struct w d t _ _ (by rw [hf]; exact hu) (by simpa using hs), hf]
        exact aeqFields_ok ih (by simpa using hx) (by simpa using hy) fs.toList b h w
    case h_14 n e xs ys =>
      split at h
      · rename_i sz hsz
        obtain ⟨Vx, rfl, hx⟩ := hX
        obtain ⟨Vy, rfl, hy⟩ := hY
        obtain ⟨i, hi, rfl⟩ := Option.map_eq_some_iff.1 hsz
        rw [run_equalIn_array w d _ _ hu hi, List.range_eq_range']
        have hc : P.cellsOf e = i.size := by simp [Program.cellsOf, hi]
        rw [hc]
        exact aeqItems_ok ih (by simpa using hx) (by simpa using hy) e i.size n 0 b h w
      · cases h
    case h_15 => cases h

theorem eqFree_ok {P : Program} {m : List Nat} {t : TypeId} {x : AV} {X Y : Value} (hx : R m x X) (h : eqFree P t x = true) (hn : x ≠ .any) (op : BinOp) (p q : Operand) (w : World) :
    (eqGuard op t p q X Y).run P w = .ok () w := by
  cases x <;> simp only [R] at hx
  case any => exact absurd rfl hn
  case agg =>
    obtain ⟨Vs, rfl, _⟩ := hx
    simp only [eqFree, Bool.not_eq_true'] at h
    cases Y <;> cases op <;> simp [eqGuard, run_program, h]
  all_goals first
    | (subst hx; cases op <;> cases Y <;> simp [eqGuard])
    | (obtain ⟨rfl, _, _⟩ := hx; cases op <;> cases Y <;> simp [eqGuard])
    | (obtain ⟨_, _, rfl⟩ := hx; cases op <;> cases Y <;> simp [eqGuard])
    | (obtain ⟨_, rfl, _⟩ := hx; cases op <;> cases Y <;> simp [eqGuard])
    | (obtain ⟨_, _, _, _, rfl⟩ := hx; cases op <;> cases Y <;> simp [eqGuard])

section
variable {ρ : Type}

theorem abinI_ok {P : Program} {m : List Nat} {op : BinOp} {k : IntKind} {x y : Int} {K : AV → Option ρ} {r : ρ} (t : TypeId) (h : abinI op k x y K = some r) :
    ∃ v V, K v = some r ∧ R m v V ∧ ∀ w, (binOp op t (.int k x) (.int k y)).run P w = .ok V w := by
  cases op <;> simp only [abinI] at h
  case quo =>
    cases hy : (y == 0) with
    | true => rw [hy] at h; cases h
    | false =>
      rw [hy] at h
      refine ⟨_, .int k (wr k (x.tdiv y)), h, by simp [R], fun w => ?_⟩
      have : y ≠ 0 := by simpa using hy
      simp [binOp, Op.intDiv, this, wr_eq]
  case rem =>
    cases hy : (y == 0) with
    | true => rw [hy] at h; cases h
    | false =>
      rw [hy] at h
      refine ⟨_, .int k (x.tmod y), h, by simp [R], fun w => ?_⟩
      have : y ≠ 0 := by simpa using hy
      simp [binOp, Op.intDiv, this]
  all_goals first
    | (cases h; done)
    | (refine ⟨_, _, h, (by first | exact R_int _ _ _ | exact R_bool _ _), fun w => ?_⟩; simp [binOp, Op.intArith, Op.intBits, Op.intCmp, wr_eq, band, bor, bxor])

theorem ashift_ok {P : Program} {m : List Nat} {left : Bool} {k k' : IntKind} {x y : Int} {K : AV → Option ρ} {r : ρ} (t : TypeId) (h : ashift left k x y K = some r) :
    ∃ v V, K v = some r ∧ R m v V ∧ ∀ w, (binOp (if left then .shl else .shr) t (.int k x) (.int k' y)).run P w = .ok V w := by
  unfold ashift at h
  by_cases hy : y < 0
  · simp [hy] at h
  · rw [decide_eq_false hy] at h
    simp only [cond_false] at h
    cases left with
    | true =>
      simp only [cond_true] at h
      refine ⟨_, _, h, R_int _ _ _, fun w => ?_⟩
      simp [binOp, Op.shift, hy, wr_eq, p2_eq]
    | false =>
      simp only [cond_false] at h
      refine ⟨_, _, h, R_int _ _ _, fun w => ?_⟩
      have hp : (0 : Int) ≤ p2 (min y.toNat k.bits) := Int.natCast_nonneg _
      simp [binOp, Op.shift, hy, p2_eq, Int.fdiv_eq_ediv_of_nonneg _ hp]

theorem plain_eql {P : Program} {m : List Nat} {t : TypeId} {x : AV} {X Y : Value} (hx : R m x X) (hp : plainEq x = true) (w : World) {b : Bool} (he : (Op.equal t X Y).run P w = .ok b w) :
    (binOp .eql t X Y).run P w = .ok (.bool b) w ∧ (binOp .neq t X Y).run P w = .ok (.bool (!b)) w := by
  cases x <;> simp [plainEq] at hp <;> simp only [R] at hx
  all_goals first
    | (subst hx; constructor <;> simp [binOp, he]; done)
    | (obtain ⟨_, _, rfl⟩ := hx; constructor <;> simp [binOp, he]; done)
    | (obtain ⟨_, rfl, _⟩ := hx; constructor <;> simp [binOp, he]; done)

theorem any_eq {ex : List Int} {b : Int} (h : ex.any (fun c => c == b) = true) : b ∈ ex := by
  obtain ⟨c, hc, e⟩ := List.any_eq_true.1 h
  have : c = b := by simpa using e
  exact this ▸ hc
theorem abinI_run {P : Program} {op : BinOp} {k : IntKind} {x y : Int} {b : Bool} (t : TypeId) (h : abinI op k x y (fun v => some v) = some (AV.bool b)) (w : World) : (binOp op t (.int k x) (.int k y)).run P w = .ok (.bool b) w := by
  obtain ⟨v, V, h1, h2, h3⟩ := abinI_ok (P := P) (m := []) t h
  cases h1
  simp only [R] at h2
  rw [h3 w, h2]

theorem abin_ok {P : Program} {m : List Nat} {op : BinOp} {t : TypeId} {x y : AV} {X Y : Value} (hx : R m x X) (hy : R m y Y) {K : AV → Option ρ} {r : ρ} (h : abin P op t x y K = some r) (p q : Operand) :
    ∃ v V, K v = some r ∧ R m v V ∧ ∀ w, (do eqGuard op t p q X Y; binOp op t X Y : Sem Value).run P w = .ok V w := by
  unfold abin at h
  split at h
  · rename_i k a k' b
    simp only [R] at hx hy
    subst hx; subst hy
    have hg : ∀ w, (eqGuard op t p q (.int k a) (.int k' b)).run P w = .ok () w := fun w => by cases op <;> simp [eqGuard]
    split at h
    · obtain ⟨v, V, h1, h2, h3⟩ := ashift_ok (P := P) (m := m) (k' := k') t h
      exact ⟨v, V, h1, h2, fun w => by simp only [Sem.run_bind, hg, Result.andThen_ok]; exact h3 w⟩
    · obtain ⟨v, V, h1, h2, h3⟩ := ashift_ok (P := P) (m := m) (k' := k') t h
      exact ⟨v, V, h1, h2, fun w => by simp only [Sem.run_bind, hg, Result.andThen_ok]; exact h3 w⟩
    · split at h
      · rename_i hk
        subst hk
        obtain ⟨v, V, h1, h2, h3⟩ := abinI_ok (P := P) (m := m) t h
        exact ⟨v, V, h1, h2, fun w => by simp only [Sem.run_bind, hg, Result.andThen_ok]; exact h3 w⟩
      · cases h
  · rename_i k a lo hi ex k' b
    simp only [R] at hx hy
    obtain ⟨rfl, hlo, hex⟩ := hx
    subst hy
    have hg : ∀ w, (eqGuard op t p q (.int k a) (.int k' b)).run P w = .ok () w := fun w => by cases op <;> simp [eqGuard]
    split at h
    · rename_i hk
      subst hk
      have fin : ∀ (c : Bool), K (.bool c) = some r → abinI op k a b (fun v => some v) = some (AV.bool c) → ∃ v V, K v = some r ∧ R m v V ∧ ∀ w, (do eqGuard op t p q (.int k a) (.int k b); binOp op t (.int k a) (.int k b) : Sem Value).run P w = .ok V w := fun c hK hc =>
        ⟨.bool c, .bool c, hK, R_bool _ _, fun w => by simp only [Sem.run_bind, hg, Result.andThen_ok]; exact abinI_run t hc w⟩
      split at h
      · cases hb : ex.any (fun c => c == b) with
        | true =>
          rw [hb] at h
          exact fin true h (by simp only [abinI, Option.some.injEq, AV.bool.injEq]; simpa using hex b (any_eq hb))
        | false => rw [hb] at h; exact fin _ h rfl
      · cases hb : ex.any (fun c => c == b) with
        | true =>
          rw [hb] at h
          exact fin false h (by simp only [abinI, Option.some.injEq, AV.bool.injEq]; simpa using hex b (any_eq hb))
        | false => rw [hb] at h; exact fin _ h rfl
      · cases hb : lo.any (fun l => decide (b ≤ l)) with
        | true =>
          rw [hb] at h
          obtain ⟨l, hl, hl2⟩ := List.any_eq_true.1 hb
          have h1 := hlo.1 l hl
          have h2 := of_decide_eq_true hl2
          exact fin false h (by simp only [abinI, Option.some.injEq, AV.bool.injEq, decide_eq_false_iff_not]; omega)
        | false =>
          rw [hb] at h
          cases hb2 : hi.any (fun l => decide (l < b)) with
          | true =>
            rw [hb2] at h
            obtain ⟨l, hl, hl2⟩ := List.any_eq_true.1 hb2
            have h1 := hlo.2 l hl
            have h2 := of_decide_eq_true hl2
            exact fin true h (by simp only [abinI, Option.some.injEq, AV.bool.injEq, decide_eq_true_eq]; omega)
          | false => rw [hb2] at h; exact fin _ h rfl
      · cases hb : lo.any (fun l => decide (b < l)) with
        | true =>
          rw [hb] at h
          obtain ⟨l, hl, hl2⟩ := List.any_eq_true.1 hb
          have h1 := hlo.1 l hl
          have h2 := of_decide_eq_true hl2
          exact fin true h (by simp only [abinI, Option.some.injEq, AV.bool.injEq, decide_eq_true_eq]; omega)
        | false =>
          rw [hb] at h
          cases hb2 : hi.any (fun l => decide (l ≤ b)) with
          | true =>
            rw [hb2] at h
            obtain ⟨l, hl, hl2⟩ := List.any_eq_true.1 hb2
            have h1 := hlo.2 l hl
            have h2 := of_decide_eq_true hl2
            exact fin false h (by simp only [abinI, Option.some.injEq, AV.bool.injEq, decide_eq_false_iff_not]; omega)
          | false => rw [hb2] at h; exact fin _ h rfl
      · cases h
    · cases h
  · rename_i k b k' a lo hi ex
    simp only [R] at hx hy
    obtain ⟨rfl, hlo, hex⟩ := hy
    subst hx
    have hg : ∀ w, (eqGuard op t p q (.int k b) (.int k' a)).run P w = .ok () w := fun w => by cases op <;> simp [eqGuard]
    split at h
    · rename_i hk
      subst hk
      have fin : ∀ (c : Bool), K (.bool c) = some r → abinI op k b a (fun v => some v) = some (AV.bool c) → ∃ v V, K v = some r ∧ R m v V ∧ ∀ w, (do eqGuard op t p q (.int k b) (.int k a); binOp op t (.int k b) (.int k a) : Sem Value).run P w = .ok V w := fun c hK hc =>
        ⟨.bool c, .bool c, hK, R_bool _ _, fun w => by simp only [Sem.run_bind, hg, Result.andThen_ok]; exact abinI_run t hc w⟩
      split at h
      · cases hb : ex.any (fun c => c == b) with
        | true =>
          rw [hb] at h
          exact fin true h (by simp only [abinI, Option.some.injEq, AV.bool.injEq]; simpa using fun e => hex b (any_eq hb) e.symm)
        | false => rw [hb] at h; exact fin _ h rfl
      · cases hb : ex.any (fun c => c == b) with
        | true =>
          rw [hb] at h
          exact fin false h (by simp only [abinI, Option.some.injEq, AV.bool.injEq]; simpa using fun e => hex b (any_eq hb) e.symm)
        | false => rw [hb] at h; exact fin _ h rfl
      · cases h
    · cases h
  · rename_i a b
    simp only [R] at hx hy
    subst hx; subst hy
    have hg : ∀ w, (eqGuard op t p q (.string a) (.string b)).run P w = .ok () w := fun w => by cases op <;> simp [eqGuard]
    split at h
    · exact ⟨_, _, h, R_bool _ _, fun w => by simp only [Sem.run_bind, hg, Result.andThen_ok, beq_toListBytes]; simp [binOp, Op.stringOp]⟩
    · exact ⟨_, _, h, R_bool _ _, fun w => by simp only [Sem.run_bind, hg, Result.andThen_ok, beq_toListBytes]; simp [binOp, Op.stringOp]⟩
    · by_cases hs : a.size + b.size ≤ 4611686018427387904
      · rw [decide_eq_true hs] at h
        simp only [cond_true] at h
        refine ⟨_, _, h, R_str _ _, fun w => ?_⟩
        simp only [Sem.run_bind, hg, Result.andThen_ok]
        have : ¬ ((a.size + b.size : Nat) : Int) > IntKind.i64.max := by simp [IntKind.max, IntKind.signed, IntKind.bits]; omega
        simp only [binOp, Op.stringOp]
        rw [if_neg this]
        simp
      · rw [decide_eq_false hs] at h; cases h
    · cases h
  · split at h
    · cases hb : (plainEq x && eqFree P t x) with
      | false => rw [hb] at h; cases h
      | true =>
        rw [hb] at h
        simp only [Bool.and_eq_true] at hb
        simp only [cond_true] at h
        split at h
        · rename_i b haeq
          refine ⟨_, _, h, R_bool _ _, fun w => ?_⟩
          have hn : x ≠ .any := by intro e; subst e; simp [plainEq] at hb
          simp only [Sem.run_bind, eqFree_ok hx hb.2 hn, Result.andThen_ok]
          exact (plain_eql hx hb.1 w (aeq_ok (P := P) (m := m) 10000 t x y b haeq X Y hx hy w)).1
        · cases h
    · cases hb : (plainEq x && eqFree P t x) with
      | false => rw [hb] at h; cases h
      | true =>
        rw [hb] at h
        simp only [Bool.and_eq_true] at hb
        simp only [cond_true] at h
        split at h
        · rename_i b haeq
          refine ⟨_, _, h, R_bool _ _, fun w => ?_⟩
          have hn : x ≠ .any := by intro e; subst e; simp [plainEq] at hb
          simp only [Sem.run_bind, eqFree_ok hx hb.2 hn, Result.andThen_ok]
          exact (plain_eql hx hb.1 w (aeq_ok (P := P) (m := m) 10000 t x y b haeq X Y hx hy w)).2
        · cases h
    · cases h

theorem aun_ok {P : Program} {m : List Nat} {op : UnOp} {x v : AV} {X : Value} (hx : R m x X) (h : aun op x = some v) : ∃ V, R m v V ∧ ∀ w, (Op.unary op X).run P w = .ok V w := by
  unfold aun at h
  split at h <;> cases h <;> simp only [R] at hx <;> subst hx
  · exact ⟨_, R_int _ _ _, fun w => by simp [Op.unary, Op.intArith, wr_eq]⟩
  · exact ⟨_, R_bool _ _, fun w => by simp [Op.unary]⟩

end
#print axioms abin_ok
end Go.Proofs.Ytlkclpkpggapbaa.Ae
