/- Values that are laid together; maps whose keys are two numbers. Conditions: none. -/
import Derived.Test.YtlkclpkpggapbaaAe1
import Derived.MapKept
import Derived.ChangeKeysEq
namespace Go.Proofs.Ytlkclpkpggapbaa.Ae
open Go

mutual
def mergeAV (x : Bool) : AV → AV → AV
  | .bool p, .bool q => .bool (bif x then p else q)
  | .int k p, .int k' q => if k = k' then .int k (bif x then p else q) else bif x then .int k p else .int k' q
  | .nilp, .nilp => .nilp
  | .nils, .nils => .nils
  | .nilfn, .nilfn => .nilfn
  | .ptr i o, .ptr i' o' => bif Nat.beq i i' && Nat.beq o o' then .ptr i o else bif x then .ptr i o else .ptr i' o'
  | .str p, .str q => .str (bif x then p else q)
  | .agg l, .agg l' => bif Nat.beq l.length l'.length then .agg (mergeL x l l') else bif x then .agg l else .agg l'
  | .tup l, .tup l' => bif Nat.beq l.length l'.length then .tup (mergeL x l l') else bif x then .tup l else .tup l'
  | .any, .any => .any
  | v, u => bif x then v else u
def mergeL (x : Bool) : List AV → List AV → List AV
  | v :: l, u :: l' => mergeAV x v u :: mergeL x l l'
  | _, _ => []
end

mutual
theorem R_merge {m : List Nat} {x : Bool} : ∀ (v u : AV) {V : Value}, (x = true → R m v V) → (x = false → R m u V) → R m (mergeAV x v u) V := by
  intro v u V h1 h2
  cases v <;> cases u <;> simp only [mergeAV] <;> (try (simp only [R]; done)) <;> (try (cases x; exact h2 rfl; exact h1 rfl))
  case int.int k p k' q =>
    split
    · rename_i e; subst e; cases x <;> simp_all [R]
    · cases x; exact h2 rfl; exact h1 rfl
  case ptr.ptr i o i' o' =>
    cases hb : (Nat.beq i i' && Nat.beq o o') with
    | false => simp only [cond_false]; cases x; exact h2 rfl; exact h1 rfl
    | true =>
      simp only [Bool.and_eq_true] at hb
      obtain rfl := Nat.eq_of_beq_eq_true hb.1
      obtain rfl := Nat.eq_of_beq_eq_true hb.2
      simp only [cond_true]
      cases x
      · exact h2 rfl
      · exact h1 rfl
  case agg.agg l l' =>
    cases hb : Nat.beq l.length l'.length with
    | false => simp only [cond_false]; cases x; exact h2 rfl; exact h1 rfl
    | true =>
      have hl := Nat.eq_of_beq_eq_true hb
      simp only [cond_true]
      cases x
      · have := h2 rfl; simp only [R] at this ⊢; obtain ⟨Vs, e, hr⟩ := this; exact ⟨Vs, e, RL_merge l l' hl (fun h => by cases h) (fun _ => hr)⟩
      · have := h1 rfl; simp only [R] at this ⊢; obtain ⟨Vs, e, hr⟩ := this; exact ⟨Vs, e, RL_merge l l' hl (fun _ => hr) (fun h => by cases h)⟩
  case tup.tup l l' =>
    cases hb : Nat.beq l.length l'.length with
    | false => simp only [cond_false]; cases x; exact h2 rfl; exact h1 rfl
    | true =>
      have hl := Nat.eq_of_beq_eq_true hb
      simp only [cond_true]
      cases x
      · have := h2 rfl; simp only [R] at this ⊢; obtain ⟨Vs, e, hr⟩ := this; exact ⟨Vs, e, RL_merge l l' hl (fun h => by cases h) (fun _ => hr)⟩
      · have := h1 rfl; simp only [R] at this ⊢; obtain ⟨Vs, e, hr⟩ := this; exact ⟨Vs, e, RL_merge l l' hl (fun _ => hr) (fun h => by cases h)⟩
theorem RL_merge {m : List Nat} {x : Bool} : ∀ (l l' : List AV) {Vs : List Value}, l.length = l'.length → (x = true → RL m l Vs) → (x = false → RL m l' Vs) → RL m (mergeL x l l') Vs
  | [], [], Vs, _, h1, h2 => by
    simp only [mergeL]
    cases x
    · exact h2 rfl
    · exact h1 rfl
  | [], _ :: _, _, h, _, _ => by simp at h
  | _ :: _, [], _, h, _, _ => by simp at h
  | v :: l, u :: l', Vs, h, h1, h2 => by
    simp only [List.length_cons, Nat.add_right_cancel_iff] at h
    simp only [mergeL]
    cases x
    · obtain ⟨V, Vs', rfl, a1, a2⟩ := RL_cons.1 (h2 rfl)
      exact RL.cons (R_merge v u (fun h => by cases h) (fun _ => a1)) (RL_merge l l' h (fun h => by cases h) (fun _ => a2))
    · obtain ⟨V, Vs', rfl, a1, a2⟩ := RL_cons.1 (h1 rfl)
      exact RL.cons (R_merge v u (fun _ => a1) (fun h => by cases h)) (RL_merge l l' h (fun _ => a2) (fun h => by cases h))
end

/-! ### Maps whose keys are numbers, or two numbers -/
/-- Is it the type of two numbers? -/
def isPK (P : Program) (k : TypeId) : Bool :=
  match P.underlying k with
  | some (.array 2 el) =>
    match P.underlying el, sizeA P el with
    | some (.int _), some 1 => true
    | _, _ => false
  | _ => false
/-- Of how many numbers are a map's keys, and the kind of what it bears. -/
def mapT (P : Program) (t : TypeId) : Option (Bool × TypeId) :=
  match P.underlying t with
  | some (.map k el) =>
    bif isPK P k then some (true, el) else
      match P.underlying k with
      | some (.int _) => some (false, el)
      | _ => none
  | _ => none
abbrev pkV (a b : Int) : Value := .agg ⟨[.int .i64 a, .int .i64 b]⟩
abbrev pkA (a b : Int) : AV := .agg [.int .i64 a, .int .i64 b]

theorem pk_inv {P : Program} {k : TypeId} (h : isPK P k = true) : ∃ el j, P.underlying k = some (.array 2 el) ∧ P.underlying el = some (.int j) ∧ sizeA P el = some 1 := by
  unfold isPK at h
  split at h
  · rename_i el hk
    split at h
    · rename_i j h1 h2; exact ⟨el, j, hk, h1, h2⟩
    · cases h
  · cases h
theorem run_part1 {P : Program} {el : TypeId} {j : IntKind} (h1 : P.underlying el = some (.int j)) (cs : Array Value) (o : Nat) (v : Value) (hv : cs[o]? = some v) (w : World) : (part el cs o).run P w = .ok v w := by
  have ha : isAggA P el = some false := by unfold isAggA; rw [h1]
  simp only [part, Sem.run_bind, run_isAgg ha, Result.andThen_ok, hv]
  simp
theorem pk_equalIn {P : Program} {k : TypeId} (h : isPK P k = true) (n : Nat) (a b c d : Int) (w : World) : (Op.equalIn (n + 1 + 1) k (pkV a b) (pkV c d)).run P w = .ok (a == c && b == d) w := by
  obtain ⟨el, j, h1, h2, h3⟩ := pk_inv h
  have p0 : ∀ a b : Int, (part el ⟨[.int .i64 a, .int .i64 b]⟩ 0).run P w = .ok (.int .i64 a) w := fun a b => run_part1 h2 _ _ _ rfl w
  have p1 : ∀ a b : Int, (part el ⟨[.int .i64 a, .int .i64 b]⟩ 1).run P w = .ok (.int .i64 b) w := fun a b => run_part1 h2 _ _ _ rfl w
  have q : ∀ a c : Int, (Op.equalIn (n + 1) el (.int .i64 a) (.int .i64 c)).run P w = .ok (a == c) w := fun a c => by simp [Op.equalIn, run_underlying h2]
  rw [Op.equalIn]
  simp only [Sem.run_bind, run_underlying h1, Result.andThen_ok, run_sizeA h3]
  simp only [Std.Legacy.Range.forIn_eq_forIn_range', Std.Legacy.Range.size, Nat.sub_zero, Nat.add_one_sub_one, Nat.div_one]
  have e : List.range' 0 2 1 = [0, 1] := rfl
  rw [e]
  simp only [List.forIn_cons, List.forIn_nil, Sem.run_bind, Nat.zero_mul, Nat.one_mul, p0, p1, Result.andThen_ok, q]
  cases (a == c)
  · rfl
  · simp only [Bool.not_true, Bool.false_eq_true, if_false, Sem.run_pure, Sem.run_bind, p1, Result.andThen_ok, q]
    cases (b == d) <;> rfl
theorem pk_equal {P : Program} {k : TypeId} (h : isPK P k = true) (a b c d : Int) (w : World) : (Op.equal k (pkV a b) (pkV c d)).run P w = .ok (a == c && b == d) w := pk_equalIn h 9998 a b c d w
theorem pk_checkIn {P : Program} {k : TypeId} (h : isPK P k = true) (n : Nat) (em : Bool) (a b : Int) (w : World) : (Instr.checkKey em (n + 1 + 1) k (pkV a b)).run P w = .ok () w := by
  obtain ⟨el, j, h1, h2, h3⟩ := pk_inv h
  have p0 : ∀ a b : Int, (part el ⟨[.int .i64 a, .int .i64 b]⟩ 0).run P w = .ok (.int .i64 a) w := fun a b => run_part1 h2 _ _ _ rfl w
  have p1 : ∀ a b : Int, (part el ⟨[.int .i64 a, .int .i64 b]⟩ 1).run P w = .ok (.int .i64 b) w := fun a b => run_part1 h2 _ _ _ rfl w
  have q : ∀ a : Int, (Instr.checkKey em (n + 1) el (.int .i64 a)).run P w = .ok () w := fun a => by rw [Instr.checkKey]; simp [run_underlying h2]
  rw [Instr.checkKey]
  simp only [Sem.run_bind, run_underlying h1, Result.andThen_ok]
  simp only [Std.Legacy.Range.forIn_eq_forIn_range', Std.Legacy.Range.size, Nat.sub_zero, Nat.add_one_sub_one, Nat.div_one]
  have e : List.range' 0 2 1 = [0, 1] := rfl
  rw [e]
  simp only [List.forIn_cons, List.forIn_nil, Sem.run_bind, run_sizeA h3, Nat.zero_mul, Nat.one_mul, p0, p1, Result.andThen_ok, q, Sem.run_pure]
theorem pk_check {P : Program} {k : TypeId} (h : isPK P k = true) (em : Bool) (a b : Int) (w : World) : (Instr.checkKey em 10000 k (pkV a b)).run P w = .ok () w := pk_checkIn h 9998 em a b w

/-- A key that is known. -/
def keyA (two : Bool) (k : AV) : Option MK :=
  match two, k with
  | true, .agg [.int .i64 a, .int .i64 b] => some (a, b)
  | false, .int .i64 a => some (a, 0)
  | _, _ => none
def keqB (k k' : MK) : Bool := k.1 == k'.1 && k.2 == k'.2
def kltB (k k' : MK) : Bool := decide (k.1 < k'.1) || (k.1 == k'.1 && decide (k.2 < k'.2))
theorem keq_iff {k k' : MK} : keqB k k' = true ↔ k = k' := by
  obtain ⟨a, b⟩ := k
  obtain ⟨c, d⟩ := k'
  simp [keqB]
/-- What stands under a key, and whether something does; z: nothing. -/
def lookS (k : MK) (z : AV) : List (MK × AV) → AV × Bool
  | [] => (z, false)
  | e :: es => (mergeAV (keqB k e.1) e.2 (lookS k z es).1, bif keqB k e.1 then true else (lookS k z es).2)
def insS (k : MK) (v : AV) : List (MK × AV) → List (MK × AV)
  | [] => [(k, v)]
  | e :: es => bif kltB k e.1 then (k, v) :: e :: es else e :: insS k v es
def updS (k : MK) (v : AV) (e : MK × AV) : MK × AV := bif keqB k e.1 then (k, v) else e
/-- .. with something put under a key. -/
def putS (k : MK) (v : AV) (es : List (MK × AV)) : List (MK × AV) := bif es.any (fun e => keqB k e.1) then es.map (updS k v) else insS k v es

theorem lookS_hit {m : List Nat} {k : MK} {z : AV} : ∀ {es : List (MK × AV)} {e : MK × AV}, e ∈ es → e.1 = k → (es.map Prod.fst).Nodup → (lookS k z es).2 = true ∧ ∀ V, R m e.2 V → R m (lookS k z es).1 V
  | e' :: es, e, he, hk, hn => by
    simp only [List.map_cons, List.nodup_cons] at hn
    unfold lookS
    cases hb : keqB k e'.1 with
    | true =>
      have ek := keq_iff.1 hb
      refine ⟨rfl, fun V hV => R_merge _ _ (fun _ => ?_) (fun h => by cases h)⟩
      rcases List.mem_cons.1 he with rfl | he
      · exact hV
      · exact absurd (List.mem_map.2 ⟨e, he, by rw [hk, ek]⟩) hn.1
    | false =>
      rcases List.mem_cons.1 he with rfl | he
      · rw [← hk] at hb
        rw [keq_iff.2 rfl] at hb; cases hb
      · obtain ⟨h1, h2⟩ := lookS_hit (m := m) (z := z) he hk hn.2
        exact ⟨h1, fun V hV => R_merge _ _ (fun h => by cases h) (fun _ => h2 V hV)⟩
theorem lookS_miss {m : List Nat} {k : MK} {z : AV} : ∀ {es : List (MK × AV)}, (∀ e ∈ es, e.1 ≠ k) → (lookS k z es).2 = false ∧ ∀ Z, R m z Z → R m (lookS k z es).1 Z
  | [], _ => ⟨rfl, fun _ h => h⟩
  | e' :: es, h => by
    obtain ⟨h1, h2⟩ := lookS_miss (m := m) (k := k) (z := z) (es := es) fun e he => h e (List.mem_cons_of_mem _ he)
    have hb : keqB k e'.1 = false := by
      cases hb : keqB k e'.1 with
      | false => rfl
      | true => exact absurd (keq_iff.1 hb).symm (h e' (List.mem_cons_self ..))
    unfold lookS
    rw [hb]
    exact ⟨h1, fun Z hZ => R_merge _ _ (fun h => by cases h) (fun _ => h2 Z hZ)⟩
/-- What the model's search finds. -/
def fndL (k : MK) : List (MK × AV) → List MapEntry → Nat → Option (Nat × Value)
  | (k', _) :: l, e :: es, i => bif keqB k k' then some (i, e.val) else fndL k l es (i + 1)
  | _, _, _ => none
theorem asking_eq {P : Program} {kt : TypeId} (hk : isPK P kt = true) {m : List Nat} (k : MK) : ∀ (es : List (MK × AV)) (ess : List MapEntry) (i : Nat) (w : World), RE m true es ess →
    (Instr.findAsking kt (keyV true k) ess i).run P w = .ok (fndL k es ess i) w
  | [], ess, i, w, hR => by
    simp only [RE] at hR
    subst hR
    simp [Instr.findAsking, fndL]
  | (k', vA) :: es, ess, i, w, hR => by
    obtain ⟨e, es', rfl, hkey, hval, hrest⟩ := hR
    have hq : (Op.equal kt (keyV true k) e.key).run P w = .ok (keqB k k') w := by rw [hkey]; exact pk_equal hk k.1 k.2 k'.1 k'.2 w
    simp only [Instr.findAsking, Sem.run_bind, hq, Result.andThen_ok]
    unfold fndL
    cases keqB k k'
    · simpa using asking_eq hk k es es' (i + 1) w hrest
    · simp
theorem now_eq {j : IntKind} {m : List Nat} (k : MK) (hk : k.2 = 0) : ∀ (es : List (MK × AV)) (ess : List MapEntry) (i : Nat), RE m false es ess → (∀ e ∈ es, e.1.2 = 0) → Instr.findNow (.int j) (keyV false k) ess i = some (fndL k es ess i)
  | [], ess, i, hR, _ => by
    simp only [RE] at hR
    subst hR
    simp [Instr.findNow, fndL]
  | (k', vA) :: es, ess, i, hR, h0 => by
    obtain ⟨e, es', rfl, hkey, hval, hrest⟩ := hR
    have hk' : k'.2 = 0 := h0 _ (List.mem_cons_self ..)
    have hs : Instr.sameNow (.int j) (keyV false k) e.key = some (keqB k k') := by
      rw [hkey]
      simp [keyV, Instr.sameNow, keqB, hk, hk']
    unfold Instr.findNow
    rw [hs]
    unfold fndL
    cases keqB k k'
    · exact now_eq k hk es es' (i + 1) hrest fun e he => h0 e (List.mem_cons_of_mem _ he)
    · rfl
theorem mapT_inv {P : Program} {t el : TypeId} {two : Bool} (h : mapT P t = some (two, el)) : ∃ k, P.underlying t = some (.map k el) ∧ ((two = true ∧ isPK P k = true) ∨ (two = false ∧ ∃ j, P.underlying k = some (.int j))) := by
  unfold mapT at h
  split at h
  · rename_i k el' hu
    cases hk : isPK P k with
    | false =>
      rw [hk] at h
      simp only [cond_false] at h
      split at h
      · rename_i j hj; cases h; exact ⟨k, hu, .inr ⟨rfl, j, hj⟩⟩
      · cases h
    | true => rw [hk] at h; cases h; exact ⟨k, hu, .inl ⟨rfl, hk⟩⟩
  · cases h
theorem find_eq {P : Program} {kt : TypeId} {two : Bool} (hk : (two = true ∧ isPK P kt = true) ∨ (two = false ∧ ∃ j, P.underlying kt = some (.int j))) {m : List Nat} {k : MK} (h0 : two = false → k.2 = 0) {es : List (MK × AV)} {ess : List MapEntry} (hR : RE m two es ess) (hz : two = false → ∀ e ∈ es, e.1.2 = 0) (w : World) :
    (Instr.findKey kt (keyV two k) ess).run P w = .ok (fndL k es ess 0) w := by
  rcases hk with ⟨rfl, hk⟩ | ⟨rfl, j, hj⟩
  · obtain ⟨el, j, h1, -, -⟩ := pk_inv hk
    have ha := asking_eq hk k es ess 0 w hR
    simp only [Instr.findKey, Sem.run_bind, run_underlying h1, Result.andThen_ok]
    cases ess with
    | nil =>
      cases es with
      | nil => simp [Instr.findNow, fndL]
      | cons e es => obtain ⟨_, _, h, _⟩ := hR; cases h
    | cons e es' => simpa [Instr.findNow, Instr.sameNow] using ha
  · have hn := now_eq (j := j) k (h0 rfl) es ess 0 hR (hz rfl)
    simp only [Instr.findKey, Sem.run_bind, run_underlying hj, Result.andThen_ok, hn, Sem.run_pure]
theorem check_ok {P : Program} {kt : TypeId} {two : Bool} (hk : (two = true ∧ isPK P kt = true) ∨ (two = false ∧ ∃ j, P.underlying kt = some (.int j))) (k : MK) (em : Bool) (w : World) : (Instr.checkKey em 10000 kt (keyV two k)).run P w = .ok () w := by
  rcases hk with ⟨rfl, hk⟩ | ⟨rfl, j, hj⟩
  · exact pk_check hk em k.1 k.2 w
  · show (Instr.checkKey em (9999 + 1) kt (keyV false k)).run P w = _
    rw [Instr.checkKey]
    simp only [Sem.run_bind, run_underlying hj, Result.andThen_ok]
    rfl
theorem fndL_hit {m : List Nat} {two : Bool} {k : MK} : ∀ {es : List (MK × AV)} {ess : List MapEntry} (i : Nat), RE m two es ess → (∃ e ∈ es, e.1 = k) → ∃ j e V me, fndL k es ess i = some (i + j, V) ∧ es[j]? = some e ∧ e.1 = k ∧ R m e.2 V ∧ ess[j]? = some me ∧ me.key = keyV two k
  | [], _, _, _, h => by obtain ⟨e, he, _⟩ := h; cases he
  | (k', vA) :: es, ess, i, hR, h => by
    obtain ⟨e, es', rfl, hkey, hval, hrest⟩ := hR
    unfold fndL
    cases hb : keqB k k' with
    | true =>
      have ek := keq_iff.1 hb
      subst ek
      exact ⟨0, (k, vA), e.val, e, rfl, rfl, rfl, hval, rfl, hkey⟩
    | false =>
      have h' : ∃ e ∈ es, e.1 = k := by
        obtain ⟨e1, he, h1⟩ := h
        rcases List.mem_cons.1 he with rfl | he
        · rw [← h1, keq_iff.2 rfl] at hb; cases hb
        · exact ⟨e1, he, h1⟩
      obtain ⟨j, e1, V, me, h1, h2, h3, h4, h5, h6⟩ := fndL_hit (i + 1) hrest h'
      exact ⟨j + 1, e1, V, me, by simp only [cond_false]; rw [h1]; congr 2; omega, by simpa using h2, h3, h4, by simpa using h5, h6⟩
theorem fndL_miss {m : List Nat} {two : Bool} {k : MK} : ∀ {es : List (MK × AV)} {ess : List MapEntry} (i : Nat), RE m two es ess → (∀ e ∈ es, e.1 ≠ k) → fndL k es ess i = none
  | [], _, _, _, _ => by simp [fndL]
  | (k', vA) :: es, ess, i, hR, h => by
    obtain ⟨e, es', rfl, hkey, hval, hrest⟩ := hR
    unfold fndL
    have hb : keqB k k' = false := by
      cases hb : keqB k k' with
      | false => rfl
      | true => exact absurd (keq_iff.1 hb).symm (h (k', vA) (List.mem_cons_self ..))
    rw [hb]
    exact fndL_miss (i + 1) hrest fun e he => h e (List.mem_cons_of_mem _ he)
/-- A look into a map. -/
def lookupAt (P : Program) (B : Option AB) (t : TypeId) (k : AV) (ok : Bool) : Option AV :=
  match mapT P t, B with
  | some (two, el), some (.map two' es) =>
    match keyA two k, zeroA P el with
    | some k, some z => bif two == two' then some (bif ok then .tup [(lookS k z es).1, .bool (lookS k z es).2] else (lookS k z es).1) else none
    | _, _ => none
  | _, _ => none
def lookupA (P : Program) (H : List AB) (t : TypeId) (x k : AV) (ok : Bool) : Option AV :=
  match x with
  | .map i => lookupAt P H[i]? t k ok
  | _ => none
theorem keyA_ok {m : List Nat} {two : Bool} {k : AV} {k' : MK} {K : Value} (h : keyA two k = some k') (hk : R m k K) : K = keyV two k' ∧ (two = false → k'.2 = 0) := by
  unfold keyA at h
  split at h
  · rename_i a b
    cases h
    simp only [R] at hk
    obtain ⟨Vs, hE, hV⟩ := hk
    obtain ⟨X, _, e1, hx, e2⟩ := RL_cons.1 hV
    obtain ⟨Y, _, e3, hy, e4⟩ := RL_cons.1 e2
    rw [RL_nil.1 e4] at e3
    simp only [R] at hx hy
    exact ⟨by rw [hE, e1, e3, hx, hy]; rfl, fun h => by cases h⟩
  · cases h
    simp only [R] at hk
    exact ⟨hk, fun _ => rfl⟩
  · cases h
theorem lookupA_ok {P : Program} {m : List Nat} {H : List AB} {w : World} (hH : HR m H w) {t : TypeId} {x k v : AV} {ok : Bool} {X K : Value} (hx : R m x X) (hk : R m k K) (h : lookupA P H t x k ok = some v) :
    ∃ V, R m v V ∧ (Instr.lookup t X K ok).run P w = .ok V w := by
  unfold lookupA at h
  split at h
  · rename_i i
    unfold lookupAt at h
    split at h
    · rename_i two el two' es hm hes
      split at h
      · rename_i k' z hka hz
        cases htw : (two == two') with
        | false => rw [htw] at h; cases h
        | true =>
        rw [htw] at h
        have htw : two = two' := by simpa using htw
        subst htw
        cases h
        obtain ⟨kt, hu, hpk⟩ := mapT_inv hm
        simp only [R] at hx
        obtain ⟨bl, hbl, rfl⟩ := hx
        obtain ⟨rfl, hk0⟩ := keyA_ok hka hk
        obtain ⟨b', o, h1, h2, h3⟩ := hH.at_ i hes
        rw [hbl] at h1; cases h1
        obtain ⟨ess, clock, es', rfl, hperm, hre, hnd, hz0⟩ := h3
        obtain ⟨Z, hZ, hRZ⟩ := run_zeroA hz m
        have hz0' : two = false → ∀ e ∈ es', e.1.2 = 0 := fun h e he => hz0 h e (hperm.mem_iff.1 he)
        have hfind := find_eq (P := P) hpk (k := k') hk0 hre hz0' w
        have hg := MapKept.run_getObj_map (P := P) h2
        by_cases hhit : ∃ e ∈ es', e.1 = k'
        · obtain ⟨j, e, V, me, q1, q2, q3, q4, -⟩ := fndL_hit 0 hre hhit
          obtain ⟨l1, l2⟩ := lookS_hit (m := m) (z := z) (hperm.mem_iff.1 (List.mem_of_getElem? q2)) q3 hnd
          rw [q1] at hfind
          refine ⟨if ok then .tuple #[V, .bool true] else V, ?_, ?_⟩
          · rw [l1]
            cases ok
            · exact l2 V q4
            · simp only [R, if_true, cond_true]; exact ⟨_, rfl, RL.cons (l2 V q4) (RL.cons (by simp only [R]) (RL_nil.2 rfl))⟩
          · simp only [Instr.lookup, Sem.run_bind, run_underlying hu, Result.andThen_ok, hg, Sem.run_pure, check_ok hpk, hfind]
        · have hmiss : ∀ e ∈ es', e.1 ≠ k' := fun e he h => hhit ⟨e, he, h⟩
          rw [fndL_miss 0 hre hmiss] at hfind
          obtain ⟨l1, l2⟩ := lookS_miss (m := m) (k := k') (z := z) (es := es) fun e he => hmiss e (hperm.mem_iff.2 he)
          refine ⟨if ok then .tuple #[Z, .bool false] else Z, ?_, ?_⟩
          · rw [l1]
            cases ok
            · exact l2 Z hRZ
            · simp only [R, if_true, cond_true]; exact ⟨_, rfl, RL.cons (l2 Z hRZ) (RL.cons (by simp only [R]) (RL_nil.2 rfl))⟩
          · simp only [Instr.lookup, Sem.run_bind, run_underlying hu, Result.andThen_ok, hg, Sem.run_pure, check_ok hpk, hfind, hZ]
      · cases h
    · cases h
  · cases h

/-! ### What is put -/
theorem insS_perm (k : MK) (v : AV) : ∀ es : List (MK × AV), (insS k v es).Perm ((k, v) :: es)
  | [] => List.Perm.refl _
  | e :: es => by
    unfold insS
    cases kltB k e.1
    · exact ((insS_perm k v es).cons e).trans (List.Perm.swap _ _ _)
    · exact List.Perm.refl _
theorem any_iff {k : MK} {es : List (MK × AV)} : es.any (fun e => keqB k e.1) = true ↔ ∃ e ∈ es, e.1 = k := by
  simp only [List.any_eq_true]
  exact ⟨fun ⟨e, he, h⟩ => ⟨e, he, (keq_iff.1 h).symm⟩, fun ⟨e, he, h⟩ => ⟨e, he, keq_iff.2 h.symm⟩⟩
theorem updS_fst (k : MK) (v : AV) (e : MK × AV) : (updS k v e).1 = e.1 := by
  unfold updS
  cases hb : keqB k e.1
  · rfl
  · exact keq_iff.1 hb
theorem map_updS_keys (k : MK) (v : AV) (es : List (MK × AV)) : (es.map (updS k v)).map Prod.fst = es.map Prod.fst := by
  rw [List.map_map]
  exact List.map_congr_left fun e _ => updS_fst k v e
theorem putS_nodup {k : MK} {v : AV} {es : List (MK × AV)} (h : (es.map Prod.fst).Nodup) : ((putS k v es).map Prod.fst).Nodup := by
  unfold putS
  cases hb : es.any (fun e => keqB k e.1) with
  | true => rw [cond_true, map_updS_keys]; exact h
  | false =>
    rw [cond_false, ((insS_perm k v es).map Prod.fst).nodup_iff, List.map_cons, List.nodup_cons]
    refine ⟨fun hm => ?_, h⟩
    obtain ⟨e, he, hk⟩ := List.mem_map.1 hm
    rw [any_iff.2 ⟨e, he, hk⟩] at hb; cases hb
theorem putS_zero {k : MK} {v : AV} {es : List (MK × AV)} (hk : k.2 = 0) (h : ∀ e ∈ es, e.1.2 = 0) : ∀ e ∈ putS k v es, e.1.2 = 0 := by
  unfold putS
  cases hb : es.any (fun e => keqB k e.1) with
  | true =>
    rw [cond_true]
    intro e he
    obtain ⟨e', he', rfl⟩ := List.mem_map.1 he
    rw [updS_fst]; exact h e' he'
  | false =>
    rw [cond_false]
    intro e he
    rcases List.mem_cons.1 ((insS_perm k v es).mem_iff.1 he) with rfl | he
    · exact hk
    · exact h e he
theorem map_upd_set {k : MK} {v : AV} : ∀ {es : List (MK × AV)} {j : Nat} {e : MK × AV}, (es.map Prod.fst).Nodup → es[j]? = some e → e.1 = k → es.map (updS k v) = es.set j (k, v)
  | [], j, e, _, h, _ => by simp at h
  | e' :: es, 0, e, hn, h, hk => by
    simp at h
    subst h
    simp only [List.map_cons, List.nodup_cons] at hn
    have h1 : updS k v e' = (k, v) := by unfold updS; rw [keq_iff.2 hk.symm]; rfl
    have h2 : es.map (updS k v) = es := by
      conv => rhs; rw [← List.map_id es]
      refine List.map_congr_left fun e2 he => ?_
      unfold updS
      cases hb : keqB k e2.1 with
      | false => rfl
      | true => exact absurd (List.mem_map.2 ⟨e2, he, by rw [← keq_iff.1 hb, hk]⟩) hn.1
    simp [h1, h2]
  | e' :: es, j + 1, e, hn, h, hk => by
    simp only [List.map_cons, List.nodup_cons] at hn
    have h1 : updS k v e' = e' := by
      unfold updS
      cases hb : keqB k e'.1 with
      | false => rfl
      | true =>
        simp at h
        exact absurd (List.mem_map.2 ⟨e, List.mem_of_getElem? h, by rw [hk, keq_iff.1 hb]⟩) hn.1
    simp only [List.map_cons, List.set_cons_succ, h1]
    rw [map_upd_set hn.2 (by simpa using h) hk]
theorem RE_set {m : List Nat} {two : Bool} {k : MK} {v : AV} {V : Value} (hv : R m v V) : ∀ {es : List (MK × AV)} {ess : List MapEntry} (j : Nat), RE m two es ess → RE m two (es.set j (k, v)) (ess.modify j fun e => { e with key := keyV two k, val := V })
  | [], ess, j, h => by
    simp only [RE] at h
    subst h
    simp [RE]
  | (k', v') :: es, ess, 0, h => by
    obtain ⟨e, es', rfl, h1, h2, h3⟩ := h
    exact ⟨_, es', rfl, rfl, hv, h3⟩
  | (k', v') :: es, ess, j + 1, h => by
    obtain ⟨e, es', rfl, h1, h2, h3⟩ := h
    exact ⟨e, _, rfl, h1, h2, RE_set hv j h3⟩
theorem RE_push {m : List Nat} {two : Bool} {k : MK} {v : AV} {V : Value} (hv : R m v V) (born : Nat) : ∀ {es : List (MK × AV)} {ess : List MapEntry}, RE m two es ess → RE m two (es ++ [(k, v)]) (ess ++ [{ key := keyV two k, val := V, born := born }])
  | [], ess, h => by
    simp only [RE] at h
    subst h
    exact ⟨_, [], rfl, rfl, hv, rfl⟩
  | (k', v') :: es, ess, h => by
    obtain ⟨e, es', rfl, h1, h2, h3⟩ := h
    exact ⟨e, _, rfl, h1, h2, RE_push hv born h3⟩
theorem keeps (two : Bool) (k : MK) {P : Program} (w : World) : (Instr.keyThatStays (keyV two k) (keyV two k)).run P w = .ok (keyV two k) w := by
  have h : Instr.sameBits 10000 (keyV two k) (keyV two k) = true := by
    show Instr.sameBits (9998 + 1 + 1) (keyV two k) (keyV two k) = true
    cases two <;> simp [keyV, Instr.sameBits]
  unfold Instr.keyThatStays
  rw [if_pos h]
  rfl
/-- A map in which something is put. -/
def mapPutAt (P : Program) (B : Option AB) (t : TypeId) (k v : AV) : Option AB :=
  match mapT P t, B with
  | some (two, _), some (.map two' es) =>
    match keyA two k with
    | some k => bif two == two' then some (.map two (putS k v es)) else none
    | none => none
  | _, _ => none
def mapPutA (P : Program) (H : List AB) (t : TypeId) (x k v : AV) : Option (List AB) :=
  match x with
  | .map i =>
    match mapPutAt P H[i]? t k v with
    | some B => some (H.set i B)
    | none => none
  | _ => none
theorem mapPutA_ok {P : Program} {m : List Nat} {H H' : List AB} {w : World} (hH : HR m H w) {t : TypeId} {x k v : AV} {X K V : Value} (hx : R m x X) (hk : R m k K) (hv : R m v V) (h : mapPutA P H t x k v = some H') :
    ∃ w', (Instr.mapUpdate t X K V).run P w = .ok () w' ∧ HR m H' w' ∧ Ext m w m w' := by
  unfold mapPutA at h
  split at h
  · rename_i i
    split at h
    · rename_i B hB
      cases h
      unfold mapPutAt at hB
      split at hB
      · rename_i two el two' es hm hes
        split at hB
        · rename_i k' hka
          cases htw : (two == two') with
          | false => rw [htw] at hB; cases hB
          | true =>
          rw [htw] at hB
          have htw : two = two' := by simpa using htw
          subst htw
          cases hB
          obtain ⟨kt, hu, hpk⟩ := mapT_inv hm
          simp only [R] at hx
          obtain ⟨bl, hbl, rfl⟩ := hx
          obtain ⟨rfl, hk0⟩ := keyA_ok hka hk
          obtain ⟨b', o, h1, h2, h3⟩ := hH.at_ i hes
          rw [hbl] at h1; cases h1
          obtain ⟨ess, clock, es', rfl, hperm, hre, hnd, hz0⟩ := h3
          have hz0' : two = false → ∀ e ∈ es', e.1.2 = 0 := fun h e he => hz0 h e (hperm.mem_iff.1 he)
          have hnd' : (es'.map Prod.fst).Nodup := (hperm.map Prod.fst).nodup_iff.2 hnd
          have hfind := find_eq (P := P) hpk (k := k') hk0 hre hz0' w
          have hg := MapKept.run_getObj_map (P := P) h2
          have hlt : bl < w.heap.size := (Array.getElem?_eq_some_iff.1 h2).1
          have fin : ∀ (es1 : List (MK × AV)) (ess1 : List MapEntry) (clock1 : Nat), es1.Perm (putS k' v es) → RE m two es1 ess1 → HR m (H.set i (.map two (putS k' v es))) { w with heap := w.heap.setIfInBounds bl (.map ⟨ess1⟩ clock1) } ∧ Ext m w m { w with heap := w.heap.setIfInBounds bl (.map ⟨ess1⟩ clock1) } := by
            intro es1 ess1 clock1 hp1 hR1
            have hheap : ({ w with heap := w.heap.setIfInBounds bl (.map ⟨ess1⟩ clock1) } : World).heap[bl]? = some (.map ⟨ess1⟩ clock1) := by
              simp [hlt]
            have hrest : ∀ j, j ≠ bl → ({ w with heap := w.heap.setIfInBounds bl (.map ⟨ess1⟩ clock1) } : World).heap[j]? = w.heap[j]? := fun j hj => by
              simp [Ne.symm hj]
            exact ⟨hH.put hbl hes rfl (B := .map two (putS k' v es)) (o := .map ⟨ess1⟩ clock1) ⟨ess1, clock1, es1, rfl, hp1, hR1, putS_nodup hnd, fun h => putS_zero (hk0 h) (hz0 h)⟩ trivial hheap hrest, (Ext.refl m w).put hbl (by simp) rfl rfl rfl hrest⟩
          by_cases hhit : ∃ e ∈ es', e.1 = k'
          · obtain ⟨j, e, U, me, q1, q2, q3, q4, q5, q6⟩ := fndL_hit 0 hre hhit
            rw [q1, Nat.zero_add] at hfind
            have hput : (es'.set j (k', v)).Perm (putS k' v es) := by
              rw [← map_upd_set (v := v) hnd' q2 q3]
              have ha : es.any (fun e => keqB k' e.1) = true := any_iff.2 ⟨e, hperm.mem_iff.1 (List.mem_of_getElem? q2), q3⟩
              unfold putS
              rw [ha, cond_true]
              exact hperm.map _
            obtain ⟨f1, f2⟩ := fin _ _ clock hput (RE_set hv j hre)
            refine ⟨_, ?_, f1, f2⟩
            have ej : (((⟨ess⟩ : Array MapEntry)[j]?).map (·.key)).getD (keyV two k') = keyV two k' := by
              have : (⟨ess⟩ : Array MapEntry)[j]? = some me := by simpa using q5
              rw [this]; simpa using q6
            simp only [Instr.mapUpdate, Sem.run_bind, run_underlying hu, Result.andThen_ok, hg, check_ok hpk, hfind, ej, keeps, MapKept.run_setObj_map _ h2]
            have em : (⟨ess⟩ : Array MapEntry).modify j (fun e => { e with key := keyV two k', val := V }) = ⟨ess.modify j fun e => { e with key := keyV two k', val := V }⟩ := Array.toList_inj.1 (by simp)
            rw [em]
          · have hmiss : ∀ e ∈ es', e.1 ≠ k' := fun e he h => hhit ⟨e, he, h⟩
            rw [fndL_miss 0 hre hmiss] at hfind
            have hput : (es' ++ [(k', v)]).Perm (putS k' v es) := by
              have ha : es.any (fun e => keqB k' e.1) = false := by
                cases ha : es.any (fun e => keqB k' e.1) with
                | false => rfl
                | true =>
                  obtain ⟨e, he, hk⟩ := any_iff.1 ha
                  exact absurd hk (hmiss e (hperm.mem_iff.2 he))
              unfold putS
              rw [ha, cond_false]
              exact (List.perm_append_singleton _ _).trans ((hperm.cons _).trans (insS_perm k' v es).symm)
            obtain ⟨f1, f2⟩ := fin _ _ (clock + 1) hput (RE_push hv clock hre)
            refine ⟨_, ?_, f1, f2⟩
            simp only [Instr.mapUpdate, Sem.run_bind, run_underlying hu, Result.andThen_ok, hg, check_ok hpk, hfind, MapKept.run_setObj_map _ h2]
            have em : (⟨ess⟩ : Array MapEntry).push { key := keyV two k', val := V, born := clock } = ⟨ess ++ [{ key := keyV two k', val := V, born := clock }]⟩ := Array.toList_inj.1 (by simp)
            rw [em]
        · cases hB
      · cases hB
    · cases h
  · cases h
/-! ### Two that put under two keys change places -/
theorem insS_comm {k k' : MK} {v v' : AV} (h : k ≠ k') : ∀ es : List (MK × AV), insS k v (insS k' v' es) = insS k' v' (insS k v es) := by
  have tot : kltB k k' = true ∧ kltB k' k = false ∨ kltB k k' = false ∧ kltB k' k = true := by
    obtain ⟨a, b⟩ := k
    obtain ⟨c, d⟩ := k'
    simp only [kltB, Bool.or_eq_true, Bool.or_eq_false_iff, Bool.and_eq_true, Bool.and_eq_false_iff, decide_eq_true_eq, decide_eq_false_iff_not, beq_iff_eq, beq_eq_false_iff_ne, ne_eq]
    simp only [Prod.mk.injEq, ne_eq] at h
    omega
  have trans : ∀ {x y z : MK}, kltB x y = true → kltB y z = true → kltB x z = true := by
    rintro ⟨a, b⟩ ⟨c, d⟩ ⟨e, f⟩
    simp only [kltB, Bool.or_eq_true, Bool.and_eq_true, decide_eq_true_eq, beq_iff_eq]
    omega
  intro es
  induction es with
  | nil =>
    rcases tot with ⟨h1, h2⟩ | ⟨h1, h2⟩ <;> simp [insS, h1, h2]
  | cons e es ih =>
    have ic : ∀ (q : MK) (u : AV) (e : MK × AV) (es : List (MK × AV)), insS q u (e :: es) = bif kltB q e.1 then (q, u) :: e :: es else e :: insS q u es := fun _ _ _ _ => rfl
    rw [ic k', ic k]
    cases a : kltB k' e.1 <;> cases b : kltB k e.1
    · simp only [cond_false, ic, a, b, ih]
    · have c1 : kltB k' k = false := by
        cases hc : kltB k' k with
        | false => rfl
        | true => rw [trans hc b] at a; cases a
      simp only [ic, a, b, c1, cond_true, cond_false]
    · have c1 : kltB k k' = false := by
        cases hc : kltB k k' with
        | false => rfl
        | true => rw [trans hc a] at b; cases b
      simp only [ic, a, b, c1, cond_true, cond_false]
    · rcases tot with ⟨h1, h2⟩ | ⟨h1, h2⟩ <;> simp only [ic, a, b, h1, h2, cond_true, cond_false]
theorem any_putS {k k' : MK} {v : AV} (h : k ≠ k') (es : List (MK × AV)) : (putS k v es).any (fun e => keqB k' e.1) = es.any (fun e => keqB k' e.1) := by
  have key : (∃ e ∈ putS k v es, e.1 = k') ↔ ∃ e ∈ es, e.1 = k' := by
    unfold putS
    cases hb : es.any (fun e => keqB k e.1) with
    | true =>
      rw [cond_true]
      constructor
      · rintro ⟨e, he, hk⟩
        obtain ⟨e', he', rfl⟩ := List.mem_map.1 he
        exact ⟨e', he', by rw [← hk, updS_fst]⟩
      · rintro ⟨e, he, hk⟩
        exact ⟨_, List.mem_map.2 ⟨e, he, rfl⟩, by rw [updS_fst]; exact hk⟩
    | false =>
      rw [cond_false]
      constructor
      · rintro ⟨e, he, hk⟩
        rcases List.mem_cons.1 ((insS_perm k v es).mem_iff.1 he) with rfl | he
        · exact absurd hk h
        · exact ⟨e, he, hk⟩
      · rintro ⟨e, he, hk⟩
        exact ⟨e, (insS_perm k v es).mem_iff.2 (List.mem_cons_of_mem _ he), hk⟩
  rw [Bool.eq_iff_iff, any_iff, any_iff]
  exact key
theorem upd_ins {k k' : MK} {v v' : AV} (h : k ≠ k') : ∀ es : List (MK × AV), (insS k' v' es).map (updS k v) = insS k' v' (es.map (updS k v))
  | [] => by
    have : keqB k k' = false := by
      cases hb : keqB k k' with
      | false => rfl
      | true => exact absurd (keq_iff.1 hb) h
    simp [insS, updS, this]
  | e :: es => by
    have hq : keqB k k' = false := by
      cases hb : keqB k k' with
      | false => rfl
      | true => exact absurd (keq_iff.1 hb) h
    simp only [insS, List.map_cons]
    rw [updS_fst]
    cases kltB k' e.1
    · simp only [cond_false, List.map_cons]
      rw [upd_ins h es]
    · have : updS k v (k', v') = (k', v') := by unfold updS; rw [hq]; rfl
      simp only [cond_true, List.map_cons, this]
theorem putS_comm {k k' : MK} {v v' : AV} (h : k ≠ k') (es : List (MK × AV)) : putS k v (putS k' v' es) = putS k' v' (putS k v es) := by
  have e1 := any_putS (v := v') (Ne.symm h) es
  have e2 := any_putS (v := v) h es
  have pe : ∀ (q : MK) (u : AV) (es : List (MK × AV)), putS q u es = bif es.any (fun e => keqB q e.1) then es.map (updS q u) else insS q u es := fun _ _ _ => rfl
  rw [pe k v (putS k' v' es), e1, pe k' v' (putS k v es), e2, pe k' v' es, pe k v es]
  cases es.any (fun e => keqB k e.1) <;> cases es.any (fun e => keqB k' e.1)
  · simp only [cond_false]; exact insS_comm h es
  · simp only [cond_false, cond_true]; exact (upd_ins (Ne.symm h) es).symm
  · simp only [cond_false, cond_true]; exact upd_ins h es
  · simp only [cond_true, List.map_map]
    refine List.map_congr_left fun e _ => ?_
    simp only [Function.comp]
    have q1 : keqB k k' = false := by
      cases hb : keqB k k' with
      | false => rfl
      | true => exact absurd (keq_iff.1 hb) h
    have q2 : keqB k' k = false := by
      cases hb : keqB k' k with
      | false => rfl
      | true => exact absurd (keq_iff.1 hb).symm h
    unfold updS
    cases a : keqB k e.1 with
    | false => cases b : keqB k' e.1 <;> simp only [cond_true, cond_false, a, b, q1]
    | true =>
      cases b : keqB k' e.1 with
      | false => simp only [cond_true, cond_false, a, q2]
      | true =>
        have e1 := keq_iff.1 a
        have e2 := keq_iff.1 b
        exact absurd (e1.trans e2.symm) h
/-- A new map. -/
theorem HR.pushMap (two : Bool) {m : List Nat} {H : List AB} {w : World} (h : HR m H w) : HR (m ++ [w.heap.size]) (H ++ [.map two []]) (w.alloc (.map #[] 0)) := by
  refine h.grow rfl (fun i k A hk hA hl => ?_) ?_ ?_ ?_
  · have := h.lt hk hA hl
    show (w.heap.push _)[k]? = _
    rw [Array.getElem?_push, if_neg (by omega)]
  · intro j b B h1 _ _ i A h2 h3 h4
    have := h.lt h2 h3 h4
    cases j with
    | zero => simp at h1; omega
    | succ j => simp at h1
  · intro i j b B C h1 h2 _ _ _ _
    cases i with
    | zero =>
      cases j with
      | zero => rfl
      | succ j => simp at h2
    | succ i => simp at h1
  · intro j B hB' _
    cases j with
    | zero =>
      simp at hB'
      subst hB'
      exact ⟨w.heap.size, .map #[] 0, rfl, by show (w.heap.push _)[w.heap.size]? = _; rw [Array.getElem?_push, if_pos rfl], ⟨[], 0, [], rfl, List.Perm.refl _, rfl, by simp, fun _ e he => by cases he⟩, trivial⟩
    | succ j => simp at hB'
theorem newMap_ok (two : Bool) {P : Program} {m : List Nat} {H : List AB} {w : World} (hH : HR m H w) (t : TypeId) :
    (Instr.makeMap t none).run P w = .ok (.map (some w.heap.size)) (w.alloc (.map #[] 0)) ∧ HR (m ++ [w.heap.size]) (H ++ [.map two []]) (w.alloc (.map #[] 0)) ∧ Ext m w (m ++ [w.heap.size]) (w.alloc (.map #[] 0)) ∧ (m ++ [w.heap.size])[H.length]? = some w.heap.size :=
  ⟨by simp [Instr.makeMap, newObj, Sem.run], hH.pushMap two, (Ext.refl m w).push _, by rw [← hH.len]; simp⟩
#print axioms mapPutA_ok
#print axioms newMap_ok
end Go.Proofs.Ytlkclpkpggapbaa.Ae
