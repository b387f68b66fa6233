/- The interpreter's operations, with and without memory, are the model's. Conditions: none. -/
import Derived.Test.YtlkclpkpggapbaaAe2
namespace Go.Proofs.Ytlkclpkpggapbaa.Ae
open Go

section
variable {ρ : Type}

/-- A bound of a slice expression. -/
def abound (x : Option AV) (dflt top : Nat) (K : Nat → Option ρ) : Option ρ :=
  match x with
  | none => K dflt
  | some (.int _ i) => bif decide (0 ≤ i) && decide (i ≤ (top : Int)) then K i.toNat else none
  | some _ => none

/-- Operations whose answer hangs on their operands alone. -/
def apure (P : Program) (e : Operand → AV) (o : Op) (K : AV → Option ρ) : Option ρ :=
  match o with
  | .move x => K (e x)
  | .assign x => K (e x)
  | .pick c a b =>
    match e c with
    | .bool c =>
      match e a, e b with
      | .bool x, .bool y => K (.bool (bif c then x else y))
      | va, vb => bif c then K va else K vb
    | _ => none
  | .build t parts =>
    match zeroA P t, P.underlying t with
    | some z, some (.struct fs) =>
      match cellsOf? z with
      | some zc =>
        match fillA (fun i => (fs[i]?).bind fun f => (sizeA P f.type).map fun n => (f.offset, n)) zc (parts.toList.map fun (i, x) => (i, e x)) with
        | some cs => bif fs.all (fun f => (sizeA P f.type).isSome) then K (.agg cs) else none
        | none => none
      | none => none
    | some z, some (.array _ el) =>
      match cellsOf? z, sizeA P el with
      | some zc, some n =>
        match fillA (fun i => some (i * n, n)) zc (parts.toList.map fun (i, x) => (i, e x)) with
        | some cs => K (.agg cs)
        | none => none
      | _, _ => none
    | _, _ => none
  | .nilCheck x =>
    match e x with
    | .ptr i o => K (.ptr i o)
    | .fn f c => K (.fn f c)
    | _ => none
  | .binOp op t x y _ => abin P op t (e x) (e y) K
  | .unOp op _ x =>
    match aun op (e x) with
    | some v => K v
    | none => none
  | .convert src dst x =>
    match (P.underlying src).isSome, P.underlying dst, e x with
    | true, some (.int k), .int _ n => K (.int k (wr k n))
    | true, some .string, .str s => K (.str s)
    | _, _, _ => none
  | .makeFunc (.func f) first cap => bif first.isEmpty then K (.fn f (cap.toList.map e)) else none
  | .fieldAddr s x f =>
    match P.underlying s, e x with
    | some (.struct fs), .ptr i o =>
      match fs[f]? with
      | some fl =>
        match sizeA P fl.type with
        | some n => bif Nat.beq n 0 then none else K (.ptr i (o + fl.offset))
        | none => none
      | none => none
    | _, _ => none
  | .field t x f =>
    match P.underlying t, e x with
    | some (.struct fs), .agg cs =>
      match fs[f]? with
      | some fl =>
        match partA P fl.type cs fl.offset with
        | some v => K v
        | none => none
      | none => none
    | _, _ => none
  | .indexAddr t x ix =>
    match e ix with
    | .int _ i =>
      match P.underlying t, e x with
      | some (.array len el), .ptr b o =>
        match sizeA P el with
        | some n => bif decide (0 ≤ i) && decide (i < (len : Int)) then K (.ptr b (o + i.toNat * n)) else none
        | none => none
      | some (.slice el), .slice b o len _ =>
        match sizeA P el with
        | some n => bif decide (0 ≤ i) && decide (i < (len : Int)) then K (.ptr b (o + i.toNat * n)) else none
        | none => none
      | some (.slice el), .own b len =>
        match sizeA P el with
        | some n => bif decide (0 ≤ i) && decide (i < (len : Int)) then K (.ptr b (i.toNat * n)) else none
        | none => none
      | _, _ => none
    | _ => none
  | .index t x ix =>
    match e ix with
    | .int _ i =>
      match P.underlying t, e x with
      | some (.array len el), .agg cs =>
        match sizeA P el with
        | some n =>
          bif decide (0 ≤ i) && decide (i < (len : Int)) then
            match partA P el cs (i.toNat * n) with
            | some v => K v
            | none => none
          else none
        | none => none
      | some .string, .str s =>
        bif decide (0 ≤ i) && decide (i < (s.size : Int)) then K (.int .u8 ((s.data.getD i.toNat 0).toNat : Int)) else none
      | some .string, .strG _ n g =>
        bif decide (0 ≤ i) && decide (i < (n : Int)) then K (.int .u8 (g i.toNat)) else none
      | some .string, .strF _ lo g _ =>
        bif decide (0 ≤ i) && decide (i < (lo : Int)) then K (.int .u8 (g i.toNat)) else none
      | _, _ => none
    | _ => none
  | .slice t x lo hi mx =>
    match mx with
    | some _ => none
    | none =>
      match P.underlying t, e x with
      | some .string, .str s => abound (hi.map e) s.size s.size fun h => abound (lo.map e) 0 h fun l => K (.str (s.extract l h))
      | some .string, .strG s n g => abound (hi.map e) n n fun h => abound (lo.map e) 0 h fun l => K (.strG (s.extract l h) (h - l) fun i => g (l + i))
      | some (.slice el), .slice b o len cap =>
        match sizeA P el with
        | some n => abound (hi.map e) len cap fun h => abound (lo.map e) 0 h fun l => bif Nat.beq cap l then none else K (.slice b (o + l * n) (h - l) (cap - l))
        | none => none
      | some (.array len el), .ptr b o =>
        match sizeA P el with
        | some n => abound (hi.map e) len len fun h => abound (lo.map e) 0 h fun l => bif Nat.beq len l then none else K (.slice b (o + l * n) (h - l) (len - l))
        | none => none
      | _, _ => none
  | .extract x i =>
    match e x with
    | .tup l =>
      match l[i]? with
      | some v => K v
      | none => none
    | _ => none
  | _ => none

theorem addr_add (b o n : Nat) : (⟨b, o, none⟩ : Addr).add n = ⟨b, o + n, none⟩ := by
  unfold Addr.add; split
  · subst_vars; rfl
  · rfl


theorem run_v {P : Program} {s : Sem Value} {V : Value} (h : ∀ w, s.run P w = .ok V w) (w : World) : (do pure (Next.value (← s)) : Sem Next).run P w = .ok (.value V) w := by
  simp only [Sem.run_bind, h, Result.andThen_ok]; simp

theorem run_bound {P : Program} {m : List Nat} {e : Operand → AV} {E : Operand → Value} (he : ∀ x, R m (e x) (E x)) {x : Option Operand} {dflt top : Nat} {K : Nat → Option ρ} {r : ρ}
    (h : abound (x.map e) dflt top K = some r) : ∃ n, K n = some r ∧ ∀ (code : BoundsCode) (w : World),
      (match x.map E with | some v => Instr.sliceBound v top code | none => pure dflt : Sem Nat).run P w = .ok n w := by
  cases x with
  | none => exact ⟨dflt, h, fun _ _ => by simp⟩
  | some x =>
    simp only [Option.map_some, abound] at h
    have hx := he x
    split at h
    · rename_i heq; cases heq
    · rename_i k i heq
      simp only [Option.some.injEq] at heq
      rw [heq] at hx
      simp only [R] at hx
      cases hb : (decide (0 ≤ i) && decide (i ≤ (top : Int))) with
      | false => rw [hb] at h; cases h
      | true =>
        rw [hb] at h
        simp only [Bool.and_eq_true, decide_eq_true_eq] at hb
        refine ⟨_, h, fun code w => ?_⟩
        simp [hx, Instr.sliceBound, asIntOf, hb.1, hb.2]
    · cases h

theorem abound_le {x : Option AV} {dflt top : Nat} (hd : dflt ≤ top) {K : Nat → Option ρ} {r : ρ} (h : abound x dflt top K = some r) : ∃ n, K n = some r ∧ n ≤ top := by
  unfold abound at h
  split at h
  · exact ⟨dflt, h, hd⟩
  · rename_i k i
    cases hb : (decide (0 ≤ i) && decide (i ≤ (top : Int))) with
    | false => rw [hb] at h; cases h
    | true =>
      rw [hb] at h
      simp only [Bool.and_eq_true, decide_eq_true_eq] at hb
      exact ⟨i.toNat, h, by omega⟩
  · cases h
theorem run_bound_le {P : Program} {m : List Nat} {e : Operand → AV} {E : Operand → Value} (he : ∀ x, R m (e x) (E x)) {x : Option Operand} {dflt top : Nat} (hd : dflt ≤ top) {K : Nat → Option ρ} {r : ρ}
    (h : abound (x.map e) dflt top K = some r) : ∃ n, K n = some r ∧ n ≤ top ∧ ∀ (code : BoundsCode) (w : World),
      (match x.map E with | some v => Instr.sliceBound v top code | none => pure dflt : Sem Nat).run P w = .ok n w := by
  cases x with
  | none => exact ⟨dflt, h, hd, fun _ _ => by simp⟩
  | some x =>
    simp only [Option.map_some, abound] at h
    have hx := he x
    split at h
    · rename_i heq; cases heq
    · rename_i k i heq
      simp only [Option.some.injEq] at heq
      rw [heq] at hx
      simp only [R] at hx
      cases hb : (decide (0 ≤ i) && decide (i ≤ (top : Int))) with
      | false => rw [hb] at h; cases h
      | true =>
        rw [hb] at h
        simp only [Bool.and_eq_true, decide_eq_true_eq] at hb
        refine ⟨_, h, by omega, fun code w => ?_⟩
        simp [hx, Instr.sliceBound, asIntOf, hb.1, hb.2]
    · cases h
theorem run_bounds' {P : Program} {m : List Nat} {e : Operand → AV} {E : Operand → Value} (he : ∀ x, R m (e x) (E x)) {lo hi : Option Operand} {len : Nat} {K : Nat → Nat → Option ρ} {r : ρ}
    (h : abound (hi.map e) len len (fun h => abound (lo.map e) 0 h fun l => K h l) = some r) (isSlice : Bool) : ∃ h l, K h l = some r ∧ (∀ w,
      (Instr.sliceBounds isSlice len len (lo.map E) (hi.map E) none).run P w = .ok (l, h, len) w) ∧ l ≤ h ∧ h ≤ len := by
  obtain ⟨hh, h1, b1, h2⟩ := run_bound_le (P := P) he (Nat.le_refl _) h
  obtain ⟨l, h3, b2, h4⟩ := run_bound_le (P := P) he (Nat.zero_le _) h1
  refine ⟨hh, l, h3, fun w => ?_, b2, b1⟩
  have h2' := h2 (if isSlice then .sliceAcap else .sliceAlen) w
  have h4' := h4 .sliceB w
  unfold Instr.sliceBounds
  simp only [Sem.run_bind, Sem.run_pure, Result.andThen_ok]
  cases hi <;> cases lo <;> simp_all

theorem run_bounds {P : Program} {m : List Nat} {e : Operand → AV} {E : Operand → Value} (he : ∀ x, R m (e x) (E x)) {lo hi : Option Operand} {len cap : Nat} {K : Nat → Nat → Option ρ} {r : ρ}
    (h : abound (hi.map e) len cap (fun h => abound (lo.map e) 0 h fun l => K h l) = some r) (isSlice : Bool) : ∃ h l, K h l = some r ∧ ∀ w,
      (Instr.sliceBounds isSlice len cap (lo.map E) (hi.map E) none).run P w = .ok (l, h, cap) w := by
  obtain ⟨hh, h1, h2⟩ := run_bound (P := P) he h
  obtain ⟨l, h3, h4⟩ := run_bound (P := P) he h1
  refine ⟨hh, l, h3, fun w => ?_⟩
  have h2' := h2 (if isSlice then .sliceAcap else .sliceAlen) w
  have h4' := h4 .sliceB w
  unfold Instr.sliceBounds
  simp only [Sem.run_bind, Sem.run_pure, Result.andThen_ok]
  cases hi <;> cases lo <;> simp_all

theorem apure_ok {P : Program} {m : List Nat} {e : Operand → AV} {E : Operand → Value} (he : ∀ x, R m (e x) (E x)) {o : Oper} {K : AV → Option ρ} {r : ρ}
    (h : apure P e o.op K = some r) : ∃ v V, K v = some r ∧ R m v V ∧ ∀ w, (execOp E o).run P w = .ok (.value V) w := by
  obtain ⟨dst, op, type, pos, after, guard⟩ := o
  cases op <;> simp only [apure, reduceCtorEq] at h <;> (try (cases h; done)) <;> simp only [execOp]
  case move x => exact ⟨_, _, h, he x, fun w => by simp⟩
  case assign x => exact ⟨_, _, h, he x, fun w => by simp⟩
  case pick c a b =>
    have hc := he c
    have ha := he a
    have hb := he b
    split at h
    · rename_i c' hc'
      rw [hc'] at hc
      simp only [R] at hc
      split at h
      · rename_i x y hx hy
        rw [hx] at ha; rw [hy] at hb
        simp only [R] at ha hb
        refine ⟨_, .bool (bif c' then x else y), h, R_bool _ _, fun w => ?_⟩
        cases c' <;> simp [hc, ha, hb, asBool]
      · cases c' with
        | true => exact ⟨_, _, h, ha, fun w => by simp [hc, asBool]⟩
        | false => exact ⟨_, _, h, hb, fun w => by simp [hc, asBool]⟩
    · cases h
  case build t parts =>
    split at h
    · rename_i z fs hz hu
      obtain ⟨Z, hZ, hRZ⟩ := run_zeroA hz m
      split at h
      · rename_i zc hzc
        split at h
        · rename_i cs hcs
          cases hall : fs.all (fun f => (sizeA P f.type).isSome) with
          | false => rw [hall] at h; cases h
          | true =>
            rw [hall] at h
            simp only [cond_true] at h
            have hall' := Array.all_eq_true'.1 hall
            have hp := RP_map (m := m) he parts.toList
            obtain ⟨L, hL, hRL⟩ := fillA_ok hp (R_cells hRZ hzc) hcs
            refine ⟨_, .agg L, h, by simp only [R]; exact ⟨L.toList, rfl, hRL⟩, run_v fun w => ?_⟩
            have hm : ∀ (l : List Field) (w : World), (∀ f ∈ l, (sizeA P f.type).isSome = true) → (l.mapM (fun (f : Field) => do pure (f.offset, ← sizeOf f.type) : Field → Sem (Nat × Nat))).run P w = .ok (l.map fun f => (f.offset, (sizeA P f.type).getD 0)) w := by
              intro l
              induction l with
              | nil => intro w _; simp
              | cons f l ih =>
                intro w hl
                obtain ⟨n, hn⟩ := Option.isSome_iff_exists.1 (hl f (by simp))
                rw [List.mapM_cons]
                simp only [Sem.run_bind, run_sizeA hn, Result.andThen_ok, Sem.run_pure, ih w (fun g hg => hl g (by simp [hg])), hn, List.map_cons, Option.getD_some]
            have hmA : ∀ w, (fs.mapM (fun (f : Field) => do pure (f.offset, ← sizeOf f.type) : Field → Sem (Nat × Nat))).run P w = .ok (fs.map fun f => (f.offset, (sizeA P f.type).getD 0)) w := by
              intro w
              rw [Array.mapM_eq_mapM_toList]
              simp only [map_eq_pure_bind, Sem.run_bind]
              rw [hm fs.toList w (fun f hf => hall' f (by simpa using hf))]
              simp only [Result.andThen_ok, Sem.run_pure]
              congr 1
              exact Array.toList_inj.1 (by simp)
            have hpl : (fun (i : Nat) => (fs.map fun (f : Field) => (f.offset, (sizeA P f.type).getD 0))[i]?) = (fun (i : Nat) => (fs[i]?).bind fun f => (sizeA P f.type).map fun n => (f.offset, n)) := by
              funext i
              rw [Array.getElem?_map]
              cases hf : fs[i]? with
              | none => rfl
              | some f =>
                obtain ⟨n, hn⟩ := Option.isSome_iff_exists.1 (hall' f (Array.mem_of_getElem? hf))
                simp [hn]
            simp only [Instr.build, Sem.run_bind, hZ, Result.andThen_ok, run_underlying hu, hmA]
            rw [hpl]
            simp only [Array.toList_map]
            rw [hL]
            simp
        · cases h
      · cases h
    · rename_i z len el hz hu
      obtain ⟨Z, hZ, hRZ⟩ := run_zeroA hz m
      split at h
      · rename_i zc n hzc hn
        split at h
        · rename_i cs hcs
          have hp := RP_map (m := m) he parts.toList
          obtain ⟨L, hL, hRL⟩ := fillA_ok hp (R_cells hRZ hzc) hcs
          refine ⟨_, .agg L, h, by simp only [R]; exact ⟨L.toList, rfl, hRL⟩, run_v fun w => ?_⟩
          simp only [Instr.build, Sem.run_bind, hZ, Result.andThen_ok, run_underlying hu, run_sizeA hn]
          simp only [Array.toList_map]
          rw [hL]
          simp
        · cases h
      · cases h
    · cases h
  case nilCheck x =>
    have hx := he x
    split at h
    · rename_i i o hx'
      rw [hx'] at hx
      refine ⟨_, _, h, hx, fun w => ?_⟩
      simp only [R] at hx
      obtain ⟨b, _, hb⟩ := hx
      simp [hb]
    · rename_i f c hx'
      rw [hx'] at hx
      refine ⟨_, _, h, hx, fun w => ?_⟩
      simp only [R] at hx
      obtain ⟨b, hb, _⟩ := hx
      simp [hb]
    · cases h
  case binOp op t x y yt =>
    obtain ⟨v, V, h1, h2, h3⟩ := abin_ok (P := P) (he x) (he y) h x y
    exact ⟨v, V, h1, h2, run_v h3⟩
  case unOp op t x =>
    split at h
    · rename_i v hv
      obtain ⟨V, h1, h2⟩ := aun_ok (P := P) (he x) hv
      exact ⟨v, V, h, h1, run_v h2⟩
    · cases h
  case convert src dst x =>
    have hx := he x
    split at h
    · rename_i k q n hs hd hx'
      rw [hx'] at hx
      simp only [R] at hx
      obtain ⟨sd, hsd⟩ := Option.isSome_iff_exists.1 hs
      exact ⟨_, _, h, R_int _ _ _, run_v fun w => by rw [hx]; simp [convert, run_underlying hsd, run_underlying hd, Conv.intToInt, wr_eq]⟩
    · rename_i s hs hd hx'
      rw [hx'] at hx
      simp only [R] at hx
      obtain ⟨sd, hsd⟩ := Option.isSome_iff_exists.1 hs
      exact ⟨_, _, h, R_str _ _, run_v fun w => by rw [hx]; simp [convert, run_underlying hsd, run_underlying hd]⟩
    · cases h
  case makeFunc fn first cap =>
    cases fn with
    | func f =>
      simp only at h
      cases hf : first.isEmpty with
      | false => rw [hf] at h; cases h
      | true =>
        rw [hf] at h
        have hf' : first = #[] := by simpa using hf
        refine ⟨_, .func (.func f) #[] ⟨cap.toList.map E⟩, h, ?_, run_v fun w => ?_⟩
        · simp only [R]
          refine ⟨_, rfl, ?_⟩
          generalize cap.toList = l
          induction l with
          | nil => exact RL_nil.2 rfl
          | cons x l ih => exact RL.cons (he x) ih
        · subst hf'
          simp [Instr.makeFunc]
          exact Array.toList_inj.1 (by simp)
    | _ => cases h
  case fieldAddr s x f =>
    have hx := he x
    split at h
    · rename_i fs i o' hu hx'
      rw [hx'] at hx
      split at h
      · rename_i fl hfl
        split at h
        · rename_i n hn
          cases hb : Nat.beq n 0 with
          | true => rw [hb] at h; cases h
          | false =>
            rw [hb] at h
            have hn0 : ¬ n = 0 := fun e => by subst e; simp at hb
            simp only [R] at hx
            obtain ⟨b, hm, hX⟩ := hx
            refine ⟨_, .pointer (some ⟨b, o' + fl.offset, none⟩), h, by simp only [R]; exact ⟨b, hm, rfl⟩, run_v fun w => ?_⟩
            simp [Instr.fieldAt, run_underlying hu, hfl, hX, Instr.sureAddr, fieldPlace, run_sizeA hn, hn0, addr_add]
        · cases h
      · cases h
    · cases h
  case field t x f =>
    have hx := he x
    split at h
    · rename_i fs cs hu hx'
      rw [hx'] at hx
      split at h
      · rename_i fl hfl
        split at h
        · rename_i v hv
          simp only [R] at hx
          obtain ⟨Vs, hX, hR⟩ := hx
          obtain ⟨V, h1, h2⟩ := run_partA (P := P) (m := m) (cs := ⟨Vs⟩) (by simpa using hR) hv
          exact ⟨v, V, h, h2, run_v fun w => by simp [Instr.field, run_underlying hu, hfl, hX, asAgg, h1]⟩
        · cases h
      · cases h
    · cases h
  case indexAddr t x ix =>
    have hx := he x
    have hi := he ix
    split at h
    · rename_i k i hi'
      rw [hi'] at hi
      simp only [R] at hi
      split at h
      · rename_i len el b o' hu hx'
        rw [hx'] at hx
        split at h
        · rename_i n hn
          cases hb : (decide (0 ≤ i) && decide (i < (len : Int))) with
          | false => rw [hb] at h; cases h
          | true =>
            rw [hb] at h
            simp only [Bool.and_eq_true, decide_eq_true_eq] at hb
            simp only [R] at hx
            obtain ⟨c, hm, hX⟩ := hx
            refine ⟨_, .pointer (some ⟨c, o' + i.toNat * n, none⟩), h, by simp only [R]; exact ⟨c, hm, rfl⟩, run_v fun w => ?_⟩
            simp [Instr.indexAt, hi, asIntOf, run_underlying hu, hX, Instr.sureAddr, hb.1, hb.2, run_sizeA hn, addr_add]
        · cases h
      · rename_i el b o' len cap hu hx'
        rw [hx'] at hx
        split at h
        · rename_i n hn
          cases hb : (decide (0 ≤ i) && decide (i < (len : Int))) with
          | false => rw [hb] at h; cases h
          | true =>
            rw [hb] at h
            simp only [Bool.and_eq_true, decide_eq_true_eq] at hb
            simp only [R] at hx
            obtain ⟨c, hm, hX⟩ := hx
            refine ⟨_, .pointer (some ⟨c, o' + i.toNat * n, none⟩), h, by simp only [R]; exact ⟨c, hm, rfl⟩, run_v fun w => ?_⟩
            simp [Instr.indexAt, hi, asIntOf, run_underlying hu, hX, hb.1, hb.2, run_sizeA hn, addr_add]
        · cases h
      · rename_i el b len hu hx'
        rw [hx'] at hx
        split at h
        · rename_i n hn
          cases hb : (decide (0 ≤ i) && decide (i < (len : Int))) with
          | false => rw [hb] at h; cases h
          | true =>
            rw [hb] at h
            simp only [Bool.and_eq_true, decide_eq_true_eq] at hb
            simp only [R] at hx
            obtain ⟨c, cp, hm, _, hX⟩ := hx
            refine ⟨_, .pointer (some ⟨c, 0 + i.toNat * n, none⟩), h, by simp only [R]; exact ⟨c, hm, by rw [Nat.zero_add]⟩, run_v fun w => ?_⟩
            simp [Instr.indexAt, hi, asIntOf, run_underlying hu, hX, hb.1, hb.2, run_sizeA hn, addr_add]
        · cases h
      · cases h
    · cases h
  case index t x ix =>
    have hx := he x
    have hi := he ix
    split at h
    · rename_i k i hi'
      rw [hi'] at hi
      simp only [R] at hi
      split at h
      · rename_i len el cs hu hx'
        rw [hx'] at hx
        split at h
        · rename_i n hn
          cases hb : (decide (0 ≤ i) && decide (i < (len : Int))) with
          | false => rw [hb] at h; cases h
          | true =>
            rw [hb] at h
            simp only [Bool.and_eq_true, decide_eq_true_eq] at hb
            simp only [cond_true] at h
            split at h
            · rename_i v hv
              simp only [R] at hx
              obtain ⟨Vs, hX, hR⟩ := hx
              obtain ⟨V, h1, h2⟩ := run_partA (P := P) (m := m) (cs := ⟨Vs⟩) (by simpa using hR) hv
              exact ⟨v, V, h, h2, run_v fun w => by simp [Instr.index, hi, asIntOf, run_underlying hu, hX, hb.1, hb.2, run_sizeA hn, h1]⟩
            · cases h
        · cases h
      · rename_i s hu hx'
        rw [hx'] at hx
        cases hb : (decide (0 ≤ i) && decide (i < (s.size : Int))) with
        | false => rw [hb] at h; cases h
        | true =>
          rw [hb] at h
          simp only [Bool.and_eq_true, decide_eq_true_eq] at hb
          simp only [cond_true] at h
          simp only [R] at hx
          refine ⟨_, _, h, R_int _ _ _, run_v fun w => ?_⟩
          have hlt : i.toNat < s.size := by omega
          have hg : s[i.toNat]? = some (s.data.getD i.toNat 0) := by
            have hlt' : i.toNat < s.data.size := hlt
            rw [getElem?_pos s i.toNat hlt]
            simp [Array.getElem?_eq_getElem hlt']
            rfl
          simp [Instr.index, hi, asIntOf, run_underlying hu, hx, hb.1, hg]
      · rename_i s n g hu hx'
        rw [hx'] at hx
        cases hb : (decide (0 ≤ i) && decide (i < (n : Int))) with
        | false => rw [hb] at h; cases h
        | true =>
          rw [hb] at h
          simp only [Bool.and_eq_true, decide_eq_true_eq] at hb
          simp only [cond_true] at h
          simp only [R] at hx
          obtain ⟨hx, hlo, hg0⟩ := hx
          have hgi := hg0 i.toNat (by omega)
          rw [← hgi] at h
          refine ⟨_, _, h, R_int _ _ _, run_v fun w => ?_⟩
          have hlt : i.toNat < s.size := by omega
          have hg : s[i.toNat]? = some (s.data.getD i.toNat 0) := by
            have hlt' : i.toNat < s.data.size := hlt
            rw [getElem?_pos s i.toNat hlt]
            simp [Array.getElem?_eq_getElem hlt']
            rfl
          simp [Instr.index, hi, asIntOf, run_underlying hu, hx, hb.1, hg]
      · rename_i s n g ex hu hx'
        rw [hx'] at hx
        cases hb : (decide (0 ≤ i) && decide (i < (n : Int))) with
        | false => rw [hb] at h; cases h
        | true =>
          rw [hb] at h
          simp only [Bool.and_eq_true, decide_eq_true_eq] at hb
          simp only [cond_true] at h
          simp only [R] at hx
          obtain ⟨hx, ⟨hlo, hg0⟩, _⟩ := hx
          have hgi := hg0 i.toNat (by omega)
          rw [← hgi] at h
          refine ⟨_, _, h, R_int _ _ _, run_v fun w => ?_⟩
          have hlt : i.toNat < s.size := by omega
          have hg : s[i.toNat]? = some (s.data.getD i.toNat 0) := by
            have hlt' : i.toNat < s.data.size := hlt
            rw [getElem?_pos s i.toNat hlt]
            simp [Array.getElem?_eq_getElem hlt']
            rfl
          simp [Instr.index, hi, asIntOf, run_underlying hu, hx, hb.1, hg]
      · cases h
    · cases h
  case slice t x lo hi mx =>
    have hx := he x
    split at h
    · cases h
    · split at h
      · rename_i s hu hx'
        rw [hx'] at hx
        simp only [R] at hx
        obtain ⟨hh, l, h1, h2⟩ := run_bounds (P := P) he h false
        refine ⟨_, _, h1, R_str _ _, run_v fun w => ?_⟩
        simp [Instr.sliceAt, Instr.slice, run_underlying hu, hx, h2]
      · rename_i s n g hu hx'
        rw [hx'] at hx
        simp only [R] at hx
        obtain ⟨hX, hn, hg⟩ := hx
        subst hn
        obtain ⟨hh, l, h1, h2, hb1, hb2⟩ := run_bounds' (P := P) he h false
        refine ⟨_, .string (s.extract l hh), h1, ?_, run_v fun w => ?_⟩
        · simp only [R]
          refine ⟨trivial, by simp [ByteArray.size_extract]; omega, fun i hi => ?_⟩
          rw [← hg (l + i) (by omega)]
          have hlt : l + i < s.size := by omega
          have e1 : (s.extract l hh).data.getD i 0 = s.data.getD (l + i) 0 := by
            rw [ByteArray.data_extract]
            simp only [Array.getD_eq_getD_getElem?, Array.getElem?_extract]
            have : i < min hh s.data.size - l := by
              have : s.data.size = s.size := rfl
              omega
            rw [if_pos this]
          rw [e1]
        · simp [Instr.sliceAt, Instr.slice, run_underlying hu, hX, h2]
      · rename_i el b o' len cap hu hx'
        rw [hx'] at hx
        split at h
        · rename_i n hn
          obtain ⟨hh, l, h1, h2⟩ := run_bounds (P := P) (K := fun h l => bif Nat.beq cap l then none else K (.slice b (o' + l * n) (h - l) (cap - l))) he h true
          cases hb : Nat.beq cap l with
          | true => rw [hb] at h1; cases h1
          | false =>
            rw [hb] at h1
            have hne : ¬ cap = l := fun e => by subst e; simp at hb
            simp only [R] at hx
            obtain ⟨c, hm, hX⟩ := hx
            refine ⟨_, .slice (some ⟨c, o' + l * n, none⟩) (hh - l) (cap - l), h1, by simp only [R]; exact ⟨c, hm, rfl⟩, run_v fun w => ?_⟩
            simp [Instr.sliceAt, Instr.slice, run_underlying hu, hX, h2, run_sizeA hn, hne, addr_add]
        · cases h
      · rename_i len el b o' hu hx'
        rw [hx'] at hx
        split at h
        · rename_i n hn
          obtain ⟨hh, l, h1, h2⟩ := run_bounds (P := P) (K := fun h l => bif Nat.beq len l then none else K (.slice b (o' + l * n) (h - l) (len - l))) he h false
          cases hb : Nat.beq len l with
          | true => rw [hb] at h1; cases h1
          | false =>
            rw [hb] at h1
            have hne : ¬ len = l := fun e => by subst e; simp at hb
            simp only [R] at hx
            obtain ⟨c, hm, hX⟩ := hx
            refine ⟨_, .slice (some ⟨c, o' + l * n, none⟩) (hh - l) (len - l), h1, by simp only [R]; exact ⟨c, hm, rfl⟩, run_v fun w => ?_⟩
            simp [Instr.sliceAt, run_underlying hu, hX, Instr.sureAddr, h2, run_sizeA hn, hne, addr_add]
        · cases h
      · cases h
  case extract x i =>
    have hx := he x
    split at h
    · rename_i l hx'
      rw [hx'] at hx
      split at h
      · rename_i v hv
        simp only [R] at hx
        obtain ⟨Vs, hX, hR⟩ := hx
        obtain ⟨V, h1, h2⟩ := RL_get hR hv
        exact ⟨v, V, h, h2, run_v fun w => by simp [Instr.extract, hX, h1]⟩
      · cases h
    · cases h

end
#print axioms apure_ok
end Go.Proofs.Ytlkclpkpggapbaa.Ae
