/- What the interpreter finds is what the model's call comes to. Conditions: the contracts that are looked up hold. -/
import Derived.Test.YtlkclpkpggapbaaAe5
namespace Go.Proofs.Ytlkclpkpggapbaa.Ae
open Go

theorem TR.know {m : List Nat} {n : Nat} {T : List (Nat × AV)} {tmps : Array Value} (h : TR m n T tmps) {d : Nat} {v : AV} (hv : R m v (tmps.getD d undef)) : TR m n ((d, v) :: T) tmps := by
  refine ⟨h.1, fun i => ?_⟩
  unfold get
  cases hb : Nat.beq d i with
  | true => rw [Nat.eq_of_beq_eq_true hb] at hv; exact hv
  | false => exact h.2 i

section
variable {ρ : Type}

theorem aput_ok {m : List Nat} {n : Nat} {dst : Option Tmp} {v : AV} {V : Value} {T : List (Nat × AV)} {a : Act} {K : List (Nat × AV) → Option ρ} {r : ρ} (h : aput n dst v T K = some r) (hT : TR m n T a.tmps) (hv : R m v V) :
    ∃ T', K T' = some r ∧ TR m n T' (a.put dst V).tmps := by
  cases dst with
  | none => exact ⟨T, h, hT⟩
  | some d =>
    simp only [aput] at h
    cases hb : Nat.ble (d + 1) n with
    | false => rw [hb] at h; cases h
    | true => rw [hb] at h; exact ⟨_, h, hT.put (Nat.le_of_ble_eq_true hb) hv⟩

theorem put_defers (a : Act) (dst : Option Tmp) (V : Value) : (a.put dst V).defers = a.defers := by cases dst <;> rfl

theorem aguard_ok {m : List Nat} {ops : Array Oper} {n : Nat} {o : Oper} {T : List (Nat × AV)} {tmps : Array Value} {run skip : List (Nat × AV) → Option ρ} {r : ρ} (h : aguard ops n o T run skip = some r) (hT : TR m n T tmps) :
    (∃ T', run T' = some r ∧ TR m n T' tmps ∧ Region.wanted o (yielded ops tmps) = true) ∨ (∃ T', skip T' = some r ∧ TR m n T' tmps ∧ Region.wanted o (yielded ops tmps) = false) := by
  unfold aguard at h
  split at h
  · rename_i hg
    exact .inl ⟨T, h, hT, by simp [Region.wanted, hg]⟩
  · rename_i j want hg
    split at h
    · cases h
    · rename_i d hd
      cases hb : Nat.ble (d + 1) n with
      | false => rw [hb] at h; cases h
      | true =>
        rw [hb] at h
        simp only [cond_true] at h
        have hd1 : d + 1 ≤ n := Nat.le_of_ble_eq_true hb
        have hsz : tmps.size = n := hT.1
        have hlt : d < tmps.size := hsz ▸ hd1
        split at h
        · rename_i x hx
          have hR := hT.2 d
          rw [hx] at hR
          simp only [R] at hR
          have hy : yielded ops tmps j = some x := by
            have hg' : tmps[d]? = some (.bool x) := by
              rw [Array.getElem?_eq_getElem hlt]
              rw [Array.getD_eq_getD_getElem?, Array.getElem?_eq_getElem hlt] at hR
              simpa using hR
            unfold yielded
            rw [hd]
            show (match tmps[d]? with | some (.bool b) => some b | _ => none) = some x
            rw [hg']
          have hw : Region.wanted o (yielded ops tmps) = (x == want) := by simp [Region.wanted, hg, hy]
          have hT' : TR m n ((d, .bool x) :: T) tmps := hT.know (by simp only [R]; exact hR)
          cases x <;> cases want <;> simp at h <;> first
            | exact .inl ⟨_, h, hT', by rw [hw]; rfl⟩
            | exact .inr ⟨_, h, hT', by rw [hw]; rfl⟩
        · cases h

theorem RL_map {m : List Nat} {f : Operand → AV} {g : Operand → Value} (h : ∀ x, R m (f x) (g x)) : ∀ l : List Operand, RL m (l.map f) (l.map g)
  | [] => RL_nil.2 rfl
  | x :: l => RL.cons (h x) (RL_map h l)

theorem abuiltin_ok {P : Program} {m : List Nat} {b : Builtin} {ts : Array TypeId} {args : List AV} {Args : Array Value} (hA : RL m args Args.toList) {K : AV → Option ρ} {r : ρ} (h : abuiltin P b ts args K = some r) (type : TypeId) (consts : Array Bool) :
    ∃ v V, K v = some r ∧ R m v V ∧ ∀ w, (builtin b ts type consts Args).run P w = .ok (.value V) w := by
  unfold abuiltin at h
  split at h
  · rename_i x
    obtain ⟨X, _, e1, hx, e2⟩ := RL_cons.1 hA
    rw [RL_nil.1 e2] at e1
    have hArgs : Args = #[X] := Array.toList_inj.1 (by rw [e1])
    split at h
    · rename_i t ht
      split at h
      all_goals (try (cases h; done))
      · rename_i s hu
        simp only [R] at hx
        exact ⟨_, _, h, R_int _ _ _, run_v fun w => by rw [hArgs, hx]; simp [Builtin.len_, ht, run_underlying hu, goInt]⟩
      · rename_i s n g hu
        simp only [R] at hx
        obtain ⟨hx, hn, _⟩ := hx
        subst hn
        exact ⟨_, _, h, R_int _ _ _, run_v fun w => by rw [hArgs, hx]; simp [Builtin.len_, ht, run_underlying hu, goInt]⟩
      · rename_i s lo _ ex hu
        simp only [R] at hx
        obtain ⟨hx, ⟨hlo, _⟩, hex⟩ := hx
        exact ⟨_, .int .i64 s.size, h, by simp only [R]; exact ⟨trivial, ⟨by simp; omega, by simp⟩, hex⟩, run_v fun w => by rw [hArgs, hx]; simp [Builtin.len_, ht, run_underlying hu, goInt]⟩
      · rename_i k _ hu
        exact ⟨_, .int .i64 k, h, R_int _ _ _, run_v fun w => by rw [hArgs]; simp [Builtin.len_, ht, run_underlying hu, goInt]⟩
      · rename_i hu
        simp only [R] at hx
        obtain ⟨c, _, hX⟩ := hx
        exact ⟨_, _, h, R_int _ _ _, run_v fun w => by rw [hArgs, hX]; simp [Builtin.len_, ht, run_underlying hu, goInt]⟩
      · rename_i hu
        simp only [R] at hx
        exact ⟨_, _, h, R_int _ _ _, run_v fun w => by rw [hArgs, hx]; simp [Builtin.len_, ht, run_underlying hu, goInt]⟩
      · rename_i hu
        simp only [R] at hx
        obtain ⟨c, _, _, _, hX⟩ := hx
        exact ⟨_, _, h, R_int _ _ _, run_v fun w => by rw [hArgs, hX]; simp [Builtin.len_, ht, run_underlying hu, goInt]⟩
    · cases h
  · rename_i k x k' y
    obtain ⟨X, _, e1, hx, e2⟩ := RL_cons.1 hA
    obtain ⟨Y, _, rfl, hy, e3⟩ := RL_cons.1 e2
    rw [RL_nil.1 e3] at e1
    have hArgs : Args = #[X, Y] := Array.toList_inj.1 (by rw [e1])
    simp only [R] at hx hy
    exact ⟨_, _, h, R_int _ _ _, run_v fun w => by rw [hArgs, hx, hy]; simp [Builtin.max_, Builtin.max2]⟩
  · rename_i k x k' y
    obtain ⟨X, _, e1, hx, e2⟩ := RL_cons.1 hA
    obtain ⟨Y, _, rfl, hy, e3⟩ := RL_cons.1 e2
    rw [RL_nil.1 e3] at e1
    have hArgs : Args = #[X, Y] := Array.toList_inj.1 (by rw [e1])
    simp only [R] at hx hy
    exact ⟨_, _, h, R_int _ _ _, run_v fun w => by rw [hArgs, hx, hy]; simp [Builtin.min_, Builtin.min2]⟩
  · cases h

/-- What the calls inside a region are to come to. -/
def DC (P : Program) (doCall : FuncId → List AV → List AB → (AV → List AB → Option ρ) → Option ρ) : Prop :=
  ∀ fid args H K r, doCall fid args H K = some r → ∀ m (Args : Array Value) w, RL m args Args.toList → HR m H w →
    (∃ v V, K v H = some r ∧ R m v V ∧ (callFunc fid Args).run P w = .ok (.value V) w) ∨
    ((callFunc fid Args).run P w = .ok (.enter fid Args) w ∧ Calls P fid Args w fun e w' => ∃ v V m' H', e = .returned V ∧ R m' v V ∧ HR m' H' w' ∧ Ext m w m' w' ∧ K v H' = some r)

theorem run_resolve_fn {P : Program} {E : Operand → Value} {c : Call} {f : Operand} (hc : c.callee = .value f) {fid : FuncId} {caps : Array Value} (hf : E f = .func (.func fid) #[] caps) (type : TypeId) (w : World) :
    (do let d ← resolve E c type; invoke d.target d.args : Sem Next).run P w = (callFunc fid (c.args.map E ++ caps)).run P w := by
  simp only [Sem.run_bind, resolve, hc, hf, Deferred.ofValue, Sem.run_pure, Result.andThen_ok, invoke]
  simp

theorem run_resolve_builtin {P : Program} {E : Operand → Value} {c : Call} {b : Builtin} (hc : c.callee = .builtin b) (type : TypeId) :
    ∃ consts, ∀ w, (do let d ← resolve E c type; invoke d.target d.args : Sem Next).run P w = (builtin b c.argTypes type consts (c.args.map E)).run P w := by
  simp only [Sem.run_bind, resolve, hc, Sem.run_pure, Result.andThen_ok, invoke]
  exact ⟨_, fun _ => rfl⟩

theorem aexec_ok {P : Program} {doCall : FuncId → List AV → List AB → (AV → List AB → Option ρ) → Option ρ} (hD : DC P doCall) {m : List Nat} {n : Nat} {T : List (Nat × AV)} {a : Act} (hT : TR m n T a.tmps) {H : List AB} {w : World} (hH : HR m H w)
    {o : Oper} {K : AV → List AB → Option ρ} {r : ρ} (h : aexec P doCall o T H K = some r) {next : Act → World → Prop} {Q : Exit → Act → World → Prop}
    (hn : ∀ v H' V m' w', R m' v V → HR m' H' w' → Ext m w m' w' → K v H' = some r → next (a.put o.dst V) w') : o.wp P a w next Q := by
  have he := fun x => R_ev hT x
  unfold aexec at h
  split at h
  · rename_i c hop
    split at h
    · rename_i f hc
      split at h
      · rename_i fid cap hf
        have hF := he f
        rw [hf] at hF
        simp only [R] at hF
        obtain ⟨Vs, hE, hcap⟩ := hF
        have hargs : RL m (c.args.toList.map (ev T) ++ cap) (c.args.map a.eval ++ ⟨Vs⟩ : Array Value).toList := by
          rw [Array.toList_append, Array.toList_map]
          exact RL_append hcap (RL_map he _)
        have hrun : (execOp a.eval o).run P w = (callFunc fid (c.args.map a.eval ++ ⟨Vs⟩)).run P w := by
          simp only [execOp, hop]
          exact run_resolve_fn hc hE _ w
        rcases hD fid _ H K r h m _ w hargs hH with ⟨v, V, h1, h2, h3⟩ | ⟨h1, h2⟩
        · unfold Oper.wp
          rw [hrun, h3]
          exact hn v H V m w h2 hH (Ext.refl m w) h1
        · unfold Oper.wp
          rw [hrun, h1]
          exact h2.mono fun e w' ⟨v, V, m', H', e1, e2, e3, e4, e5⟩ => by subst e1; exact hn v H' V m' w' e2 e3 e4 e5
      · cases h
    · rename_i b hc
      have hargs : RL m (c.args.toList.map (ev T)) (c.args.map a.eval).toList := by
        rw [Array.toList_map]; exact RL_map he _
      obtain ⟨consts, hrun⟩ := run_resolve_builtin (P := P) (E := a.eval) hc o.type
      split at h
      · obtain ⟨v, H', h1, V, w', m', h2, h3, h4, h5⟩ := aappend_ok (P := P) hargs hH h o.type
        unfold Oper.wp
        have : (execOp a.eval o).run P w = .ok (.value V) w' := by
          simp only [execOp, hop]
          rw [hrun]
          show (do pure (.value (← Builtin.append_ c.argTypes o.type (c.args.map a.eval))) : Sem Next).run P w = _
          simp only [Sem.run_bind, h2, Result.andThen_ok, Sem.run_pure]
        rw [this]
        exact hn v H' V m' w' h3 h4 h5 h1
      · obtain ⟨v, V, h1, h2, h3⟩ := abuiltin_ok (P := P) hargs h o.type consts
        unfold Oper.wp
        have : (execOp a.eval o).run P w = .ok (.value V) w := by
          simp only [execOp, hop]
          rw [hrun, h3]
        rw [this]
        exact hn v H V m w h2 hH (Ext.refl m w) h1
    · cases h
  · rename_i t x hop
    split at h
    · rename_i v hv
      obtain ⟨V, h1, h2⟩ := loadA_ok hH (he x) hv
      unfold Oper.wp
      have : (execOp a.eval o).run P w = .ok (.value V) w := by
        simp only [execOp, hop, Sem.run_bind, h2 w (fun _ _ => rfl), Result.andThen_ok, Sem.run_pure]
      rw [this]
      exact hn v H V m w h1 hH (Ext.refl m w) h
    · cases h
  · rename_i t x k ok hop
    split at h
    · rename_i v hv
      obtain ⟨V, h1, h2⟩ := lookupA_ok (P := P) hH (he x) (he k) hv
      unfold Oper.wp
      have : (execOp a.eval o).run P w = .ok (.value V) w := by
        simp only [execOp, hop, Sem.run_bind, h2, Result.andThen_ok, Sem.run_pure]
      rw [this]
      exact hn v H V m w h1 hH (Ext.refl m w) h
    · cases h
  · rename_i t l c hop
    obtain ⟨v, H', h1, V, w', m', h2, h3, h4, h5⟩ := amake_ok (P := P) (he l) (he c) hH h
    unfold Oper.wp
    have : (execOp a.eval o).run P w = .ok (.value V) w' := by
      simp only [execOp, hop, Sem.run_bind, h2, Result.andThen_ok, Sem.run_pure]
    rw [this]
    exact hn v H' V m' w' h3 h4 h5 h1
  · rename_i s d x hop
    cases hrc : isRowConv P s d with
    | true =>
      rw [hrc] at h
      simp only [cond_true] at h
      obtain ⟨v, H', h1, V, w', m', h2, h3, h4, h5⟩ := aconvR_ok (P := P) (he x) hH h
      unfold Oper.wp
      have : (execOp a.eval o).run P w = .ok (.value V) w' := by
        simp only [execOp, hop, Sem.run_bind, h2, Result.andThen_ok, Sem.run_pure]
      rw [this]
      exact hn v H' V m' w' h3 h4 h5 h1
    | false =>
      rw [hrc] at h
      simp only [cond_false] at h
      rw [← hop] at h
      obtain ⟨v, V, h1, h2, h3⟩ := apure_ok (P := P) he h
      unfold Oper.wp
      rw [h3]
      exact hn v H V m w h2 hH (Ext.refl m w) h1
  · cases hb : isMem o.op with
    | true =>
      rw [hb] at h
      obtain ⟨v, H', h1, nx, V, w', m', h2, h3, h4, h5, h6⟩ := amem_ok (P := P) he hH h
      unfold Oper.wp
      rw [h2]
      rcases h3 with rfl | ⟨rfl, rfl⟩
      · exact hn v H' V m' w' h4 h5 h6 h1
      · exact hn v H' _ m' w' h4 h5 h6 h1
    | false =>
      rw [hb] at h
      simp only [cond_false] at h
      obtain ⟨v, V, h1, h2, h3⟩ := apure_ok (P := P) he h
      unfold Oper.wp
      rw [h3]
      exact hn v H V m w h2 hH (Ext.refl m w) h1

theorem aops_ok {P : Program} {doCall : FuncId → List AV → List AB → (AV → List AB → Option ρ) → Option ρ} (hD : DC P doCall) {ops : Array Oper} {n : Nat} {Q : Exit → Act → World → Prop} {K : List (Nat × AV) → List AB → Option ρ} {r : ρ} :
    ∀ (l : List Oper) (k : Nat) (_ : ∀ j, l[j]? = ops[k + j]?) (m : List Nat) (T : List (Nat × AV)) (H : List AB) (a : Act) (w : World), aops P doCall ops n l T H K = some r → TR m n T a.tmps → HR m H w →
    (∀ T' H' a' m' w', TR m' n T' a'.tmps → HR m' H' w' → Ext m w m' w' → a'.defers = a.defers → K T' H' = some r → Q .normal a' w') →
    wpOps P ops Q (List.range' k l.length) a w
  | [], k, _, m, T, H, a, w, h, hT, hH, hQ => by
    simp only [aops] at h
    simp only [List.length_nil, List.range'_zero, wpOps]
    exact hQ T H a m w hT hH (Ext.refl m w) rfl h
  | o :: l, k, hl, m, T, H, a, w, h, hT, hH, hQ => by
    have hk : ops[k]? = some o := by have := hl 0; simpa using this.symm
    have hl' : ∀ j, l[j]? = ops[k + 1 + j]? := fun j => by have := hl (j + 1); rw [Nat.add_assoc, Nat.add_comm 1 j]; simpa using this
    simp only [List.length_cons, List.range'_succ, wpOps, hk]
    simp only [aops] at h
    rcases aguard_ok h hT with ⟨T1, h1, hT1, hw⟩ | ⟨T1, h1, hT1, hw⟩
    · rw [if_pos hw]
      refine .inl (aexec_ok hD hT1 hH h1 fun v H' V m' w' hv hH' hE hK => ?_)
      have hT1' : TR m' n T1 a.tmps := by obtain ⟨x, hx, _⟩ := hE.pre; rw [hx]; exact hT1.mono x
      obtain ⟨T2, h2, hT2⟩ := aput_ok hK hT1' hv
      exact aops_ok hD l (k + 1) hl' m' T2 H' _ w' h2 hT2 hH' fun T3 H3 a3 m3 w3 q1 q2 q3 q4 q5 => hQ T3 H3 a3 m3 w3 q1 q2 (hE.trans q3) (q4.trans (put_defers _ _ _)) q5
    · rw [if_neg (by simp [hw])]
      obtain ⟨T2, h2, hT2⟩ := aput_ok (V := undef) h1 hT1 (by simp only [R])
      exact aops_ok hD l (k + 1) hl' m T2 H _ w h2 hT2 hH fun T3 H3 a3 m3 w3 q1 q2 q3 q4 q5 => hQ T3 H3 a3 m3 w3 q1 q2 q3 (q4.trans (put_defers _ _ _)) q5

/-! ### Regions that draw their order -/
theorem HR.same {m : List Nat} {H : List AB} {w w' : World} (h : HR m H w) (hs : ∀ k, k < w.heap.size → w'.heap[k]? = w.heap[k]?) : HR m H w' :=
  ⟨h.len, h.nodup, fun i B hB hl => by
    obtain ⟨b, o, h1, h2, h3, h4⟩ := h.all i B hB hl
    exact ⟨b, o, h1, by rw [hs b (Array.getElem?_eq_some_iff.1 h2).1]; exact h2, h3, h4⟩⟩

theorem Ext.blocks {w w' : World} (h : Ext [] w [] w') : ∀ k, k < w.heap.size → w'.heap[k]? = w.heap[k]? := fun k hk => h.block k hk (by simp)
theorem Ext.same {m : List Nat} {w w' : World} (h : Ext [] w [] w') : Ext m w m w' := ⟨⟨[], by simp⟩, h.os, h.tape, h.output, h.size, fun k hk _ => h.blocks k hk⟩

theorem aexecQ_ok {P : Program} {env : Env} (hE : EnvOk P env) {m : List Nat} {n : Nat} {T : List (Nat × AV)} {a : Act} (hT : TR m n T a.tmps) {H : List AB} {w : World} (hH : HR m H w)
    {o : Oper} {K : AV → Option ρ} {r : ρ} (h : aexecQ P env o T H K = some r) {next : Act → Prop}
    (hn : ∀ v V, R m v V → K v = some r → next (a.put o.dst V)) : o.quiet P a (fun w' => Ext [] w [] w') next := by
  have he := fun x => R_ev hT x
  unfold aexecQ at h
  split at h
  · rename_i c hop
    split at h
    · rename_i f hc
      split at h
      · rename_i fid hf
        split at h
        · rename_i C F hF
          cases hC : C (c.args.toList.map (ev T)) with
          | false => rw [hC] at h; cases h
          | true =>
          rw [hC] at h
          simp only [cond_true] at h
          split at h
          · rename_i v hv
            cases hb : v.noPtr with
            | false => rw [hb] at h; cases h
            | true =>
              rw [hb] at h
              have hFe := he f
              rw [hf] at hFe
              simp only [R] at hFe
              obtain ⟨Vs, hE', hcap⟩ := hFe
              have hVs : Vs = [] := RL_nil.1 hcap
              subst hVs
              obtain ⟨henter, hpure⟩ := hE fid _ hF
              have hargs : RL m (c.args.toList.map (ev T)) (c.args.map a.eval).toList := by rw [Array.toList_map]; exact RL_map he _
              have hcalls := fun w' => hpure _ v hC hv m (c.args.map a.eval) w' hargs
              obtain ⟨e0, w0, fr0, ⟨V, _, hRV, _⟩, _⟩ := hcalls w []
              refine ⟨V, fun w' hw' => ?_, hn v V (R_noPtr v hb hRV) h⟩
              unfold Oper.quietAt
              have hrun : (execOp a.eval o).run P w' = .ok (.enter fid (c.args.map a.eval)) w' := by
                simp only [execOp, hop]
                rw [run_resolve_fn hc hE' _ w']
                simpa using henter (c.args.map a.eval) w'
              rw [hrun]
              refine ⟨rfl, (hcalls w').mono fun e w'' ⟨V', e1, e2, e3⟩ => ⟨?_, hw'.trans e3⟩⟩
              rw [e1, R_det v hb e2 hRV]
          · cases h
        · cases h
      · cases h
    · rename_i b hc
      have hargs : RL m (c.args.toList.map (ev T)) (c.args.map a.eval).toList := by
        rw [Array.toList_map]; exact RL_map he _
      obtain ⟨consts, hrun⟩ := run_resolve_builtin (P := P) (E := a.eval) hc o.type
      have hrun' : ∀ w', (execOp a.eval o).run P w' = (builtin b c.argTypes o.type consts (c.args.map a.eval)).run P w' := fun w' => by
        simp only [execOp, hop]
        exact hrun w'
      obtain ⟨v, V, h1, h2, h3⟩ := abuiltin_ok (P := P) hargs h o.type consts
      refine ⟨V, fun w' _ => ?_, hn v V h2 h1⟩
      unfold Oper.quietAt
      rw [hrun', h3]
      exact ⟨rfl, rfl⟩
    · cases h
  · rename_i t x hop
    split at h
    · rename_i v hv
      obtain ⟨V, h1, h2⟩ := loadA_ok hH (he x) hv
      refine ⟨V, fun w' hw' => ?_, hn v V h1 h⟩
      unfold Oper.quietAt
      have : (execOp a.eval o).run P w' = .ok (.value V) w' := by
        simp only [execOp, hop, Sem.run_bind, h2 w' hw'.blocks, Result.andThen_ok, Sem.run_pure]
      rw [this]
      exact ⟨rfl, rfl⟩
    · cases h
  · cases hb : isMem o.op with
    | true => rw [hb] at h; cases h
    | false =>
      rw [hb] at h
      simp only [cond_false] at h
      obtain ⟨v, V, h1, h2, h3⟩ := apure_ok (P := P) he h
      refine ⟨V, fun w' _ => ?_, hn v V h2 h1⟩
      unfold Oper.quietAt
      rw [h3]
      exact ⟨rfl, rfl⟩

theorem aopsQ_ok {P : Program} {env : Env} (hE : EnvOk P env) {ops : Array Oper} {n : Nat} {m : List Nat} {H : List AB} {w : World} (hH : HR m H w) {Q : Act → Prop} {K : List (Nat × AV) → Option ρ} {r : ρ} :
    ∀ (l : List Oper) (T : List (Nat × AV)) (a : Act), aopsQ P env ops n H l T K = some r → TR m n T a.tmps →
    (∀ T' a', TR m n T' a'.tmps → a'.defers = a.defers → K T' = some r → Q a') → wpQuiet P ops (fun w' => Ext [] w [] w') Q l a
  | [], T, a, h, hT, hQ => hQ T a hT rfl h
  | o :: l, T, a, h, hT, hQ => by
    simp only [aopsQ] at h
    unfold wpQuiet
    rcases aguard_ok h hT with ⟨T1, h1, hT1, hw⟩ | ⟨T1, h1, hT1, hw⟩
    · rw [if_pos hw]
      refine aexecQ_ok hE hT1 hH h1 fun v V hv hK => ?_
      obtain ⟨T2, h2, hT2⟩ := aput_ok hK hT1 hv
      exact aopsQ_ok hE hH l T2 _ h2 hT2 fun T3 a3 q1 q2 q3 => hQ T3 a3 q1 (q2.trans (put_defers _ _ _)) q3
    · rw [if_neg (by simp [hw])]
      obtain ⟨T2, h2, hT2⟩ := aput_ok (V := undef) h1 hT1 (by simp only [R])
      exact aopsQ_ok hE hH l T2 _ h2 hT2 fun T3 a3 q1 q2 q3 => hQ T3 a3 q1 (q2.trans (put_defers _ _ _)) q3

/-! ### Guarded operations carried out ahead -/

def WR (m : List Nat) (G : Weak) (tmps : Array Value) : Prop := ∀ i s w v, wget G i = some (s, w, v) → tmps[s]? = some (.bool w) → R m v (tmps.getD i undef)
def CR (ctx : List (Nat × Bool)) (tmps : Array Value) : Prop := ∀ s w, inCtx ctx s w = true → tmps[s]? = some (.bool w)

theorem WR.mono {m : List Nat} {G : Weak} {tmps : Array Value} (x : List Nat) (h : WR m G tmps) : WR (m ++ x) G tmps := fun i s w v h1 h2 => R_mono x v (h i s w v h1 h2)

theorem CR.cons {ctx : List (Nat × Bool)} {tmps : Array Value} (h : CR ctx tmps) {s : Nat} {w : Bool} (hs : tmps[s]? = some (.bool w)) : CR ((s, w) :: ctx) tmps := fun i x hi => by
  simp only [inCtx, Bool.or_eq_true, Bool.and_eq_true, beq_iff_eq] at hi
  rcases hi with ⟨h1, h2⟩ | hi
  · rw [← Nat.eq_of_beq_eq_true h1, ← h2]; exact hs
  · exact h i x hi
theorem CR.nil (tmps : Array Value) : CR [] tmps := fun _ _ h => by simp [inCtx] at h

theorem evC_ok {m : List Nat} {n : Nat} {T : List (Nat × AV)} {a : Act} (hT : TR m n T a.tmps) {G : Weak} (hG : WR m G a.tmps) {ctx : List (Nat × Bool)} (hc : CR ctx a.tmps) (x : Operand) : R m (evC T G ctx x) (a.eval x) := by
  cases x with
  | tmp i =>
    simp only [evC]
    split
    · rename_i s w v hg
      cases hb : inCtx ctx s w with
      | false => simp only [cond_false, R]
      | true => exact hG i s w v hg (hc s w hb)
    · exact hT.2 i
  | const v => simpa only [evC] using R_ev hT (.const v)
  | func v => simpa only [evC] using R_ev hT (.func v)
  | global v => simpa only [evC] using R_ev hT (.global v)

theorem wget_put {m : List Nat} {G : Weak} {tmps : Array Value} (hG : WR m G tmps) {d : Nat} (h1 : wguards G d = false) (h2 : (wget G d).isNone = true) (V : Value) : WR m G (tmps.setIfInBounds d V) := by
  intro i s w v hi hs
  have hne : d ≠ s := by
    intro e; subst e
    have : ∀ (G : Weak), wguards G d = false → wget G i ≠ some (d, w, v) := by
      intro G
      induction G with
      | nil => intro _ h; simp [wget] at h
      | cons p G ih =>
        obtain ⟨d', s', w', v'⟩ := p
        intro hg h
        simp only [wguards, Bool.or_eq_false_iff] at hg
        simp only [wget] at h
        cases hb : Nat.beq d' i with
        | true =>
          rw [hb] at h
          simp only [cond_true, Option.some.injEq, Prod.mk.injEq] at h
          have := hg.1
          rw [h.1] at this
          simp at this
        | false => rw [hb] at h; exact ih hg.2 h
    exact this G h1 hi
  have hne2 : d ≠ i := by
    intro e; subst e; rw [hi] at h2; simp at h2
  rw [Array.getElem?_setIfInBounds_ne hne] at hs
  have := hG i s w v hi hs
  simpa [Array.getElem?_setIfInBounds_ne hne2] using this

theorem aread_ok {P : Program} {m : List Nat} {e : Operand → AV} {E : Operand → Value} (he : ∀ x, R m (e x) (E x)) {H : List AB} {w : World} (hH : HR m H w) {o : Oper} {v : AV} (h : aread P e H o.op = some v) :
    ∃ V, R m v V ∧ (execOp E o).run P w = .ok (.value V) w := by
  unfold aread at h
  split at h
  · rename_i c hop
    split at h
    · rename_i b hc
      have hargs : RL m (c.args.toList.map e) (c.args.map E).toList := by
        rw [Array.toList_map]; exact RL_map he _
      obtain ⟨consts, hrun⟩ := run_resolve_builtin (P := P) (E := E) hc o.type
      obtain ⟨v', V, h1, h2, h3⟩ := abuiltin_ok (P := P) hargs h o.type consts
      cases h1
      exact ⟨V, h2, by simp only [execOp, hop]; rw [hrun, h3]⟩
    · cases h
  · rename_i t x hop
    obtain ⟨V, h1, h2⟩ := loadA_ok hH (he x) h
    exact ⟨V, h1, by simp only [execOp, hop, Sem.run_bind, h2 w (fun _ _ => rfl), Result.andThen_ok, Sem.run_pure]⟩
  · cases hb : isMem o.op with
    | true => rw [hb] at h; cases h
    | false =>
      rw [hb] at h
      simp only [cond_false] at h
      obtain ⟨v', V, h1, h2, h3⟩ := apure_ok (P := P) he h
      cases h1
      exact ⟨V, h2, h3 w⟩

theorem areadC_ok {P : Program} {m : List Nat} {n : Nat} {T : List (Nat × AV)} {a : Act} (hT : TR m n T a.tmps) {G : Weak} (hG : WR m G a.tmps) {ctx : List (Nat × Bool)} (hc : CR ctx a.tmps) {H : List AB} {w : World} (hH : HR m H w) {o : Oper} {v : AV}
    (h : areadC P T G ctx H o.op = some v) : ∃ V, R m v V ∧ (execOp a.eval o).run P w = .ok (.value V) w := by
  unfold areadC at h
  split at h
  · rename_i s x y hop
    have hs := evC_ok hT hG hc (.tmp s)
    split at h
    · rename_i b hb
      cases h
      rw [hb] at hs
      simp only [R, Act.eval] at hs
      have hs' : a.tmps[s]? = some (.bool b) := by
        rw [Array.getD_eq_getD_getElem?] at hs
        cases hg : a.tmps[s]? with
        | none => rw [hg] at hs; simp [undef] at hs
        | some z => rw [hg] at hs; simp at hs; rw [hs]
      refine ⟨if b then a.eval x else a.eval y, ?_, ?_⟩
      · refine R_merge _ _ (fun e => ?_) (fun e => ?_)
        · subst e; simp only [if_true]; exact evC_ok hT hG (hc.cons hs') x
        · subst e; simp only [Bool.false_eq_true, if_false]; exact evC_ok hT hG (hc.cons hs') y
      · have hE : a.eval (.tmp s) = .bool b := hs
        simp only [execOp, hop, hE, asBool, Sem.run_bind, Sem.run_pure, Result.andThen_ok]
    · cases h
  · exact aread_ok (evC_ok hT hG hc) hH h

def dsts (l : List Oper) : List Nat := l.filterMap (·.dst)

theorem get_cons_ne {d i : Nat} (h : d ≠ i) (v : AV) (T : List (Nat × AV)) : get ((d, v) :: T) i = get T i := by
  have : Nat.beq d i = false := by rw [← Bool.not_eq_true]; intro hh; exact h (Nat.eq_of_beq_eq_true hh)
  simp only [get, this, cond_false]

theorem aput_frame {n : Nat} {dst : Option Tmp} {v : AV} {T : List (Nat × AV)} {K : List (Nat × AV) → Option ρ} {r : ρ} (h : aput n dst v T K = some r) {m : List Nat} {a : Act} (hT : TR m n T a.tmps) {V : Value} (hv : R m v V) :
    ∃ T', K T' = some r ∧ TR m n T' (a.put dst V).tmps ∧ ∀ i, some i ≠ dst → get T' i = get T i := by
  cases dst with
  | none => exact ⟨T, h, hT, fun _ _ => rfl⟩
  | some d =>
    simp only [aput] at h
    cases hb : Nat.ble (d + 1) n with
    | false => rw [hb] at h; cases h
    | true => rw [hb] at h; exact ⟨_, h, hT.put (Nat.le_of_ble_eq_true hb) hv, fun i hi => get_cons_ne (fun e => hi (by rw [e])) _ _⟩

theorem yielded_of {ops : Array Oper} {tmps : Array Value} {j s : Nat} (hs : (ops[j]?).bind (·.dst) = some s) (b : Bool) : (yielded ops tmps j = some b) ↔ tmps[s]? = some (.bool b) := by
  unfold yielded
  rw [hs]
  show (match tmps[s]? with | some (.bool b) => some b | _ => none) = some b ↔ _
  constructor
  · intro h
    split at h
    · rename_i b' hb'; cases h; exact hb'
    · cases h
  · intro h; rw [h]

/-- The guarded step. -/
theorem aguardS_ok {P : Program} {m : List Nat} {n : Nat} {T : List (Nat × AV)} {a : Act} (hT : TR m n T a.tmps) {G : Weak} (hG : WR m G a.tmps) {H : List AB} {w : World} (hH : HR m H w) {ops : Array Oper} {o : Oper} {j s d : Nat} {want : Bool} {v : AV}
    (hg : o.guard = some (j, want)) (hs : (ops[j]?).bind (·.dst) = some s) (hd : o.dst = some d) (h1 : Nat.ble (d + 1) n = true) (h2 : Nat.beq d s = false) (h3 : wguards G d = false)
    (h : areadC P T G [(s, want)] H o.op = some v) :
    (Region.wanted o (yielded ops a.tmps) = true → ∃ V, (execOp a.eval o).run P w = .ok (.value V) w ∧ TR m n ((d, .any) :: T) (a.put o.dst V).tmps ∧ WR m ((d, s, want, v) :: G) (a.put o.dst V).tmps) ∧
    (Region.wanted o (yielded ops a.tmps) = false → TR m n ((d, .any) :: T) (a.put o.dst undef).tmps ∧ WR m ((d, s, want, v) :: G) (a.put o.dst undef).tmps) := by
  have hlt : d < n := Nat.le_of_ble_eq_true h1
  have hne : d ≠ s := fun e => by subst e; simp at h2
  have hw : Region.wanted o (yielded ops a.tmps) = (yielded ops a.tmps j == some want) := by simp [Region.wanted, hg]
  have hWR : ∀ V, (a.tmps[s]? = some (.bool want) → R m v V) → WR m ((d, s, want, v) :: G) (a.put o.dst V).tmps := by
    intro V hV i s' w' v' hi hs'
    have hput : (a.put o.dst V).tmps = a.tmps.setIfInBounds d V := by rw [hd]; rfl
    rw [hput] at hs' ⊢
    simp only [wget] at hi
    cases hb : Nat.beq d i with
    | true =>
      rw [hb] at hi
      simp only [cond_true, Option.some.injEq, Prod.mk.injEq] at hi
      obtain ⟨rfl, rfl, rfl⟩ := hi
      obtain rfl := Nat.eq_of_beq_eq_true hb
      rw [Array.getElem?_setIfInBounds_ne hne] at hs'
      have hsz : d < a.tmps.size := by rw [hT.1]; exact hlt
      have := hV hs'
      simpa [hsz] using this
    | false =>
      rw [hb] at hi
      simp only [cond_false] at hi
      have hdi : d ≠ i := fun e => by subst e; simp at hb
      have hds : d ≠ s' := by
        intro e; subst e
        have key : ∀ (G : Weak), wguards G d = false → wget G i ≠ some (d, w', v') := by
          intro G
          induction G with
          | nil => intro _ h; simp [wget] at h
          | cons p G ih =>
            obtain ⟨d', s'', w'', v''⟩ := p
            intro hg h
            simp only [wguards, Bool.or_eq_false_iff] at hg
            simp only [wget] at h
            cases hb : Nat.beq d' i with
            | true =>
              rw [hb] at h
              simp only [cond_true, Option.some.injEq, Prod.mk.injEq] at h
              have := hg.1
              rw [h.1] at this
              simp at this
            | false => rw [hb] at h; exact ih hg.2 h
        exact key G h3 hi
      rw [Array.getElem?_setIfInBounds_ne hds] at hs'
      have := hG i s' w' v' hi hs'
      simpa [Array.getElem?_setIfInBounds_ne hdi] using this
  have hTR : ∀ V, TR m n ((d, .any) :: T) (a.put o.dst V).tmps := fun V => by
    have : (a.put o.dst V).tmps = a.tmps.setIfInBounds d V := by rw [hd]; rfl
    rw [this]; exact hT.put hlt (by simp only [R])
  refine ⟨fun hy => ?_, fun hy => ?_⟩
  · rw [hw] at hy
    have hy' : a.tmps[s]? = some (.bool want) := (yielded_of hs want).1 (by simpa using hy)
    obtain ⟨V, h4, h5⟩ := areadC_ok hT hG ((CR.nil a.tmps).cons hy') hH h
    exact ⟨V, h5, hTR V, hWR V (fun _ => h4)⟩
  · rw [hw] at hy
    refine ⟨hTR undef, hWR undef (fun hs' => ?_)⟩
    rw [(yielded_of hs want).2 hs'] at hy
    simp at hy

theorem WR.nil (m : List Nat) (tmps : Array Value) : WR m [] tmps := fun _ _ _ _ h => by simp [wget] at h

theorem put_dst_WR {m : List Nat} {G : Weak} {a : Act} (hG : WR m G a.tmps) {dst : Option Tmp} (h : dstFree G dst = true) (V : Value) : WR m G (a.put dst V).tmps := by
  cases dst with
  | none => exact hG
  | some d =>
    simp only [dstFree, Bool.and_eq_true, Bool.not_eq_true'] at h
    exact wget_put hG h.1 h.2 V

theorem aopsS_ok {P : Program} {doCall : FuncId → List AV → List AB → (AV → List AB → Option ρ) → Option ρ} (hD : DC P doCall) {ops : Array Oper} {n : Nat} {Q : Exit → Act → World → Prop} {K : List (Nat × AV) → List AB → Option ρ} {r : ρ} :
    ∀ (l : List Oper) (k : Nat) (_ : ∀ j, l[j]? = ops[k + j]?) (m : List Nat) (T : List (Nat × AV)) (G : Weak) (H : List AB) (a : Act) (w : World), aopsS P doCall ops n l T G H K = some r → TR m n T a.tmps → WR m G a.tmps → HR m H w →
    (∀ T' H' a' m' w', TR m' n T' a'.tmps → HR m' H' w' → Ext m w m' w' → a'.defers = a.defers → K T' H' = some r → Q .normal a' w') →
    wpOps P ops Q (List.range' k l.length) a w
  | [], k, _, m, T, G, H, a, w, h, hT, _, hH, hQ => by
    simp only [aopsS] at h
    simp only [List.length_nil, List.range'_zero, wpOps]
    exact hQ T H a m w hT hH (Ext.refl m w) rfl h
  | o :: l, k, hl, m, T, G, H, a, w, h, hT, hG, hH, hQ => by
    have hk : ops[k]? = some o := by have := hl 0; simpa using this.symm
    have hl' : ∀ j, l[j]? = ops[k + 1 + j]? := fun j => by have := hl (j + 1); rw [Nat.add_assoc, Nat.add_comm 1 j]; simpa using this
    simp only [List.length_cons, List.range'_succ, wpOps, hk]
    simp only [aopsS] at h
    split at h
    · rename_i hg
      have hw : Region.wanted o (yielded ops a.tmps) = true := by simp [Region.wanted, hg]
      rw [if_pos hw]
      cases hdst : dstFree G o.dst with
      | false => rw [hdst] at h; cases h
      | true =>
        rw [hdst] at h
        simp only [cond_true] at h
        cases hsp : isSpec o.op with
        | true =>
          rw [hsp] at h
          simp only [cond_true] at h
          split at h
          · rename_i v hv
            obtain ⟨V, h1, h2⟩ := areadC_ok hT hG (CR.nil _) hH hv
            refine .inl ?_
            unfold Oper.wp
            rw [h2]
            show wpOps P ops Q _ (a.put o.dst V) w
            obtain ⟨T2, h3, hT2⟩ := aput_ok h hT h1
            exact aopsS_ok hD l (k + 1) hl' m T2 G H _ w h3 hT2 (put_dst_WR hG hdst V) hH fun T3 H3 a3 m3 w3 q1 q2 q3 q4 q5 => hQ T3 H3 a3 m3 w3 q1 q2 q3 (q4.trans (put_defers _ _ _)) q5
          · cases h
        | false =>
          rw [hsp] at h
          simp only [cond_false] at h
          refine .inl (aexec_ok hD hT hH h fun v H' V m' w' hv hH' hE hK => ?_)
          obtain ⟨x, hx, _⟩ := hE.pre
          have hT1' : TR m' n T a.tmps := by rw [hx]; exact hT.mono x
          have hG1' : WR m' G a.tmps := by rw [hx]; exact hG.mono x
          obtain ⟨T2, h2, hT2⟩ := aput_ok hK hT1' hv
          exact aopsS_ok hD l (k + 1) hl' m' T2 G H' _ w' h2 hT2 (put_dst_WR hG1' hdst V) hH' fun T3 H3 a3 m3 w3 q1 q2 q3 q4 q5 => hQ T3 H3 a3 m3 w3 q1 q2 (hE.trans q3) (q4.trans (put_defers _ _ _)) q5
    · rename_i j want hg
      split at h
      · rename_i s d hs hd
        cases hb : (Nat.ble (d + 1) n && !(Nat.beq d s) && !(wguards G d)) with
        | false => rw [hb] at h; cases h
        | true =>
          rw [hb] at h
          simp only [Bool.and_eq_true, Bool.not_eq_true'] at hb
          simp only [cond_true] at h
          split at h
          · rename_i v hv
            obtain ⟨g1, g2⟩ := aguardS_ok hT hG hH hg hs hd hb.1.1 hb.1.2 hb.2 hv
            cases hw : Region.wanted o (yielded ops a.tmps) with
            | true =>
              rw [if_pos rfl]
              obtain ⟨V, h1, h2, h3⟩ := g1 hw
              refine .inl ?_
              unfold Oper.wp
              rw [h1]
              show wpOps P ops Q _ (a.put o.dst V) w
              exact aopsS_ok hD l (k + 1) hl' m _ _ H _ w h h2 h3 hH fun T3 H3 a3 m3 w3 q1 q2 q3 q4 q5 => hQ T3 H3 a3 m3 w3 q1 q2 q3 (q4.trans (put_defers _ _ _)) q5
            | false =>
              rw [if_neg (by simp)]
              obtain ⟨h2, h3⟩ := g2 hw
              exact aopsS_ok hD l (k + 1) hl' m _ _ H _ w h h2 h3 hH fun T3 H3 a3 m3 w3 q1 q2 q3 q4 q5 => hQ T3 H3 a3 m3 w3 q1 q2 q3 (q4.trans (put_defers _ _ _)) q5
          · cases h
      · cases h

theorem asval_ok {P : Program} {env : Env} (hE : EnvOk P env) {m : List Nat} {n : Nat} {T : List (Nat × AV)} {a : Act} (hT : TR m n T a.tmps) {G : Weak} (hG : WR m G a.tmps) {H : List AB} {w : World} (hH : HR m H w) {o : Oper} {v : AV}
    (h : asval P env T G H o.op = some v) : (∃ V, R m v V ∧ (execOp a.eval o).run P w = .ok (.value V) w) ∨
      (∃ fid Args, (execOp a.eval o).run P w = .ok (.enter fid Args) w ∧ Calls P fid Args w fun e w' => ∃ V, e = .returned V ∧ R m v V ∧ Ext [] w [] w') := by
  unfold asval at h
  split at h
  · rename_i c hop
    cases hb : isCalc env (.call c) with
    | false =>
      rw [hb] at h
      simp only [cond_false] at h
      rw [← hop] at h
      exact .inl (areadC_ok hT hG (CR.nil _) hH h)
    | true =>
      rw [hb] at h
      simp only [cond_true] at h
      unfold acalc at h
      split at h
      · rename_i f hc
        split at h
        · rename_i F hF
          split at h
          · rename_i v' hv
            cases hnp : v'.noPtr with
            | false => rw [hnp] at h; cases h
            | true =>
              rw [hnp] at h
              simp only [cond_true, Option.some.injEq] at h
              subst h
              obtain ⟨h1, h2⟩ := hE f _ hF
              have hargs : RL m (c.args.toList.map (ev T)) (c.args.map a.eval).toList := by rw [Array.toList_map]; exact RL_map (fun x => R_ev hT x) _
              refine .inr ⟨f, c.args.map a.eval, ?_, (h2 _ v' rfl hv m _ w hargs).mono fun e w' ⟨V, e1, e2, e3⟩ => ⟨V, e1, R_noPtr v' hnp e2, e3⟩⟩
              simp only [execOp, hop]
              rw [run_resolve_fn (fid := f) (caps := #[]) hc rfl _ w]
              simpa using h1 (c.args.map a.eval) w
          · cases h
        · cases h
      · cases h
  · exact .inl (areadC_ok hT hG (CR.nil _) hH h)

theorem store_frame {P : Program} {e : Operand → AV} {H H' : List AB} {t : TypeId} {a x : Operand} {i o : Nat} (ha : e a = .ptr i o) (h : amem P e H (.store t a x) (fun _ H' => some H') = some H') :
    H'.length = H.length ∧ ∀ j, j ≠ i → H'[j]? = H[j]? := by
  simp only [amem, ha] at h
  split at h
  · rename_i i' o' vs n e1 e2 e3
    cases e1
    split at h
    · rename_i l bt hl
      cases hb : (Nat.beq vs.length n && Nat.ble (o + vs.length) l.length && AV.scalars vs) with
      | false => rw [hb] at h; cases h
      | true =>
        rw [hb] at h
        simp only [cond_true, Option.some.injEq] at h
        subst h
        exact ⟨by simp, fun j hj => by rw [List.getElem?_set_ne (Ne.symm hj)]⟩
    · cases h
  · cases h

theorem Ext.same_len {m m' : List Nat} {w w' : World} (h : Ext m w m' w') {H H' : List AB} (h1 : HR m H w) (h2 : HR m' H' w') (hl : H'.length = H.length) : m' = m := by
  obtain ⟨x, hx, _⟩ := h.pre
  have e1 := h1.len
  have e2 := h2.len
  have : x = [] := by
    rw [hx, List.length_append] at e2
    exact List.eq_nil_of_length_eq_zero (by omega)
  rw [hx, this, List.append_nil]

theorem asops_ok {P : Program} {env : Env} (hE : EnvOk P env) {ops : Array Oper} {n : Nat} {m : List Nat} {Q : Exit → Act → World → Prop} {T' : List (Nat × AV)} {H' : List AB} {W' : List Nat} :
    ∀ (l : List Oper) (k : Nat) (_ : ∀ j, l[j]? = ops[k + j]?) (T : List (Nat × AV)) (G : Weak) (H : List AB) (W : List Nat) (a : Act) (w : World), asops P env ops n l T G H W = some (T', H', W') → TR m n T a.tmps → WR m G a.tmps → HR m H w →
    (∀ a' w', TR m n T' a'.tmps → HR m H' w' → Ext m w m w' → (∀ i, i ∉ dsts l → get T' i = get T i) → (∀ j, j ∉ W' → H'[j]? = H[j]?) → H'.length = H.length → (∀ j ∈ W, j ∈ W') → a'.defers = a.defers → Q .normal a' w') →
    wpOps P ops Q (List.range' k l.length) a w
  | [], k, _, T, G, H, W, a, w, h, hT, _, hH, hQ => by
    simp only [asops, Option.some.injEq, Prod.mk.injEq] at h
    obtain ⟨rfl, rfl, rfl⟩ := h
    simp only [List.length_nil, List.range'_zero, wpOps]
    exact hQ a w hT hH (Ext.refl m w) (fun _ _ => rfl) (fun _ _ => rfl) rfl (fun _ h => h) rfl
  | o :: l, k, hl, T, G, H, W, a, w, h, hT, hG, hH, hQ => by
    have hk : ops[k]? = some o := by have := hl 0; simpa using this.symm
    have hl' : ∀ j, l[j]? = ops[k + 1 + j]? := fun j => by have := hl (j + 1); rw [Nat.add_assoc, Nat.add_comm 1 j]; simpa using this
    have hds : ∀ i, i ∉ dsts (o :: l) → some i ≠ o.dst ∧ i ∉ dsts l := by
      intro i hi
      cases hd : o.dst with
      | none => simp [dsts, hd] at hi ⊢; exact hi
      | some d => simp [dsts, hd] at hi ⊢; exact hi
    simp only [List.length_cons, List.range'_succ, wpOps, hk]
    simp only [asops] at h
    split at h
    · rename_i hg
      have hw : Region.wanted o (yielded ops a.tmps) = true := by simp [Region.wanted, hg]
      rw [if_pos hw]
      cases hdst : dstFree G o.dst with
      | false => rw [hdst] at h; cases h
      | true =>
        rw [hdst] at h
        simp only [cond_true] at h
        split at h
        · rename_i t x y hop
          split at h
          · rename_i i off hod hea
            split at h
            · rename_i H1 hH1
              obtain ⟨f1, f2⟩ := store_frame hea hH1
              rw [← hop] at hH1
              obtain ⟨v, H2, h1, nx, V, w1, m1, h2, h3, h4, h5, h6⟩ := amem_ok (P := P) (fun x => R_ev hT x) hH hH1
              simp only [Option.some.injEq] at h1
              subst h1
              obtain rfl := h6.same_len hH h5 f1
              refine .inl ?_
              unfold Oper.wp
              rw [h2]
              have key : wpOps P ops Q (List.range' (k + 1) l.length) a w1 := by
                refine asops_ok hE l (k + 1) hl' T G H2 (i :: W) a w1 h hT hG h5 fun a3 w3 q1 q2 q3 q4 q5 q6 q7 q8 => ?_
                refine hQ a3 w3 q1 q2 (h6.trans q3) (fun j hj => q4 j (hds j hj).2) (fun j hj => ?_) (q6.trans f1) (fun j hj => q7 j (by simp [hj])) q8
                rw [q5 j hj, f2 j (fun e => hj (q7 j (by simp [e])))]
              rcases h3 with rfl | ⟨rfl, rfl⟩
              · show wpOps P ops Q _ (a.put o.dst V) w1
                rw [hod]; exact key
              · show wpOps P ops Q _ (a.put o.dst undef) w1
                rw [hod]; exact key
            · cases h
          · cases h
        · split at h
          · rename_i v hv
            have hput : ∀ V, R m v V → ∀ w1, Ext [] w [] w1 → wpOps P ops Q (List.range' (k + 1) l.length) (a.put o.dst V) w1 := by
              intro V hV w1 hE1
              have hH1 := hH.same hE1.blocks
              have hsame : Ext m w m w1 := hE1.same
              cases hod : o.dst with
              | none =>
                rw [hod] at h
                simp only at h
                refine asops_ok hE l (k + 1) hl' T G H W a w1 h hT hG hH1 fun a3 w3 q1 q2 q3 q4 q5 q6 q7 q8 => ?_
                exact hQ a3 w3 q1 q2 (hsame.trans q3) (fun j hj => q4 j (hds j hj).2) q5 q6 q7 q8
              | some d =>
                rw [hod] at h
                simp only at h
                cases hb : Nat.ble (d + 1) n with
                | false => rw [hb] at h; cases h
                | true =>
                  rw [hb] at h
                  simp only [cond_true] at h
                  have hG2 := put_dst_WR hG hdst V
                  rw [hod] at hG2
                  refine asops_ok hE l (k + 1) hl' _ G H W (a.put (some d) V) w1 h (hT.put (Nat.le_of_ble_eq_true hb) hV) hG2 hH1 fun a3 w3 q1 q2 q3 q4 q5 q6 q7 q8 => ?_
                  refine hQ a3 w3 q1 q2 (hsame.trans q3) (fun j hj => ?_) q5 q6 q7 (q8.trans (put_defers _ _ _))
                  rw [q4 j (hds j hj).2]
                  exact get_cons_ne (fun e => (hds j hj).1 (by rw [hod, e])) _ _
            rcases asval_ok hE hT hG hH hv with ⟨V, h1, h2⟩ | ⟨fid, Args, h1, h2⟩
            · refine .inl ?_
              unfold Oper.wp
              rw [h2]
              exact hput V h1 w ⟨⟨[], by simp⟩, rfl, rfl, rfl, Nat.le_refl _, fun _ _ _ => rfl⟩
            · refine .inl ?_
              unfold Oper.wp
              rw [h1]
              exact h2.mono fun e w1 ⟨V, e1, e2, e3⟩ => by subst e1; exact hput V e2 w1 e3
          · cases h
    · rename_i j want hg
      split at h
      · rename_i s d hs hd
        cases hb : (Nat.ble (d + 1) n && !(Nat.beq d s) && !(wguards G d)) with
        | false => rw [hb] at h; cases h
        | true =>
          rw [hb] at h
          simp only [Bool.and_eq_true, Bool.not_eq_true'] at hb
          simp only [cond_true] at h
          split at h
          · rename_i v hv
            obtain ⟨g1, g2⟩ := aguardS_ok hT hG hH hg hs hd hb.1.1 hb.1.2 hb.2 hv
            have hfr : ∀ i, some i ≠ o.dst → get ((d, AV.any) :: T) i = get T i := fun i hi => get_cons_ne (fun e => hi (by rw [hd, e])) _ _
            cases hw : Region.wanted o (yielded ops a.tmps) with
            | true =>
              rw [if_pos rfl]
              obtain ⟨V, h1, h2, h3⟩ := g1 hw
              refine .inl ?_
              unfold Oper.wp
              rw [h1]
              show wpOps P ops Q _ (a.put o.dst V) w
              refine asops_ok hE l (k + 1) hl' _ _ H W _ w h h2 h3 hH fun a3 w3 q1 q2 q3 q4 q5 q6 q7 q8 => ?_
              exact hQ a3 w3 q1 q2 q3 (fun i hi => (q4 i (hds i hi).2).trans (hfr i (hds i hi).1)) q5 q6 q7 (q8.trans (put_defers _ _ _))
            | false =>
              rw [if_neg (by simp)]
              obtain ⟨h2, h3⟩ := g2 hw
              refine asops_ok hE l (k + 1) hl' _ _ H W _ w h h2 h3 hH fun a3 w3 q1 q2 q3 q4 q5 q6 q7 q8 => ?_
              exact hQ a3 w3 q1 q2 q3 (fun i hi => (q4 i (hds i hi).2).trans (hfr i (hds i hi).1)) q5 q6 q7 (q8.trans (put_defers _ _ _))
          · cases h
      · cases h

end

theorem asimple_ok {P : Program} {env : Env} (hE : EnvOk P env) {n : Nat} {m : List Nat} : ∀ (c : Code) (_ : simple env c = true) (T T' : List (Nat × AV)) (H H' : List AB) (W W' : List Nat) (a : Act) (w : World) (Q : Exit → Act → World → Prop),
    asimple P env n c T H W = some (T', H', W') → TR m n T a.tmps → HR m H w →
    (∀ a' w', TR m n T' a'.tmps → HR m H' w' → Ext m w m w' → (∀ i, i ∉ writes c → get T' i = get T i) → (∀ j, j ∉ W' → H'[j]? = H[j]?) → H'.length = H.length → (∀ j ∈ W, j ∈ W') → a'.defers = a.defers → Q .normal a' w') → c.wp P Q a w
  | .skip, _, T, T', H, H', W, W', a, w, Q, h, hT, hH, hQ => by
    simp only [asimple, Option.some.injEq, Prod.mk.injEq] at h
    obtain ⟨rfl, rfl, rfl⟩ := h
    exact wp_skip (hQ a w hT hH (Ext.refl m w) (fun _ _ => rfl) (fun _ _ => rfl) rfl (fun _ h => h) rfl)
  | .region id ops false, hs, T, T', H, H', W, W', a, w, Q, h, hT, hH, hQ => by
    simp only [asimple] at h
    refine wp_region ?_
    rw [List.range_eq_range']
    have := asops_ok (P := P) (Q := Q) (ops := ops) (n := n) hE ops.toList 0 (by simp) T [] H W a w h hT (WR.nil _ _) hH (fun a' w' q1 q2 q3 q4 q5 q6 q7 q8 => hQ a' w' q1 q2 q3 q4 q5 q6 q7 q8)
    simpa using this
  | .region _ _ true, hs, _, _, _, _, _, _, _, _, _, _, _, _, _ => by simp [simple] at hs
  | .seq x y, hs, T, T', H, H', W, W', a, w, Q, h, hT, hH, hQ => by
    simp only [simple, Bool.and_eq_true] at hs
    simp only [asimple] at h
    split at h
    · rename_i T1 H1 W1 hT1
      refine wp_seq (asimple_ok hE x hs.1 T T1 H H1 W W1 a w _ hT1 hT hH fun a1 w1 q1 q2 q3 q4 q5 q6 q7 q8 => ?_)
      refine asimple_ok hE y hs.2 T1 T' H1 H' W1 W' a1 w1 Q h q1 q2 fun a2 w2 p1 p2 p3 p4 p5 p6 p7 p8 => hQ a2 w2 p1 p2 (q3.trans p3) (fun i hi => ?_) (fun j hj => ?_) (p6.trans q6) (fun j hj => p7 j (q7 j hj)) (p8.trans q8)
      · simp only [writes, List.mem_append, not_or] at hi
        rw [p4 i hi.2, q4 i hi.1]
      · rw [p5 j hj, q5 j (fun e => hj (p7 j e))]
    · cases h
  | .cond .., hs, _, _, _, _, _, _, _, _, _, _, _, _, _ => by simp [simple] at hs
  | .block .., hs, _, _, _, _, _, _, _, _, _, _, _, _, _ => by simp [simple] at hs
  | .loop .., hs, _, _, _, _, _, _, _, _, _, _, _, _, _ => by simp [simple] at hs
  | .rangeFunc .., hs, _, _, _, _, _, _, _, _, _, _, _, _, _ => by simp [simple] at hs
  | .exit .., hs, _, _, _, _, _, _, _, _, _, _, _, _, _ => by simp [simple] at hs
  | .scope .., hs, _, _, _, _, _, _, _, _, _, _, _, _, _ => by simp [simple] at hs
  | .label .., hs, _, _, _, _, _, _, _, _, _, _, _, _, _ => by simp [simple] at hs
  | .goto .., hs, _, _, _, _, _, _, _, _, _, _, _, _, _ => by simp [simple] at hs
  | .ret, hs, _, _, _, _, _, _, _, _, _, _, _, _, _ => by simp [simple] at hs
  | .refuse .., hs, _, _, _, _, _, _, _, _, _, _, _, _, _ => by simp [simple] at hs

theorem mergeB_cells {x : Bool} {A B C : AB} (h : mergeB x A B = some C) : ∃ l t l', A = .cells l t ∧ B = .cells l' t ∧ C = .cells (mergeL x l l') t ∧ l.length = l'.length := by
  unfold mergeB at h
  split at h
  · rename_i l t l' t'
    cases hb2 : (Nat.beq t t' && Nat.beq l.length l'.length) with
    | false => rw [hb2] at h; cases h
    | true =>
      rw [hb2] at h
      simp only [cond_true, Option.some.injEq] at h
      simp only [Bool.and_eq_true] at hb2
      obtain rfl := Nat.eq_of_beq_eq_true hb2.1
      exact ⟨l, t, l', rfl, rfl, h.symm, Nat.eq_of_beq_eq_true hb2.2⟩
  · cases h
theorem mergeB_ok {m : List Nat} {x : Bool} {A B C : AB} {o : Obj} (h : mergeB x A B = some C) (ha : x = true → RB m A o) (hb : x = false → RB m B o) : RB m C o := by
  obtain ⟨l, t, l', rfl, rfl, rfl, hl⟩ := mergeB_cells h
  cases x
  · obtain ⟨Vs, e, hr⟩ := hb rfl
    exact ⟨Vs, e, RL_merge l l' hl (fun h => by cases h) (fun _ => hr)⟩
  · obtain ⟨Vs, e, hr⟩ := ha rfl
    exact ⟨Vs, e, RL_merge l l' hl (fun _ => hr) (fun h => by cases h)⟩

theorem mergeH_get {x : Bool} {Ha Hb : List AB} : ∀ (is : List Nat) (H H' : List AB), mergeH x Ha Hb is H = some H' → H'.length = H.length ∧ ∀ j, (j ∉ is ∧ H'[j]? = H[j]?) ∨ (∃ A B C, Ha[j]? = some A ∧ Hb[j]? = some B ∧ mergeB x A B = some C ∧ (H'[j]? = some C ∨ H'[j]? = none))
  | [], H, H', h => by
    simp only [mergeH, Option.some.injEq] at h; subst h
    exact ⟨rfl, fun j => .inl ⟨by simp, rfl⟩⟩
  | i :: is, H, H', h => by
    simp only [mergeH] at h
    split at h
    · rename_i A B hA hB
      split at h
      · rename_i C hC
        obtain ⟨hlen, hrest⟩ := mergeH_get is (H.set i C) H' h
        refine ⟨by simpa using hlen, fun j => ?_⟩
        rcases hrest j with ⟨h1, h2⟩ | h1
        · by_cases e : i = j
          · subst e
            refine .inr ⟨A, B, C, hA, hB, hC, ?_⟩
            rw [h2]
            by_cases hlt : i < H.length
            · left; simp [hlt]
            · right; simp; omega
          · left
            refine ⟨by simp [h1]; exact fun e' => e e'.symm, ?_⟩
            rw [h2, List.getElem?_set_ne e]
        · exact .inr h1
      · cases h
    · cases h

theorem HR_merge {m : List Nat} {x : Bool} {H Ha Hb H' : List AB} {Wa Wb : List Nat} {w' : World} (h : mergeH x Ha Hb (Wa ++ Wb) H = some H')
    (ha : x = true → HR m Ha w' ∧ (∀ j, j ∉ Wa → Ha[j]? = H[j]?) ∧ Ha.length = H.length) (hb : x = false → HR m Hb w' ∧ (∀ j, j ∉ Wb → Hb[j]? = H[j]?) ∧ Hb.length = H.length) : HR m H' w' := by
  obtain ⟨hlen, hget⟩ := mergeH_get _ _ _ h
  have key : ∀ (Hx : List AB), HR m Hx w' → (∀ j D, H'[j]? = some D → D.live = true → ∃ B, Hx[j]? = some B ∧ B.live = true ∧ ∀ b o, RB m B o → capAt m j b o B → RB m D o ∧ capAt m j b o D) → Hx.length = H.length → HR m H' w' := by
    intro Hx hx hk hl
    refine ⟨by rw [hx.len, hl, hlen], ?_, ?_⟩
    · intro i j b B C h1 h2 h3 h4 h5 h6
      obtain ⟨B', b1, b2, _⟩ := hk i B h3 h5
      obtain ⟨C', c1, c2, _⟩ := hk j C h4 h6
      exact hx.nodup i j b B' C' h1 h2 b1 c1 b2 c2
    · intro i D hD hDl
      obtain ⟨B, b1, b2, b3⟩ := hk i D hD hDl
      obtain ⟨b, o, e1, e2, e3, e4⟩ := hx.all i B b1 b2
      exact ⟨b, o, e1, e2, b3 b o e3 e4⟩
  cases x
  · obtain ⟨r1, r2, r3⟩ := hb rfl
    refine key Hb r1 (fun i D hD hDl => ?_) r3
    rcases hget i with ⟨h1, h2⟩ | ⟨A, B, C, h1, h2, h3, h4⟩
    · simp only [List.mem_append, not_or] at h1
      rw [h2] at hD
      exact ⟨D, by rw [r2 i h1.2]; exact hD, hDl, fun b o p q => ⟨p, q⟩⟩
    · rcases h4 with h4 | h4
      · rw [h4] at hD; cases hD
        have hm := h3
        obtain ⟨l, t, l', rfl, rfl, rfl, hl⟩ := mergeB_cells h3
        exact ⟨_, h2, rfl, fun b o p _ => ⟨mergeB_ok hm (fun h => by cases h) (fun _ => p), trivial⟩⟩
      · rw [h4] at hD; cases hD
  · obtain ⟨r1, r2, r3⟩ := ha rfl
    refine key Ha r1 (fun i D hD hDl => ?_) r3
    rcases hget i with ⟨h1, h2⟩ | ⟨A, B, C, h1, h2, h3, h4⟩
    · simp only [List.mem_append, not_or] at h1
      rw [h2] at hD
      exact ⟨D, by rw [r2 i h1.1]; exact hD, hDl, fun b o p q => ⟨p, q⟩⟩
    · rcases h4 with h4 | h4
      · rw [h4] at hD; cases hD
        have hm := h3
        obtain ⟨l, t, l', rfl, rfl, rfl, hl⟩ := mergeB_cells h3
        exact ⟨_, h1, rfl, fun b o p _ => ⟨mergeB_ok hm (fun _ => p) (fun h => by cases h), trivial⟩⟩
      · rw [h4] at hD; cases hD

theorem get_mergeT {x : Bool} {Ta Tb : List (Nat × AV)} : ∀ (ds : List Nat) (T : List (Nat × AV)) (i : Nat), (i ∈ ds ∧ get (mergeT x Ta Tb ds T) i = mergeAV x (get Ta i) (get Tb i)) ∨ (i ∉ ds ∧ get (mergeT x Ta Tb ds T) i = get T i)
  | [], T, i => .inr ⟨by simp, rfl⟩
  | d :: ds, T, i => by
    by_cases e : d = i
    · subst e
      refine .inl ⟨by simp, ?_⟩
      simp [mergeT, get]
    · simp only [mergeT]
      rw [get_cons_ne e]
      rcases get_mergeT ds T i with ⟨h1, h2⟩ | ⟨h1, h2⟩
      · exact .inl ⟨by simp [h1], h2⟩
      · exact .inr ⟨by simp [h1]; exact fun h => e h.symm, h2⟩

theorem TR_merge {m : List Nat} {n : Nat} {x : Bool} {T Ta Tb : List (Nat × AV)} {tmps : Array Value} {wa wb : List Nat} (ha : x = true → TR m n Ta tmps ∧ ∀ i, i ∉ wa → get Ta i = get T i) (hb : x = false → TR m n Tb tmps ∧ ∀ i, i ∉ wb → get Tb i = get T i) :
    TR m n (mergeT x Ta Tb (wa ++ wb) T) tmps := by
  refine ⟨by cases x; exact (hb rfl).1.1; exact (ha rfl).1.1, fun i => ?_⟩
  rcases get_mergeT (x := x) (Ta := Ta) (Tb := Tb) (wa ++ wb) T i with ⟨h1, h2⟩ | ⟨h1, h2⟩
  · rw [h2]
    exact R_merge _ _ (fun e => (ha e).1.2 i) (fun e => (hb e).1.2 i)
  · rw [h2]
    simp only [List.mem_append, not_or] at h1
    cases x
    · rw [← (hb rfl).2 i h1.2]; exact (hb rfl).1.2 i
    · rw [← (ha rfl).2 i h1.1]; exact (ha rfl).1.2 i

section
variable {ρ : Type}

/-! ### Code -/
def exOf : Ex → Exit
  | .normal => .normal
  | .exit id => .exit id
  | .ret => .ret

theorem TR_mkT {m : List Nat} : ∀ (args : List AV) (Args : List Value) (k : Nat), RL m args Args → ∀ i, get (mkT k args) i = .any ∨ ∃ j V, i = k + j ∧ Args[j]? = some V ∧ R m (get (mkT k args) i) V
  | [], _, _, _, _ => .inl rfl
  | v :: args, _, k, h, i => by
    obtain ⟨V, Vs', rfl, h2, h3⟩ := RL_cons.1 h
    simp only [mkT, get]
    cases hb : Nat.beq k i with
    | true => exact .inr ⟨0, V, by have := Nat.eq_of_beq_eq_true hb; omega, by simp, by simpa using h2⟩
    | false =>
      simp only [cond_false]
      rcases TR_mkT args Vs' (k + 1) h3 i with h4 | ⟨j, V', e1, e2, e3⟩
      · exact .inl h4
      · exact .inr ⟨j + 1, V', by omega, by simpa using e2, e3⟩

theorem TR_enter {m : List Nat} {args : List AV} {Args : Array Value} (h : RL m args Args.toList) {n : Nat} (hn : args.length ≤ n) :
    TR m n (mkT 0 args) (Args ++ Array.replicate (n - Args.size) undef) := by
  have hl : Args.size = args.length := by have := RL_len h; simpa using this
  refine ⟨by simp; omega, fun i => ?_⟩
  rcases TR_mkT args Args.toList 0 h i with h4 | ⟨j, V, e1, e2, e3⟩
  · rw [h4]; simp only [R]
  · have hj : j < Args.size := by have := (List.getElem?_eq_some_iff.1 e2).1; simpa using this
    have : (Args ++ Array.replicate (n - Args.size) undef).getD i undef = V := by
      obtain rfl : i = j := by omega
      rw [Array.getD_eq_getD_getElem?, Array.getElem?_append_left hj]
      have : Args[i]? = some V := by simpa using e2
      rw [this]; rfl
    rw [this]; exact e3

theorem ares_ok {P : Program} {m : List Nat} {n : Nat} {T : List (Nat × AV)} {tmps : Array Value} (hT : TR m n T tmps) {H : List AB} {w : World} (hH : HR m H w) {f : ResultVar → Sem Value} (f1 : ∀ t, f (.tmp t) = pure (tmps.getD t undef)) (f2 : ∀ a t, f (.cell a t) = do loadVar t (← asAddr (tmps.getD a undef))) : ∀ (l : List ResultVar) (vs : List AV), ares P T H l = some vs →
    ∃ Vs, RL m vs Vs ∧ (l.mapM f).run P w = .ok Vs w
  | [], vs, h => by simp only [ares, Option.some.injEq] at h; subst h; exact ⟨[], RL_nil.2 rfl, by simp⟩
  | .tmp t :: l, vs, h => by
    simp only [ares] at h
    split at h
    · rename_i us hus
      cases h
      obtain ⟨Vs, h1, h2⟩ := ares_ok hT hH f1 f2 l us hus
      refine ⟨tmps.getD t undef :: Vs, RL.cons (hT.2 t) h1, ?_⟩
      rw [List.mapM_cons, f1]
      simp only [Sem.run_bind, Sem.run_pure, Result.andThen_ok, h2]
    · cases h
  | .cell a t :: l, vs, h => by
    simp only [ares] at h
    split at h
    · rename_i v us hv hus
      cases h
      obtain ⟨Vs, h1, h2⟩ := ares_ok hT hH f1 f2 l us hus
      obtain ⟨V, h3, h4⟩ := loadA_ok hH (hT.2 a) hv
      have h5 := h4 w (fun _ _ => rfl)
      refine ⟨V :: Vs, RL.cons h3 h1, ?_⟩
      rw [List.mapM_cons, f2]
      have h6 : (do loadVar t (← asAddr (tmps.getD a undef)) : Sem Value).run P w = .ok V w := by
        have hA := hT.2 a
        unfold loadA at hv
        split at hv
        · rename_i i o heq
          rw [heq] at hA
          simp only [R] at hA
          obtain ⟨b, _, hA⟩ := hA
          rw [hA] at h5 ⊢
          simpa [Instr.loadAt, Instr.sureAddr, asAddr] using h5
        · cases hv
      simp only [Sem.run_bind] at h6 ⊢
      simp only [h6, Result.andThen_ok, Sem.run_pure, h2]
    · cases h

theorem results_ok {P : Program} {m : List Nat} {n : Nat} {T : List (Nat × AV)} {tmps : Array Value} (hT : TR m n T tmps) {H : List AB} {w : World} (hH : HR m H w) {fn : Func} {vs : List AV} (h : ares P T H fn.results.toList = some vs) :
    ∃ V, R m (tupOf vs) V ∧ (results fn tmps).run P w = .ok V w := by
  have key : ∃ Vs, RL m vs Vs ∧ (results fn tmps).run P w = .ok (if h : (⟨Vs⟩ : Array Value).size = 1 then (⟨Vs⟩ : Array Value)[0] else .tuple ⟨Vs⟩) w := by
    unfold results
    rw [Array.mapM_eq_mapM_toList]
    simp only [map_eq_pure_bind, Sem.run_bind, Sem.run_pure]
    generalize hf : (fun (x : ResultVar) => (_ : Sem Value)) = f
    obtain ⟨Vs, h1, h2⟩ := ares_ok hT hH (f := f) (fun t => by rw [← hf]) (fun a t => by rw [← hf]) fn.results.toList vs h
    exact ⟨Vs, h1, by rw [h2]; rfl⟩
  obtain ⟨Vs, h1, h2⟩ := key
  have hl := RL_len h1
  refine ⟨if h : (⟨Vs⟩ : Array Value).size = 1 then (⟨Vs⟩ : Array Value)[0] else .tuple ⟨Vs⟩, ?_, ?_⟩
  · match vs, Vs, h1, hl with
    | [], [], _, _ => simp [tupOf, R, RL]
    | [v], [V], h1, _ =>
      obtain ⟨V', Vs', e1, e2, e3⟩ := RL_cons.1 h1
      cases e1
      simpa [tupOf] using e2
    | u :: v :: vs, U :: V :: Vs, h1, _ =>
      simp only [tupOf, R]
      exact ⟨U :: V :: Vs, by simp, h1⟩
  · exact h2

theorem acall_of_code {P : Program} {env : Env} {fuel : Nat}
    (ih : ∀ (n : Nat) (c : Code) (T : List (Nat × AV)) (H : List AB) (K : Ex → List (Nat × AV) → List AB → Option ρ) (r : ρ), acode P env fuel n c T H K = some r → ∀ (m : List Nat) (a : Act) (w : World) (Q : Exit → Act → World → Prop), TR m n T a.tmps → HR m H w → a.defers = [] →
      (∀ e T' H' a' m' w', TR m' n T' a'.tmps → HR m' H' w' → Ext m w m' w' → a'.defers = [] → K e T' H' = some r → Q (exOf e) a' w') → c.wp P Q a w)
    {fid : FuncId} {fn : Func} (hfn : P.funcs[fid]? = some fn) {c' : Code} (hc' : fn.body = some c') {args : List AV} (hle : args.length ≤ fn.ntmps) {H : List AB} {K : AV → List AB → Option ρ} {r : ρ}
    (h : acode P env fuel fn.ntmps c' (mkT 0 args) H (fun e T' H' => match e with | .exit _ => none | _ => match ares P T' H' fn.results.toList with | some vs => K (tupOf vs) H' | none => none) = some r)
    {m : List Nat} {Args : Array Value} {w : World} (hA : RL m args Args.toList) (hH : HR m H w) :
    Calls P fid Args w fun e w' => ∃ v V m' H', e = .returned V ∧ R m' v V ∧ HR m' H' w' ∧ Ext m w m' w' ∧ K v H' = some r := by
  refine calls_of_wp hfn hc' (ih _ _ _ _ _ _ h m _ w _ (TR_enter hA hle) hH rfl ?_)
  intro e T' H' a' m' w' q1 q2 q3 q4 q5
  cases e with
  | exit id => cases q5
  | normal =>
    simp only at q5
    split at q5
    · rename_i vs hvs
      obtain ⟨V, h1, h2⟩ := results_ok q1 q2 hvs
      exact ⟨q4, V, h2, _, V, m', H', rfl, h1, q2, q3, q5⟩
    · cases q5
  | ret =>
    simp only at q5
    split at q5
    · rename_i vs hvs
      obtain ⟨V, h1, h2⟩ := results_ok q1 q2 hvs
      exact ⟨q4, V, h2, _, V, m', H', rfl, h1, q2, q3, q5⟩
    · cases q5

end
end Go.Proofs.Ytlkclpkpggapbaa.Ae
