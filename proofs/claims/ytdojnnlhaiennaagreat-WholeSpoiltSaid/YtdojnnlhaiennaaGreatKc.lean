/- What the interpreter finds is what the model's call comes to. Conditions: the contracts that are looked up hold. -/
import Derived.Test.YtdojnnlhaiennaaGreatKb
namespace Go.Proofs.YtdojnnlhaiennaaGreat.Ae
open Go

theorem TR.know {m : List Nat} {n : Nat} {T : List (Nat × AV)} {tmps : Array Value} (h : TR m n T tmps) {d : Nat} {v : AV} (hv : R m v (tmps.getD d undef)) : TR m n ((d, v) :: T) tmps := by
  refine ⟨h.1, fun i => ?_⟩
  unfold get
  cases hb : Nat.beq d i with
  | true => rw [Nat.eq_of_beq_eq_true hb] at hv; exact hv
  | false => exact h.2 i

section
variable {ρ : Type}

theorem aput_ok {m : List Nat} {n : Nat} {dst : Option Tmp} {v : AV} {V : Value} {T : List (Nat × AV)} {a : Act} {K : List (Nat × AV) → Option ρ} {r : ρ} (h : aput n dst v T K = some r) (hT : TR m n T a.tmps) (hv : R m v V) :
    ∃ T', K T' = some r ∧ TR m n T' (a.put dst V).tmps := by
  cases dst with
  | none => exact ⟨T, h, hT⟩
  | some d =>
    simp only [aput] at h
    cases hb : Nat.ble (d + 1) n with
    | false => rw [hb] at h; cases h
    | true => rw [hb] at h; exact ⟨_, h, hT.put (Nat.le_of_ble_eq_true hb) hv⟩

theorem put_defers (a : Act) (dst : Option Tmp) (V : Value) : (a.put dst V).defers = a.defers := by cases dst <;> rfl

theorem aguard_ok {m : List Nat} {ops : Array Oper} {n : Nat} {o : Oper} {T : List (Nat × AV)} {tmps : Array Value} {run skip : List (Nat × AV) → Option ρ} {r : ρ} (h : aguard ops n o T run skip = some r) (hT : TR m n T tmps) :
    (∃ T', run T' = some r ∧ TR m n T' tmps ∧ Region.wanted o (yielded ops tmps) = true) ∨ (∃ T', skip T' = some r ∧ TR m n T' tmps ∧ Region.wanted o (yielded ops tmps) = false) := by
  unfold aguard at h
  split at h
  · rename_i hg
    exact .inl ⟨T, h, hT, by simp [Region.wanted, hg]⟩
  · rename_i j want hg
    split at h
    · cases h
    · rename_i d hd
      cases hb : Nat.ble (d + 1) n with
      | false => rw [hb] at h; cases h
      | true =>
        rw [hb] at h
        simp only [cond_true] at h
        have hd1 : d + 1 ≤ n := Nat.le_of_ble_eq_true hb
        have hsz : tmps.size = n := hT.1
        have hlt : d < tmps.size := hsz ▸ hd1
        split at h
        · rename_i x hx
          have hR := hT.2 d
          rw [hx] at hR
          simp only [R] at hR
          have hy : yielded ops tmps j = some x := by
            have hg' : tmps[d]? = some (.bool x) := by
              rw [Array.getElem?_eq_getElem hlt]
              rw [Array.getD_eq_getD_getElem?, Array.getElem?_eq_getElem hlt] at hR
              simpa using hR
            unfold yielded
            rw [hd]
            show (match tmps[d]? with | some (.bool b) => some b | _ => none) = some x
            rw [hg']
          have hw : Region.wanted o (yielded ops tmps) = (x == want) := by simp [Region.wanted, hg, hy]
          have hT' : TR m n ((d, .bool x) :: T) tmps := hT.know (by simp only [R]; exact hR)
          cases x <;> cases want <;> simp at h <;> first
            | exact .inl ⟨_, h, hT', by rw [hw]; rfl⟩
            | exact .inr ⟨_, h, hT', by rw [hw]; rfl⟩
        · cases h

theorem RL_map {m : List Nat} {f : Operand → AV} {g : Operand → Value} (h : ∀ x, R m (f x) (g x)) : ∀ l : List Operand, RL m (l.map f) (l.map g)
  | [] => RL_nil.2 rfl
  | x :: l => RL.cons (h x) (RL_map h l)

theorem abuiltin_ok {P : Program} {m : List Nat} {b : Builtin} {ts : Array TypeId} {args : List AV} {Args : Array Value} (hA : RL m args Args.toList) {K : AV → Option ρ} {r : ρ} (h : abuiltin P b ts args K = some r) (type : TypeId) (consts : Array Bool) :
    ∃ v V, K v = some r ∧ R m v V ∧ ∀ w, (builtin b ts type consts Args).run P w = .ok (.value V) w := by
  unfold abuiltin at h
  split at h
  · rename_i x
    obtain ⟨X, _, e1, hx, e2⟩ := RL_cons.1 hA
    rw [RL_nil.1 e2] at e1
    have hArgs : Args = #[X] := Array.toList_inj.1 (by rw [e1])
    split at h
    · rename_i t ht
      split at h
      all_goals (try (cases h; done))
      · rename_i s hu
        simp only [R] at hx
        exact ⟨_, _, h, R_int _ _ _, run_v fun w => by rw [hArgs, hx]; simp [Builtin.len_, ht, run_underlying hu, goInt]⟩
      · rename_i s n g hu
        simp only [R] at hx
        obtain ⟨hx, hn, _⟩ := hx
        subst hn
        exact ⟨_, _, h, R_int _ _ _, run_v fun w => by rw [hArgs, hx]; simp [Builtin.len_, ht, run_underlying hu, goInt]⟩
      · rename_i s lo _ ex hu
        simp only [R] at hx
        obtain ⟨hx, ⟨hlo, _⟩, hex⟩ := hx
        exact ⟨_, .int .i64 s.size, h, by simp only [R]; exact ⟨trivial, ⟨by simp; omega, by simp⟩, hex⟩, run_v fun w => by rw [hArgs, hx]; simp [Builtin.len_, ht, run_underlying hu, goInt]⟩
      · rename_i k _ hu
        exact ⟨_, .int .i64 k, h, R_int _ _ _, run_v fun w => by rw [hArgs]; simp [Builtin.len_, ht, run_underlying hu, goInt]⟩
      · rename_i hu
        simp only [R] at hx
        obtain ⟨c, _, hX⟩ := hx
        exact ⟨_, _, h, R_int _ _ _, run_v fun w => by rw [hArgs, hX]; simp [Builtin.len_, ht, run_underlying hu, goInt]⟩
      · rename_i hu
        simp only [R] at hx
        exact ⟨_, _, h, R_int _ _ _, run_v fun w => by rw [hArgs, hx]; simp [Builtin.len_, ht, run_underlying hu, goInt]⟩
      · rename_i hu
        simp only [R] at hx
        obtain ⟨c, _, _, _, _, hX⟩ := hx
        exact ⟨_, _, h, R_int _ _ _, run_v fun w => by rw [hArgs, hX]; simp [Builtin.len_, ht, run_underlying hu, goInt]⟩
    · cases h
  · rename_i k x k' y
    obtain ⟨X, _, e1, hx, e2⟩ := RL_cons.1 hA
    obtain ⟨Y, _, rfl, hy, e3⟩ := RL_cons.1 e2
    rw [RL_nil.1 e3] at e1
    have hArgs : Args = #[X, Y] := Array.toList_inj.1 (by rw [e1])
    simp only [R] at hx hy
    exact ⟨_, _, h, R_int _ _ _, run_v fun w => by rw [hArgs, hx, hy]; simp [Builtin.max_, Builtin.max2]⟩
  · rename_i k x k' y
    obtain ⟨X, _, e1, hx, e2⟩ := RL_cons.1 hA
    obtain ⟨Y, _, rfl, hy, e3⟩ := RL_cons.1 e2
    rw [RL_nil.1 e3] at e1
    have hArgs : Args = #[X, Y] := Array.toList_inj.1 (by rw [e1])
    simp only [R] at hx hy
    exact ⟨_, _, h, R_int _ _ _, run_v fun w => by rw [hArgs, hx, hy]; simp [Builtin.min_, Builtin.min2]⟩
  · cases h

/-- What the calls inside a region are to come to. -/
def DC (P : Program) (doCall : FuncId → List AV → List AB → (AV → List AB → Option ρ) → Option ρ) : Prop :=
  ∀ fid args H K r, doCall fid args H K = some r → ∀ m (Args : Array Value) w, RL m args Args.toList → HR m H w →
    (∃ v V, K v H = some r ∧ R m v V ∧ (callFunc fid Args).run P w = .ok (.value V) w) ∨
    ((callFunc fid Args).run P w = .ok (.enter fid Args) w ∧ Calls P fid Args w fun e w' => ∃ v V m' H', e = .returned V ∧ R m' v V ∧ HR m' H' w' ∧ Ext m w m' w' ∧ K v H' = some r)

theorem run_resolve_fn {P : Program} {E : Operand → Value} {c : Call} {f : Operand} (hc : c.callee = .value f) {fid : FuncId} {caps : Array Value} (hf : E f = .func (.func fid) #[] caps) (type : TypeId) (w : World) :
    (do let d ← resolve E c type; invoke d.target d.args : Sem Next).run P w = (callFunc fid (c.args.map E ++ caps)).run P w := by
  simp only [Sem.run_bind, resolve, hc, hf, Deferred.ofValue, Sem.run_pure, Result.andThen_ok, invoke]
  simp

theorem run_resolve_builtin {P : Program} {E : Operand → Value} {c : Call} {b : Builtin} (hc : c.callee = .builtin b) (type : TypeId) :
    ∃ consts, ∀ w, (do let d ← resolve E c type; invoke d.target d.args : Sem Next).run P w = (builtin b c.argTypes type consts (c.args.map E)).run P w := by
  simp only [Sem.run_bind, resolve, hc, Sem.run_pure, Result.andThen_ok, invoke]
  exact ⟨_, fun _ => rfl⟩

theorem aexec_ok {P : Program} {doCall : FuncId → List AV → List AB → (AV → List AB → Option ρ) → Option ρ} (hD : DC P doCall) {m : List Nat} {n : Nat} {T : List (Nat × AV)} {a : Act} (hT : TR m n T a.tmps) {H : List AB} {w : World} (hH : HR m H w)
    {o : Oper} {K : AV → List AB → Option ρ} {r : ρ} (h : aexec P doCall o T H K = some r) {next : Act → World → Prop} {Q : Exit → Act → World → Prop}
    (hn : ∀ v H' V m' w', R m' v V → HR m' H' w' → Ext m w m' w' → K v H' = some r → next (a.put o.dst V) w') : o.wp P a w next Q := by
  have he := fun x => R_ev hT x
  unfold aexec at h
  split at h
  · rename_i c hop
    split at h
    · rename_i f hc
      split at h
      · rename_i fid cap hf
        have hF := he f
        rw [hf] at hF
        simp only [R] at hF
        obtain ⟨Vs, hE, hcap⟩ := hF
        have hargs : RL m (c.args.toList.map (ev T) ++ cap) (c.args.map a.eval ++ ⟨Vs⟩ : Array Value).toList := by
          rw [Array.toList_append, Array.toList_map]
          exact RL_append hcap (RL_map he _)
        have hrun : (execOp a.eval o).run P w = (callFunc fid (c.args.map a.eval ++ ⟨Vs⟩)).run P w := by
          simp only [execOp, hop]
          exact run_resolve_fn hc hE _ w
        rcases hD fid _ H K r h m _ w hargs hH with ⟨v, V, h1, h2, h3⟩ | ⟨h1, h2⟩
        · unfold Oper.wp
          rw [hrun, h3]
          exact hn v H V m w h2 hH (Ext.refl m w) h1
        · unfold Oper.wp
          rw [hrun, h1]
          exact h2.mono fun e w' ⟨v, V, m', H', e1, e2, e3, e4, e5⟩ => by subst e1; exact hn v H' V m' w' e2 e3 e4 e5
      · cases h
    · rename_i b hc
      have hargs : RL m (c.args.toList.map (ev T)) (c.args.map a.eval).toList := by
        rw [Array.toList_map]; exact RL_map he _
      obtain ⟨consts, hrun⟩ := run_resolve_builtin (P := P) (E := a.eval) hc o.type
      split at h
      · have hap : ∃ v H', K v H' = some r ∧ Appended P m w (Builtin.append_ c.argTypes o.type (c.args.map a.eval)) v H' := by
          split at h
          · rename_i el z hbe
            exact aappendZ_ok (P := P) hbe hargs hH h o.type
          · split at h
            · rename_i el hse
              exact aappendS_ok (P := P) hse hargs hH h o.type
            · exact aappend_ok (P := P) hargs hH h o.type
        obtain ⟨v, H', h1, V, w', m', h2, h3, h4, h5⟩ := hap
        unfold Oper.wp
        have : (execOp a.eval o).run P w = .ok (.value V) w' := by
          simp only [execOp, hop]
          rw [hrun]
          show (do pure (.value (← Builtin.append_ c.argTypes o.type (c.args.map a.eval))) : Sem Next).run P w = _
          simp only [Sem.run_bind, h2, Result.andThen_ok, Sem.run_pure]
        rw [this]
        exact hn v H' V m' w' h3 h4 h5 h1
      · obtain ⟨v, V, h1, h2, h3⟩ := abuiltin_ok (P := P) hargs h o.type consts
        unfold Oper.wp
        have : (execOp a.eval o).run P w = .ok (.value V) w := by
          simp only [execOp, hop]
          rw [hrun, h3]
        rw [this]
        exact hn v H V m w h2 hH (Ext.refl m w) h1
    · cases h
  · rename_i t x hop
    split at h
    · rename_i o0' o' f' k' n' htb
      obtain ⟨v, V, h1, h2, h3⟩ := tabK_ok hH (he x) htb h
      unfold Oper.wp
      have : (execOp a.eval o).run P w = .ok (.value V) w := by
        simp only [execOp, hop, Sem.run_bind, h3, Result.andThen_ok, Sem.run_pure]
      rw [this]
      exact hn v H V m w h2 hH (Ext.refl m w) h1
    · split at h
      · rename_i v hv
        obtain ⟨V, h1, h2⟩ := loadA_ok hH (he x) hv
        unfold Oper.wp
        have : (execOp a.eval o).run P w = .ok (.value V) w := by
          simp only [execOp, hop, Sem.run_bind, h2 w (fun _ _ => rfl), Result.andThen_ok, Sem.run_pure]
        rw [this]
        exact hn v H V m w h1 hH (Ext.refl m w) h
      · cases h
  · rename_i t x k ok hop
    split at h
    · rename_i v hv
      obtain ⟨V, h1, h2⟩ := lookupA_ok (P := P) hH (he x) (he k) hv
      unfold Oper.wp
      have : (execOp a.eval o).run P w = .ok (.value V) w := by
        simp only [execOp, hop, Sem.run_bind, h2, Result.andThen_ok, Sem.run_pure]
      rw [this]
      exact hn v H V m w h1 hH (Ext.refl m w) h
    · cases h
  · rename_i t l c hop
    obtain ⟨v, H', h1, V, w', m', h2, h3, h4, h5⟩ := amake_ok (P := P) (he l) (he c) hH h
    unfold Oper.wp
    have : (execOp a.eval o).run P w = .ok (.value V) w' := by
      simp only [execOp, hop, Sem.run_bind, h2, Result.andThen_ok, Sem.run_pure]
    rw [this]
    exact hn v H' V m' w' h3 h4 h5 h1
  · rename_i s d x hop
    cases hrc : isRowConv P s d with
    | true =>
      rw [hrc] at h
      simp only [cond_true] at h
      obtain ⟨v, H', h1, V, w', m', h2, h3, h4, h5⟩ := aconvR_ok (P := P) (he x) hH h
      unfold Oper.wp
      have : (execOp a.eval o).run P w = .ok (.value V) w' := by
        simp only [execOp, hop, Sem.run_bind, h2, Result.andThen_ok, Sem.run_pure]
      rw [this]
      exact hn v H' V m' w' h3 h4 h5 h1
    | false =>
      rw [hrc] at h
      simp only [cond_false] at h
      rw [← hop] at h
      obtain ⟨v, V, h1, h2, h3⟩ := apure_ok (P := P) he h
      unfold Oper.wp
      rw [h3]
      exact hn v H V m w h2 hH (Ext.refl m w) h1
  · cases hb : isMem o.op with
    | true =>
      rw [hb] at h
      obtain ⟨v, H', h1, nx, V, w', m', h2, h3, h4, h5, h6⟩ := amem_ok (P := P) he hH h
      unfold Oper.wp
      rw [h2]
      rcases h3 with rfl | ⟨rfl, rfl⟩
      · exact hn v H' V m' w' h4 h5 h6 h1
      · exact hn v H' _ m' w' h4 h5 h6 h1
    | false =>
      rw [hb] at h
      simp only [cond_false] at h
      obtain ⟨v, V, h1, h2, h3⟩ := apure_ok (P := P) he h
      unfold Oper.wp
      rw [h3]
      exact hn v H V m w h2 hH (Ext.refl m w) h1

theorem aops_ok {P : Program} {doCall : FuncId → List AV → List AB → (AV → List AB → Option ρ) → Option ρ} (hD : DC P doCall) {ops : Array Oper} {n : Nat} {Q : Exit → Act → World → Prop} {K : List (Nat × AV) → List AB → Option ρ} {r : ρ} :
    ∀ (l : List Oper) (k : Nat) (_ : ∀ j, l[j]? = ops[k + j]?) (m : List Nat) (T : List (Nat × AV)) (H : List AB) (a : Act) (w : World), aops P doCall ops n l T H K = some r → TR m n T a.tmps → HR m H w →
    (∀ T' H' a' m' w', TR m' n T' a'.tmps → HR m' H' w' → Ext m w m' w' → a'.defers = a.defers → K T' H' = some r → Q .normal a' w') →
    wpOps P ops Q (List.range' k l.length) a w
  | [], k, _, m, T, H, a, w, h, hT, hH, hQ => by
    simp only [aops] at h
    simp only [List.length_nil, List.range'_zero, wpOps]
    exact hQ T H a m w hT hH (Ext.refl m w) rfl h
  | o :: l, k, hl, m, T, H, a, w, h, hT, hH, hQ => by
    have hk : ops[k]? = some o := by have := hl 0; simpa using this.symm
    have hl' : ∀ j, l[j]? = ops[k + 1 + j]? := fun j => by have := hl (j + 1); rw [Nat.add_assoc, Nat.add_comm 1 j]; simpa using this
    simp only [List.length_cons, List.range'_succ, wpOps, hk]
    simp only [aops] at h
    rcases aguard_ok h hT with ⟨T1, h1, hT1, hw⟩ | ⟨T1, h1, hT1, hw⟩
    · rw [if_pos hw]
      refine .inl (aexec_ok hD hT1 hH h1 fun v H' V m' w' hv hH' hE hK => ?_)
      have hT1' : TR m' n T1 a.tmps := by obtain ⟨x, hx, _⟩ := hE.pre; rw [hx]; exact hT1.mono x
      obtain ⟨T2, h2, hT2⟩ := aput_ok hK hT1' hv
      exact aops_ok hD l (k + 1) hl' m' T2 H' _ w' h2 hT2 hH' fun T3 H3 a3 m3 w3 q1 q2 q3 q4 q5 => hQ T3 H3 a3 m3 w3 q1 q2 (hE.trans q3) (q4.trans (put_defers _ _ _)) q5
    · rw [if_neg (by simp [hw])]
      obtain ⟨T2, h2, hT2⟩ := aput_ok (V := undef) h1 hT1 (by simp only [R])
      exact aops_ok hD l (k + 1) hl' m T2 H _ w h2 hT2 hH fun T3 H3 a3 m3 w3 q1 q2 q3 q4 q5 => hQ T3 H3 a3 m3 w3 q1 q2 q3 (q4.trans (put_defers _ _ _)) q5

/-! ### Regions that draw their order -/
theorem HR.same {m : List Nat} {H : List AB} {w w' : World} (h : HR m H w) (hs : ∀ k, k < w.heap.size → w'.heap[k]? = w.heap[k]?) : HR m H w' :=
  ⟨h.len, h.nodup, fun i B hB hl => by
    obtain ⟨b, o, h1, h2, h3, h4⟩ := h.all i B hB hl
    exact ⟨b, o, h1, by rw [hs b (Array.getElem?_eq_some_iff.1 h2).1]; exact h2, h3, h4⟩⟩

theorem Ext.blocks {w w' : World} (h : Ext [] w [] w') : ∀ k, k < w.heap.size → w'.heap[k]? = w.heap[k]? := fun k hk => h.block k hk (by simp)
theorem Ext.same {m : List Nat} {w w' : World} (h : Ext [] w [] w') : Ext m w m w' := ⟨⟨[], by simp⟩, h.os, h.tape, h.output, h.size, fun k hk _ => h.blocks k hk⟩

theorem aexecQ_ok {P : Program} {env : Env} (hE : EnvOk P env) {m : List Nat} {n : Nat} {T : List (Nat × AV)} {a : Act} (hT : TR m n T a.tmps) {H : List AB} {w : World} (hH : HR m H w)
    {o : Oper} {K : AV → Option ρ} {r : ρ} (h : aexecQ P env o T H K = some r) {next : Act → Prop}
    (hn : ∀ v V, R m v V → K v = some r → next (a.put o.dst V)) : o.quiet P a (fun w' => Ext [] w [] w') next := by
  have he := fun x => R_ev hT x
  unfold aexecQ at h
  split at h
  · rename_i c hop
    split at h
    · rename_i f hc
      split at h
      · rename_i fid hf
        split at h
        · rename_i C F hF
          cases hC : C (c.args.toList.map (ev T)) with
          | false => rw [hC] at h; cases h
          | true =>
          rw [hC] at h
          simp only [cond_true] at h
          split at h
          · rename_i v hv
            cases hb : v.noPtr with
            | false => rw [hb] at h; cases h
            | true =>
              rw [hb] at h
              have hFe := he f
              rw [hf] at hFe
              simp only [R] at hFe
              obtain ⟨Vs, hE', hcap⟩ := hFe
              have hVs : Vs = [] := RL_nil.1 hcap
              subst hVs
              obtain ⟨henter, hpure⟩ := hE fid _ hF
              have hargs : RL m (c.args.toList.map (ev T)) (c.args.map a.eval).toList := by rw [Array.toList_map]; exact RL_map he _
              have hcalls := fun w' => hpure _ v hC hv m (c.args.map a.eval) w' hargs
              obtain ⟨e0, w0, fr0, ⟨V, _, hRV, _⟩, _⟩ := hcalls w []
              refine ⟨V, fun w' hw' => ?_, hn v V (R_noPtr v hb hRV) h⟩
              unfold Oper.quietAt
              have hrun : (execOp a.eval o).run P w' = .ok (.enter fid (c.args.map a.eval)) w' := by
                simp only [execOp, hop]
                rw [run_resolve_fn hc hE' _ w']
                simpa using henter (c.args.map a.eval) w'
              rw [hrun]
              refine ⟨rfl, (hcalls w').mono fun e w'' ⟨V', e1, e2, e3⟩ => ⟨?_, hw'.trans e3⟩⟩
              rw [e1, R_det v hb e2 hRV]
          · cases h
        · cases h
      · cases h
    · rename_i b hc
      have hargs : RL m (c.args.toList.map (ev T)) (c.args.map a.eval).toList := by
        rw [Array.toList_map]; exact RL_map he _
      obtain ⟨consts, hrun⟩ := run_resolve_builtin (P := P) (E := a.eval) hc o.type
      have hrun' : ∀ w', (execOp a.eval o).run P w' = (builtin b c.argTypes o.type consts (c.args.map a.eval)).run P w' := fun w' => by
        simp only [execOp, hop]
        exact hrun w'
      obtain ⟨v, V, h1, h2, h3⟩ := abuiltin_ok (P := P) hargs h o.type consts
      refine ⟨V, fun w' _ => ?_, hn v V h2 h1⟩
      unfold Oper.quietAt
      rw [hrun', h3]
      exact ⟨rfl, rfl⟩
    · cases h
  · rename_i t x hop
    split at h
    · rename_i v hv
      obtain ⟨V, h1, h2⟩ := loadA_ok hH (he x) hv
      refine ⟨V, fun w' hw' => ?_, hn v V h1 h⟩
      unfold Oper.quietAt
      have : (execOp a.eval o).run P w' = .ok (.value V) w' := by
        simp only [execOp, hop, Sem.run_bind, h2 w' hw'.blocks, Result.andThen_ok, Sem.run_pure]
      rw [this]
      exact ⟨rfl, rfl⟩
    · cases h
  · cases hb : isMem o.op with
    | true => rw [hb] at h; cases h
    | false =>
      rw [hb] at h
      simp only [cond_false] at h
      obtain ⟨v, V, h1, h2, h3⟩ := apure_ok (P := P) he h
      refine ⟨V, fun w' _ => ?_, hn v V h2 h1⟩
      unfold Oper.quietAt
      rw [h3]
      exact ⟨rfl, rfl⟩

theorem aopsQ_ok {P : Program} {env : Env} (hE : EnvOk P env) {ops : Array Oper} {n : Nat} {m : List Nat} {H : List AB} {w : World} (hH : HR m H w) {Q : Act → Prop} {K : List (Nat × AV) → Option ρ} {r : ρ} :
    ∀ (l : List Oper) (T : List (Nat × AV)) (a : Act), aopsQ P env ops n H l T K = some r → TR m n T a.tmps →
    (∀ T' a', TR m n T' a'.tmps → a'.defers = a.defers → K T' = some r → Q a') → wpQuiet P ops (fun w' => Ext [] w [] w') Q l a
  | [], T, a, h, hT, hQ => hQ T a hT rfl h
  | o :: l, T, a, h, hT, hQ => by
    simp only [aopsQ] at h
    unfold wpQuiet
    rcases aguard_ok h hT with ⟨T1, h1, hT1, hw⟩ | ⟨T1, h1, hT1, hw⟩
    · rw [if_pos hw]
      refine aexecQ_ok hE hT1 hH h1 fun v V hv hK => ?_
      obtain ⟨T2, h2, hT2⟩ := aput_ok hK hT1 hv
      exact aopsQ_ok hE hH l T2 _ h2 hT2 fun T3 a3 q1 q2 q3 => hQ T3 a3 q1 (q2.trans (put_defers _ _ _)) q3
    · rw [if_neg (by simp [hw])]
      obtain ⟨T2, h2, hT2⟩ := aput_ok (V := undef) h1 hT1 (by simp only [R])
      exact aopsQ_ok hE hH l T2 _ h2 hT2 fun T3 a3 q1 q2 q3 => hQ T3 a3 q1 (q2.trans (put_defers _ _ _)) q3

/-! ### Guarded operations carried out ahead -/

def WR (m : List Nat) (G : Weak) (tmps : Array Value) : Prop := ∀ i s w v, wget G i = some (s, w, v) → tmps[s]? = some (.bool w) → R m v (tmps.getD i undef)
def CR (ctx : List (Nat × Bool)) (tmps : Array Value) : Prop := ∀ s w, inCtx ctx s w = true → tmps[s]? = some (.bool w)

theorem WR.mono {m : List Nat} {G : Weak} {tmps : Array Value} (x : List Nat) (h : WR m G tmps) : WR (m ++ x) G tmps := fun i s w v h1 h2 => R_mono x v (h i s w v h1 h2)

theorem CR.cons {ctx : List (Nat × Bool)} {tmps : Array Value} (h : CR ctx tmps) {s : Nat} {w : Bool} (hs : tmps[s]? = some (.bool w)) : CR ((s, w) :: ctx) tmps := fun i x hi => by
  simp only [inCtx, Bool.or_eq_true, Bool.and_eq_true, beq_iff_eq] at hi
  rcases hi with ⟨h1, h2⟩ | hi
  · rw [← Nat.eq_of_beq_eq_true h1, ← h2]; exact hs
  · exact h i x hi
theorem CR.nil (tmps : Array Value) : CR [] tmps := fun _ _ h => by simp [inCtx] at h

theorem evC_ok {m : List Nat} {n : Nat} {T : List (Nat × AV)} {a : Act} (hT : TR m n T a.tmps) {G : Weak} (hG : WR m G a.tmps) {ctx : List (Nat × Bool)} (hc : CR ctx a.tmps) (x : Operand) : R m (evC T G ctx x) (a.eval x) := by
  cases x with
  | tmp i =>
    simp only [evC]
    split
    · rename_i s w v hg
      cases hb : inCtx ctx s w with
      | false => simp only [cond_false, R]
      | true => exact hG i s w v hg (hc s w hb)
    · exact hT.2 i
  | const v => simpa only [evC] using R_ev hT (.const v)
  | func v => simpa only [evC] using R_ev hT (.func v)
  | global v => simpa only [evC] using R_ev hT (.global v)

theorem wget_put {m : List Nat} {G : Weak} {tmps : Array Value} (hG : WR m G tmps) {d : Nat} (h1 : wguards G d = false) (h2 : (wget G d).isNone = true) (V : Value) : WR m G (tmps.setIfInBounds d V) := by
  intro i s w v hi hs
  have hne : d ≠ s := by
    intro e; subst e
    have : ∀ (G : Weak), wguards G d = false → wget G i ≠ some (d, w, v) := by
      intro G
      induction G with
      | nil => intro _ h; simp [wget] at h
      | cons p G ih =>
        obtain ⟨d', s', w', v'⟩ := p
        intro hg h
        simp only [wguards, Bool.or_eq_false_iff] at hg
        simp only [wget] at h
        cases hb : Nat.beq d' i with
        | true =>
          rw [hb] at h
          simp only [cond_true, Option.some.injEq, Prod.mk.injEq] at h
          have := hg.1
          rw [h.1] at this
          simp at this
        | false => rw [hb] at h; exact ih hg.2 h
    exact this G h1 hi
  have hne2 : d ≠ i := by
    intro e; subst e; rw [hi] at h2; simp at h2
  rw [Array.getElem?_setIfInBounds_ne hne] at hs
  have := hG i s w v hi hs
  simpa [Array.getElem?_setIfInBounds_ne hne2] using this

theorem aread_ok {P : Program} {m : List Nat} {e : Operand → AV} {E : Operand → Value} (he : ∀ x, R m (e x) (E x)) {H : List AB} {w : World} (hH : HR m H w) {o : Oper} {v : AV} (h : aread P e H o.op = some v) :
    ∃ V, R m v V ∧ (execOp E o).run P w = .ok (.value V) w := by
  unfold aread at h
  split at h
  · rename_i c hop
    split at h
    · rename_i b hc
      have hargs : RL m (c.args.toList.map e) (c.args.map E).toList := by
        rw [Array.toList_map]; exact RL_map he _
      obtain ⟨consts, hrun⟩ := run_resolve_builtin (P := P) (E := E) hc o.type
      obtain ⟨v', V, h1, h2, h3⟩ := abuiltin_ok (P := P) hargs h o.type consts
      cases h1
      exact ⟨V, h2, by simp only [execOp, hop]; rw [hrun, h3]⟩
    · cases h
  · rename_i t x hop
    obtain ⟨V, h1, h2⟩ := loadA_ok hH (he x) h
    exact ⟨V, h1, by simp only [execOp, hop, Sem.run_bind, h2 w (fun _ _ => rfl), Result.andThen_ok, Sem.run_pure]⟩
  · cases hb : isMem o.op with
    | true => rw [hb] at h; cases h
    | false =>
      rw [hb] at h
      simp only [cond_false] at h
      obtain ⟨v', V, h1, h2, h3⟩ := apure_ok (P := P) he h
      cases h1
      exact ⟨V, h2, h3 w⟩

theorem areadC_ok {P : Program} {m : List Nat} {n : Nat} {T : List (Nat × AV)} {a : Act} (hT : TR m n T a.tmps) {G : Weak} (hG : WR m G a.tmps) {ctx : List (Nat × Bool)} (hc : CR ctx a.tmps) {H : List AB} {w : World} (hH : HR m H w) {o : Oper} {v : AV}
    (h : areadC P T G ctx H o.op = some v) : ∃ V, R m v V ∧ (execOp a.eval o).run P w = .ok (.value V) w := by
  unfold areadC at h
  split at h
  · rename_i s x y hop
    have hs := evC_ok hT hG hc (.tmp s)
    split at h
    · rename_i b hb
      cases h
      rw [hb] at hs
      simp only [R, Act.eval] at hs
      have hs' : a.tmps[s]? = some (.bool b) := by
        rw [Array.getD_eq_getD_getElem?] at hs
        cases hg : a.tmps[s]? with
        | none => rw [hg] at hs; simp [undef] at hs
        | some z => rw [hg] at hs; simp at hs; rw [hs]
      refine ⟨if b then a.eval x else a.eval y, ?_, ?_⟩
      · refine R_merge _ _ (fun e => ?_) (fun e => ?_)
        · subst e; simp only [if_true]; exact evC_ok hT hG (hc.cons hs') x
        · subst e; simp only [Bool.false_eq_true, if_false]; exact evC_ok hT hG (hc.cons hs') y
      · have hE : a.eval (.tmp s) = .bool b := hs
        simp only [execOp, hop, hE, asBool, Sem.run_bind, Sem.run_pure, Result.andThen_ok]
    · cases h
  · exact aread_ok (evC_ok hT hG hc) hH h

def dsts (l : List Oper) : List Nat := l.filterMap (·.dst)

theorem get_cons_ne {d i : Nat} (h : d ≠ i) (v : AV) (T : List (Nat × AV)) : get ((d, v) :: T) i = get T i := by
  have : Nat.beq d i = false := by rw [← Bool.not_eq_true]; intro hh; exact h (Nat.eq_of_beq_eq_true hh)
  simp only [get, this, cond_false]

theorem yielded_of {ops : Array Oper} {tmps : Array Value} {j s : Nat} (hs : (ops[j]?).bind (·.dst) = some s) (b : Bool) : (yielded ops tmps j = some b) ↔ tmps[s]? = some (.bool b) := by
  unfold yielded
  rw [hs]
  show (match tmps[s]? with | some (.bool b) => some b | _ => none) = some b ↔ _
  constructor
  · intro h
    split at h
    · rename_i b' hb'; cases h; exact hb'
    · cases h
  · intro h; rw [h]

/-- The guarded step. -/
theorem aguardS_ok {P : Program} {m : List Nat} {n : Nat} {T : List (Nat × AV)} {a : Act} (hT : TR m n T a.tmps) {G : Weak} (hG : WR m G a.tmps) {H : List AB} {w : World} (hH : HR m H w) {ops : Array Oper} {o : Oper} {j s d : Nat} {want : Bool} {v : AV}
    (hg : o.guard = some (j, want)) (hs : (ops[j]?).bind (·.dst) = some s) (hd : o.dst = some d) (h1 : Nat.ble (d + 1) n = true) (h2 : Nat.beq d s = false) (h3 : wguards G d = false)
    (h : areadC P T G [(s, want)] H o.op = some v) :
    (Region.wanted o (yielded ops a.tmps) = true → ∃ V, (execOp a.eval o).run P w = .ok (.value V) w ∧ TR m n ((d, .any) :: T) (a.put o.dst V).tmps ∧ WR m ((d, s, want, v) :: G) (a.put o.dst V).tmps) ∧
    (Region.wanted o (yielded ops a.tmps) = false → TR m n ((d, .any) :: T) (a.put o.dst undef).tmps ∧ WR m ((d, s, want, v) :: G) (a.put o.dst undef).tmps) := by
  have hlt : d < n := Nat.le_of_ble_eq_true h1
  have hne : d ≠ s := fun e => by subst e; simp at h2
  have hw : Region.wanted o (yielded ops a.tmps) = (yielded ops a.tmps j == some want) := by simp [Region.wanted, hg]
  have hWR : ∀ V, (a.tmps[s]? = some (.bool want) → R m v V) → WR m ((d, s, want, v) :: G) (a.put o.dst V).tmps := by
    intro V hV i s' w' v' hi hs'
    have hput : (a.put o.dst V).tmps = a.tmps.setIfInBounds d V := by rw [hd]; rfl
    rw [hput] at hs' ⊢
    simp only [wget] at hi
    cases hb : Nat.beq d i with
    | true =>
      rw [hb] at hi
      simp only [cond_true, Option.some.injEq, Prod.mk.injEq] at hi
      obtain ⟨rfl, rfl, rfl⟩ := hi
      obtain rfl := Nat.eq_of_beq_eq_true hb
      rw [Array.getElem?_setIfInBounds_ne hne] at hs'
      have hsz : d < a.tmps.size := by rw [hT.1]; exact hlt
      have := hV hs'
      simpa [hsz] using this
    | false =>
      rw [hb] at hi
      simp only [cond_false] at hi
      have hdi : d ≠ i := fun e => by subst e; simp at hb
      have hds : d ≠ s' := by
        intro e; subst e
        have key : ∀ (G : Weak), wguards G d = false → wget G i ≠ some (d, w', v') := by
          intro G
          induction G with
          | nil => intro _ h; simp [wget] at h
          | cons p G ih =>
            obtain ⟨d', s'', w'', v''⟩ := p
            intro hg h
            simp only [wguards, Bool.or_eq_false_iff] at hg
            simp only [wget] at h
            cases hb : Nat.beq d' i with
            | true =>
              rw [hb] at h
              simp only [cond_true, Option.some.injEq, Prod.mk.injEq] at h
              have := hg.1
              rw [h.1] at this
              simp at this
            | false => rw [hb] at h; exact ih hg.2 h
        exact key G h3 hi
      rw [Array.getElem?_setIfInBounds_ne hds] at hs'
      have := hG i s' w' v' hi hs'
      simpa [Array.getElem?_setIfInBounds_ne hdi] using this
  have hTR : ∀ V, TR m n ((d, .any) :: T) (a.put o.dst V).tmps := fun V => by
    have : (a.put o.dst V).tmps = a.tmps.setIfInBounds d V := by rw [hd]; rfl
    rw [this]; exact hT.put hlt (by simp only [R])
  refine ⟨fun hy => ?_, fun hy => ?_⟩
  · rw [hw] at hy
    have hy' : a.tmps[s]? = some (.bool want) := (yielded_of hs want).1 (by simpa using hy)
    obtain ⟨V, h4, h5⟩ := areadC_ok hT hG ((CR.nil a.tmps).cons hy') hH h
    exact ⟨V, h5, hTR V, hWR V (fun _ => h4)⟩
  · rw [hw] at hy
    refine ⟨hTR undef, hWR undef (fun hs' => ?_)⟩
    rw [(yielded_of hs want).2 hs'] at hy
    simp at hy

theorem WR.nil (m : List Nat) (tmps : Array Value) : WR m [] tmps := fun _ _ _ _ h => by simp [wget] at h

theorem put_dst_WR {m : List Nat} {G : Weak} {a : Act} (hG : WR m G a.tmps) {dst : Option Tmp} (h : dstFree G dst = true) (V : Value) : WR m G (a.put dst V).tmps := by
  cases dst with
  | none => exact hG
  | some d =>
    simp only [dstFree, Bool.and_eq_true, Bool.not_eq_true'] at h
    exact wget_put hG h.1 h.2 V

theorem aopsS_ok {P : Program} {doCall : FuncId → List AV → List AB → (AV → List AB → Option ρ) → Option ρ} (hD : DC P doCall) {ops : Array Oper} {n : Nat} {Q : Exit → Act → World → Prop} {K : List (Nat × AV) → List AB → Option ρ} {r : ρ} :
    ∀ (l : List Oper) (k : Nat) (_ : ∀ j, l[j]? = ops[k + j]?) (m : List Nat) (T : List (Nat × AV)) (G : Weak) (H : List AB) (a : Act) (w : World), aopsS P doCall ops n l T G H K = some r → TR m n T a.tmps → WR m G a.tmps → HR m H w →
    (∀ T' H' a' m' w', TR m' n T' a'.tmps → HR m' H' w' → Ext m w m' w' → a'.defers = a.defers → K T' H' = some r → Q .normal a' w') →
    wpOps P ops Q (List.range' k l.length) a w
  | [], k, _, m, T, G, H, a, w, h, hT, _, hH, hQ => by
    simp only [aopsS] at h
    simp only [List.length_nil, List.range'_zero, wpOps]
    exact hQ T H a m w hT hH (Ext.refl m w) rfl h
  | o :: l, k, hl, m, T, G, H, a, w, h, hT, hG, hH, hQ => by
    have hk : ops[k]? = some o := by have := hl 0; simpa using this.symm
    have hl' : ∀ j, l[j]? = ops[k + 1 + j]? := fun j => by have := hl (j + 1); rw [Nat.add_assoc, Nat.add_comm 1 j]; simpa using this
    simp only [List.length_cons, List.range'_succ, wpOps, hk]
    simp only [aopsS] at h
    split at h
    · rename_i hg
      have hw : Region.wanted o (yielded ops a.tmps) = true := by simp [Region.wanted, hg]
      rw [if_pos hw]
      cases hdst : dstFree G o.dst with
      | false => rw [hdst] at h; cases h
      | true =>
        rw [hdst] at h
        simp only [cond_true] at h
        cases hsp : isSpec o.op with
        | true =>
          rw [hsp] at h
          simp only [cond_true] at h
          split at h
          · rename_i v hv
            obtain ⟨V, h1, h2⟩ := areadC_ok hT hG (CR.nil _) hH hv
            refine .inl ?_
            unfold Oper.wp
            rw [h2]
            show wpOps P ops Q _ (a.put o.dst V) w
            obtain ⟨T2, h3, hT2⟩ := aput_ok h hT h1
            exact aopsS_ok hD l (k + 1) hl' m T2 G H _ w h3 hT2 (put_dst_WR hG hdst V) hH fun T3 H3 a3 m3 w3 q1 q2 q3 q4 q5 => hQ T3 H3 a3 m3 w3 q1 q2 q3 (q4.trans (put_defers _ _ _)) q5
          · cases h
        | false =>
          rw [hsp] at h
          simp only [cond_false] at h
          refine .inl (aexec_ok hD hT hH h fun v H' V m' w' hv hH' hE hK => ?_)
          obtain ⟨x, hx, _⟩ := hE.pre
          have hT1' : TR m' n T a.tmps := by rw [hx]; exact hT.mono x
          have hG1' : WR m' G a.tmps := by rw [hx]; exact hG.mono x
          obtain ⟨T2, h2, hT2⟩ := aput_ok hK hT1' hv
          exact aopsS_ok hD l (k + 1) hl' m' T2 G H' _ w' h2 hT2 (put_dst_WR hG1' hdst V) hH' fun T3 H3 a3 m3 w3 q1 q2 q3 q4 q5 => hQ T3 H3 a3 m3 w3 q1 q2 (hE.trans q3) (q4.trans (put_defers _ _ _)) q5
    · rename_i j want hg
      split at h
      · rename_i s d hs hd
        cases hb : (Nat.ble (d + 1) n && !(Nat.beq d s) && !(wguards G d)) with
        | false => rw [hb] at h; cases h
        | true =>
          rw [hb] at h
          simp only [Bool.and_eq_true, Bool.not_eq_true'] at hb
          simp only [cond_true] at h
          split at h
          · rename_i v hv
            obtain ⟨g1, g2⟩ := aguardS_ok hT hG hH hg hs hd hb.1.1 hb.1.2 hb.2 hv
            cases hw : Region.wanted o (yielded ops a.tmps) with
            | true =>
              rw [if_pos rfl]
              obtain ⟨V, h1, h2, h3⟩ := g1 hw
              refine .inl ?_
              unfold Oper.wp
              rw [h1]
              show wpOps P ops Q _ (a.put o.dst V) w
              exact aopsS_ok hD l (k + 1) hl' m _ _ H _ w h h2 h3 hH fun T3 H3 a3 m3 w3 q1 q2 q3 q4 q5 => hQ T3 H3 a3 m3 w3 q1 q2 q3 (q4.trans (put_defers _ _ _)) q5
            | false =>
              rw [if_neg (by simp)]
              obtain ⟨h2, h3⟩ := g2 hw
              exact aopsS_ok hD l (k + 1) hl' m _ _ H _ w h h2 h3 hH fun T3 H3 a3 m3 w3 q1 q2 q3 q4 q5 => hQ T3 H3 a3 m3 w3 q1 q2 q3 (q4.trans (put_defers _ _ _)) q5
          · cases h
      · cases h

theorem asval_ok {P : Program} {env : Env} (hE : EnvOk P env) {m : List Nat} {n : Nat} {T : List (Nat × AV)} {a : Act} (hT : TR m n T a.tmps) {G : Weak} (hG : WR m G a.tmps) {H : List AB} {w : World} (hH : HR m H w) {o : Oper} {v : AV}
    (h : asval P env T G H o.op = some v) : (∃ V, R m v V ∧ (execOp a.eval o).run P w = .ok (.value V) w) ∨
      (∃ fid Args, (execOp a.eval o).run P w = .ok (.enter fid Args) w ∧ Calls P fid Args w fun e w' => ∃ V, e = .returned V ∧ R m v V ∧ Ext [] w [] w') := by
  unfold asval at h
  split at h
  · rename_i c hop
    cases hb : isCalc env (.call c) with
    | false =>
      rw [hb] at h
      simp only [cond_false] at h
      rw [← hop] at h
      exact .inl (areadC_ok hT hG (CR.nil _) hH h)
    | true =>
      rw [hb] at h
      simp only [cond_true] at h
      unfold acalc at h
      split at h
      · rename_i f hc
        split at h
        · rename_i F hF
          split at h
          · rename_i v' hv
            cases hnp : v'.noPtr with
            | false => rw [hnp] at h; cases h
            | true =>
              rw [hnp] at h
              simp only [cond_true, Option.some.injEq] at h
              subst h
              obtain ⟨h1, h2⟩ := hE f _ hF
              have hargs : RL m (c.args.toList.map (ev T)) (c.args.map a.eval).toList := by rw [Array.toList_map]; exact RL_map (fun x => R_ev hT x) _
              refine .inr ⟨f, c.args.map a.eval, ?_, (h2 _ v' rfl hv m _ w hargs).mono fun e w' ⟨V, e1, e2, e3⟩ => ⟨V, e1, R_noPtr v' hnp e2, e3⟩⟩
              simp only [execOp, hop]
              rw [run_resolve_fn (fid := f) (caps := #[]) hc rfl _ w]
              simpa using h1 (c.args.map a.eval) w
          · cases h
        · cases h
      · cases h
  · exact .inl (areadC_ok hT hG (CR.nil _) hH h)

theorem store_frame {P : Program} {e : Operand → AV} {H H' : List AB} {t : TypeId} {a x : Operand} {i o : Nat} (ha : e a = .ptr i o) (h : amem P e H (.store t a x) (fun _ H' => some H') = some H') :
    H'.length = H.length ∧ ∀ j, j ≠ i → H'[j]? = H[j]? := by
  simp only [amem, ha] at h
  split at h
  · rename_i i' o' vs n e1 e2 e3
    cases e1
    split at h
    · rename_i l bt hl
      cases hb : (Nat.beq vs.length n && Nat.ble (o + vs.length) l.length && AV.scalars vs) with
      | false => rw [hb] at h; cases h
      | true =>
        rw [hb] at h
        simp only [cond_true, Option.some.injEq] at h
        subst h
        exact ⟨by simp, fun j hj => by rw [List.getElem?_set_ne (Ne.symm hj)]⟩
    · rename_i k g bt hl
      split at h
      · cases hb : (Nat.beq n 1 && Nat.ble (o + 1) k) with
        | false => rw [hb] at h; cases h
        | true =>
          rw [hb] at h
          simp only [cond_true, Option.some.injEq] at h
          subst h
          exact ⟨by simp, fun j hj => by rw [List.getElem?_set_ne (Ne.symm hj)]⟩
      · cases h
    · cases h
  · cases h

theorem Ext.same_len {m m' : List Nat} {w w' : World} (h : Ext m w m' w') {H H' : List AB} (h1 : HR m H w) (h2 : HR m' H' w') (hl : H'.length = H.length) : m' = m := by
  obtain ⟨x, hx, _⟩ := h.pre
  have e1 := h1.len
  have e2 := h2.len
  have : x = [] := by
    rw [hx, List.length_append] at e2
    exact List.eq_nil_of_length_eq_zero (by omega)
  rw [hx, this, List.append_nil]

theorem asops_ok {P : Program} {env : Env} (hE : EnvOk P env) {ops : Array Oper} {n : Nat} {m : List Nat} {Q : Exit → Act → World → Prop} {T' : List (Nat × AV)} {H' : List AB} {W' : List Nat} :
    ∀ (l : List Oper) (k : Nat) (_ : ∀ j, l[j]? = ops[k + j]?) (T : List (Nat × AV)) (G : Weak) (H : List AB) (W : List Nat) (a : Act) (w : World), asops P env ops n l T G H W = some (T', H', W') → TR m n T a.tmps → WR m G a.tmps → HR m H w →
    (∀ a' w', TR m n T' a'.tmps → HR m H' w' → Ext m w m w' → (∀ i, i ∉ dsts l → get T' i = get T i) → (∀ j, j ∉ W' → H'[j]? = H[j]?) → H'.length = H.length → (∀ j ∈ W, j ∈ W') → a'.defers = a.defers → Q .normal a' w') →
    wpOps P ops Q (List.range' k l.length) a w
  | [], k, _, T, G, H, W, a, w, h, hT, _, hH, hQ => by
    simp only [asops, Option.some.injEq, Prod.mk.injEq] at h
    obtain ⟨rfl, rfl, rfl⟩ := h
    simp only [List.length_nil, List.range'_zero, wpOps]
    exact hQ a w hT hH (Ext.refl m w) (fun _ _ => rfl) (fun _ _ => rfl) rfl (fun _ h => h) rfl
  | o :: l, k, hl, T, G, H, W, a, w, h, hT, hG, hH, hQ => by
    have hk : ops[k]? = some o := by have := hl 0; simpa using this.symm
    have hl' : ∀ j, l[j]? = ops[k + 1 + j]? := fun j => by have := hl (j + 1); rw [Nat.add_assoc, Nat.add_comm 1 j]; simpa using this
    have hds : ∀ i, i ∉ dsts (o :: l) → some i ≠ o.dst ∧ i ∉ dsts l := by
      intro i hi
      cases hd : o.dst with
      | none => simp [dsts, hd] at hi ⊢; exact hi
      | some d => simp [dsts, hd] at hi ⊢; exact hi
    simp only [List.length_cons, List.range'_succ, wpOps, hk]
    simp only [asops] at h
    split at h
    · rename_i hg
      have hw : Region.wanted o (yielded ops a.tmps) = true := by simp [Region.wanted, hg]
      rw [if_pos hw]
      cases hdst : dstFree G o.dst with
      | false => rw [hdst] at h; cases h
      | true =>
        rw [hdst] at h
        simp only [cond_true] at h
        split at h
        · rename_i t x y hop
          split at h
          · rename_i i off hod hea
            split at h
            · rename_i H1 hH1
              obtain ⟨f1, f2⟩ := store_frame hea hH1
              rw [← hop] at hH1
              obtain ⟨v, H2, h1, nx, V, w1, m1, h2, h3, h4, h5, h6⟩ := amem_ok (P := P) (fun x => R_ev hT x) hH hH1
              simp only [Option.some.injEq] at h1
              subst h1
              obtain rfl := h6.same_len hH h5 f1
              refine .inl ?_
              unfold Oper.wp
              rw [h2]
              have key : wpOps P ops Q (List.range' (k + 1) l.length) a w1 := by
                refine asops_ok hE l (k + 1) hl' T G H2 (i :: W) a w1 h hT hG h5 fun a3 w3 q1 q2 q3 q4 q5 q6 q7 q8 => ?_
                refine hQ a3 w3 q1 q2 (h6.trans q3) (fun j hj => q4 j (hds j hj).2) (fun j hj => ?_) (q6.trans f1) (fun j hj => q7 j (by simp [hj])) q8
                rw [q5 j hj, f2 j (fun e => hj (q7 j (by simp [e])))]
              rcases h3 with rfl | ⟨rfl, rfl⟩
              · show wpOps P ops Q _ (a.put o.dst V) w1
                rw [hod]; exact key
              · show wpOps P ops Q _ (a.put o.dst undef) w1
                rw [hod]; exact key
            · cases h
          · cases h
        · split at h
          · rename_i v hv
            have hput : ∀ V, R m v V → ∀ w1, Ext [] w [] w1 → wpOps P ops Q (List.range' (k + 1) l.length) (a.put o.dst V) w1 := by
              intro V hV w1 hE1
              have hH1 := hH.same hE1.blocks
              have hsame : Ext m w m w1 := hE1.same
              cases hod : o.dst with
              | none =>
                rw [hod] at h
                simp only at h
                refine asops_ok hE l (k + 1) hl' T G H W a w1 h hT hG hH1 fun a3 w3 q1 q2 q3 q4 q5 q6 q7 q8 => ?_
                exact hQ a3 w3 q1 q2 (hsame.trans q3) (fun j hj => q4 j (hds j hj).2) q5 q6 q7 q8
              | some d =>
                rw [hod] at h
                simp only at h
                cases hb : Nat.ble (d + 1) n with
                | false => rw [hb] at h; cases h
                | true =>
                  rw [hb] at h
                  simp only [cond_true] at h
                  have hG2 := put_dst_WR hG hdst V
                  rw [hod] at hG2
                  refine asops_ok hE l (k + 1) hl' _ G H W (a.put (some d) V) w1 h (hT.put (Nat.le_of_ble_eq_true hb) hV) hG2 hH1 fun a3 w3 q1 q2 q3 q4 q5 q6 q7 q8 => ?_
                  refine hQ a3 w3 q1 q2 (hsame.trans q3) (fun j hj => ?_) q5 q6 q7 (q8.trans (put_defers _ _ _))
                  rw [q4 j (hds j hj).2]
                  exact get_cons_ne (fun e => (hds j hj).1 (by rw [hod, e])) _ _
            rcases asval_ok hE hT hG hH hv with ⟨V, h1, h2⟩ | ⟨fid, Args, h1, h2⟩
            · refine .inl ?_
              unfold Oper.wp
              rw [h2]
              exact hput V h1 w ⟨⟨[], by simp⟩, rfl, rfl, rfl, Nat.le_refl _, fun _ _ _ => rfl⟩
            · refine .inl ?_
              unfold Oper.wp
              rw [h1]
              exact h2.mono fun e w1 ⟨V, e1, e2, e3⟩ => by subst e1; exact hput V e2 w1 e3
          · cases h
    · rename_i j want hg
      split at h
      · rename_i s d hs hd
        cases hb : (Nat.ble (d + 1) n && !(Nat.beq d s) && !(wguards G d)) with
        | false => rw [hb] at h; cases h
        | true =>
          rw [hb] at h
          simp only [Bool.and_eq_true, Bool.not_eq_true'] at hb
          simp only [cond_true] at h
          split at h
          · rename_i v hv
            obtain ⟨g1, g2⟩ := aguardS_ok hT hG hH hg hs hd hb.1.1 hb.1.2 hb.2 hv
            have hfr : ∀ i, some i ≠ o.dst → get ((d, AV.any) :: T) i = get T i := fun i hi => get_cons_ne (fun e => hi (by rw [hd, e])) _ _
            cases hw : Region.wanted o (yielded ops a.tmps) with
            | true =>
              rw [if_pos rfl]
              obtain ⟨V, h1, h2, h3⟩ := g1 hw
              refine .inl ?_
              unfold Oper.wp
              rw [h1]
              show wpOps P ops Q _ (a.put o.dst V) w
              refine asops_ok hE l (k + 1) hl' _ _ H W _ w h h2 h3 hH fun a3 w3 q1 q2 q3 q4 q5 q6 q7 q8 => ?_
              exact hQ a3 w3 q1 q2 q3 (fun i hi => (q4 i (hds i hi).2).trans (hfr i (hds i hi).1)) q5 q6 q7 (q8.trans (put_defers _ _ _))
            | false =>
              rw [if_neg (by simp)]
              obtain ⟨h2, h3⟩ := g2 hw
              refine asops_ok hE l (k + 1) hl' _ _ H W _ w h h2 h3 hH fun a3 w3 q1 q2 q3 q4 q5 q6 q7 q8 => ?_
              exact hQ a3 w3 q1 q2 q3 (fun i hi => (q4 i (hds i hi).2).trans (hfr i (hds i hi).1)) q5 q6 q7 (q8.trans (put_defers _ _ _))
          · cases h
      · cases h

end

theorem asimple_ok {P : Program} {env : Env} (hE : EnvOk P env) {n : Nat} {m : List Nat} : ∀ (c : Code) (_ : simple env c = true) (T T' : List (Nat × AV)) (H H' : List AB) (W W' : List Nat) (a : Act) (w : World) (Q : Exit → Act → World → Prop),
    asimple P env n c T H W = some (T', H', W') → TR m n T a.tmps → HR m H w →
    (∀ a' w', TR m n T' a'.tmps → HR m H' w' → Ext m w m w' → (∀ i, i ∉ writes c → get T' i = get T i) → (∀ j, j ∉ W' → H'[j]? = H[j]?) → H'.length = H.length → (∀ j ∈ W, j ∈ W') → a'.defers = a.defers → Q .normal a' w') → c.wp P Q a w
  | .skip, _, T, T', H, H', W, W', a, w, Q, h, hT, hH, hQ => by
    simp only [asimple, Option.some.injEq, Prod.mk.injEq] at h
    obtain ⟨rfl, rfl, rfl⟩ := h
    exact wp_skip (hQ a w hT hH (Ext.refl m w) (fun _ _ => rfl) (fun _ _ => rfl) rfl (fun _ h => h) rfl)
  | .region id ops false, hs, T, T', H, H', W, W', a, w, Q, h, hT, hH, hQ => by
    simp only [asimple] at h
    refine wp_region ?_
    rw [List.range_eq_range']
    have := asops_ok (P := P) (Q := Q) (ops := ops) (n := n) hE ops.toList 0 (by simp) T [] H W a w h hT (WR.nil _ _) hH (fun a' w' q1 q2 q3 q4 q5 q6 q7 q8 => hQ a' w' q1 q2 q3 q4 q5 q6 q7 q8)
    simpa using this
  | .region _ _ true, hs, _, _, _, _, _, _, _, _, _, _, _, _, _ => by simp [simple] at hs
  | .seq x y, hs, T, T', H, H', W, W', a, w, Q, h, hT, hH, hQ => by
    simp only [simple, Bool.and_eq_true] at hs
    simp only [asimple] at h
    split at h
    · rename_i T1 H1 W1 hT1
      refine wp_seq (asimple_ok hE x hs.1 T T1 H H1 W W1 a w _ hT1 hT hH fun a1 w1 q1 q2 q3 q4 q5 q6 q7 q8 => ?_)
      refine asimple_ok hE y hs.2 T1 T' H1 H' W1 W' a1 w1 Q h q1 q2 fun a2 w2 p1 p2 p3 p4 p5 p6 p7 p8 => hQ a2 w2 p1 p2 (q3.trans p3) (fun i hi => ?_) (fun j hj => ?_) (p6.trans q6) (fun j hj => p7 j (q7 j hj)) (p8.trans q8)
      · simp only [writes, List.mem_append, not_or] at hi
        rw [p4 i hi.2, q4 i hi.1]
      · rw [p5 j hj, q5 j (fun e => hj (p7 j e))]
    · cases h
  | .cond .., hs, _, _, _, _, _, _, _, _, _, _, _, _, _ => by simp [simple] at hs
  | .block .., hs, _, _, _, _, _, _, _, _, _, _, _, _, _ => by simp [simple] at hs
  | .loop .., hs, _, _, _, _, _, _, _, _, _, _, _, _, _ => by simp [simple] at hs
  | .rangeFunc .., hs, _, _, _, _, _, _, _, _, _, _, _, _, _ => by simp [simple] at hs
  | .exit .., hs, _, _, _, _, _, _, _, _, _, _, _, _, _ => by simp [simple] at hs
  | .scope .., hs, _, _, _, _, _, _, _, _, _, _, _, _, _ => by simp [simple] at hs
  | .label .., hs, _, _, _, _, _, _, _, _, _, _, _, _, _ => by simp [simple] at hs
  | .goto .., hs, _, _, _, _, _, _, _, _, _, _, _, _, _ => by simp [simple] at hs
  | .ret, hs, _, _, _, _, _, _, _, _, _, _, _, _, _ => by simp [simple] at hs
  | .refuse .., hs, _, _, _, _, _, _, _, _, _, _, _, _, _ => by simp [simple] at hs

theorem mergeB_cells {x : Bool} {A B C : AB} (h : mergeB x A B = some C) : ∃ l t l', A = .cells l t ∧ B = .cells l' t ∧ C = .cells (mergeL x l l') t ∧ l.length = l'.length := by
  unfold mergeB at h
  split at h
  · rename_i l t l' t'
    cases hb2 : (Nat.beq t t' && Nat.beq l.length l'.length) with
    | false => rw [hb2] at h; cases h
    | true =>
      rw [hb2] at h
      simp only [cond_true, Option.some.injEq] at h
      simp only [Bool.and_eq_true] at hb2
      obtain rfl := Nat.eq_of_beq_eq_true hb2.1
      exact ⟨l, t, l', rfl, rfl, h.symm, Nat.eq_of_beq_eq_true hb2.2⟩
  · cases h
theorem mergeB_ok {m : List Nat} {x : Bool} {A B C : AB} {o : Obj} (h : mergeB x A B = some C) (ha : x = true → RB m A o) (hb : x = false → RB m B o) : RB m C o := by
  obtain ⟨l, t, l', rfl, rfl, rfl, hl⟩ := mergeB_cells h
  cases x
  · obtain ⟨Vs, e, hr⟩ := hb rfl
    exact ⟨Vs, e, RL_merge l l' hl (fun h => by cases h) (fun _ => hr)⟩
  · obtain ⟨Vs, e, hr⟩ := ha rfl
    exact ⟨Vs, e, RL_merge l l' hl (fun _ => hr) (fun h => by cases h)⟩

theorem mergeH_get {x : Bool} {Ha Hb : List AB} : ∀ (is : List Nat) (H H' : List AB), mergeH x Ha Hb is H = some H' → H'.length = H.length ∧ ∀ j, (j ∉ is ∧ H'[j]? = H[j]?) ∨ (∃ A B C, Ha[j]? = some A ∧ Hb[j]? = some B ∧ mergeB x A B = some C ∧ (H'[j]? = some C ∨ H'[j]? = none))
  | [], H, H', h => by
    simp only [mergeH, Option.some.injEq] at h; subst h
    exact ⟨rfl, fun j => .inl ⟨by simp, rfl⟩⟩
  | i :: is, H, H', h => by
    simp only [mergeH] at h
    split at h
    · rename_i A B hA hB
      split at h
      · rename_i C hC
        obtain ⟨hlen, hrest⟩ := mergeH_get is (H.set i C) H' h
        refine ⟨by simpa using hlen, fun j => ?_⟩
        rcases hrest j with ⟨h1, h2⟩ | h1
        · by_cases e : i = j
          · subst e
            refine .inr ⟨A, B, C, hA, hB, hC, ?_⟩
            rw [h2]
            by_cases hlt : i < H.length
            · left; simp [hlt]
            · right; simp; omega
          · left
            refine ⟨by simp [h1]; exact fun e' => e e'.symm, ?_⟩
            rw [h2, List.getElem?_set_ne e]
        · exact .inr h1
      · cases h
    · cases h

theorem HR_merge {m : List Nat} {x : Bool} {H Ha Hb H' : List AB} {Wa Wb : List Nat} {w' : World} (h : mergeH x Ha Hb (Wa ++ Wb) H = some H')
    (ha : x = true → HR m Ha w' ∧ (∀ j, j ∉ Wa → Ha[j]? = H[j]?) ∧ Ha.length = H.length) (hb : x = false → HR m Hb w' ∧ (∀ j, j ∉ Wb → Hb[j]? = H[j]?) ∧ Hb.length = H.length) : HR m H' w' := by
  obtain ⟨hlen, hget⟩ := mergeH_get _ _ _ h
  have key : ∀ (Hx : List AB), HR m Hx w' → (∀ j D, H'[j]? = some D → D.live = true → ∃ B, Hx[j]? = some B ∧ B.live = true ∧ ∀ b o, RB m B o → capAt m j b o B → RB m D o ∧ capAt m j b o D) → Hx.length = H.length → HR m H' w' := by
    intro Hx hx hk hl
    refine ⟨by rw [hx.len, hl, hlen], ?_, ?_⟩
    · intro i j b B C h1 h2 h3 h4 h5 h6
      obtain ⟨B', b1, b2, _⟩ := hk i B h3 h5
      obtain ⟨C', c1, c2, _⟩ := hk j C h4 h6
      exact hx.nodup i j b B' C' h1 h2 b1 c1 b2 c2
    · intro i D hD hDl
      obtain ⟨B, b1, b2, b3⟩ := hk i D hD hDl
      obtain ⟨b, o, e1, e2, e3, e4⟩ := hx.all i B b1 b2
      exact ⟨b, o, e1, e2, b3 b o e3 e4⟩
  cases x
  · obtain ⟨r1, r2, r3⟩ := hb rfl
    refine key Hb r1 (fun i D hD hDl => ?_) r3
    rcases hget i with ⟨h1, h2⟩ | ⟨A, B, C, h1, h2, h3, h4⟩
    · simp only [List.mem_append, not_or] at h1
      rw [h2] at hD
      exact ⟨D, by rw [r2 i h1.2]; exact hD, hDl, fun b o p q => ⟨p, q⟩⟩
    · rcases h4 with h4 | h4
      · rw [h4] at hD; cases hD
        have hm := h3
        obtain ⟨l, t, l', rfl, rfl, rfl, hl⟩ := mergeB_cells h3
        exact ⟨_, h2, rfl, fun b o p _ => ⟨mergeB_ok hm (fun h => by cases h) (fun _ => p), trivial⟩⟩
      · rw [h4] at hD; cases hD
  · obtain ⟨r1, r2, r3⟩ := ha rfl
    refine key Ha r1 (fun i D hD hDl => ?_) r3
    rcases hget i with ⟨h1, h2⟩ | ⟨A, B, C, h1, h2, h3, h4⟩
    · simp only [List.mem_append, not_or] at h1
      rw [h2] at hD
      exact ⟨D, by rw [r2 i h1.1]; exact hD, hDl, fun b o p q => ⟨p, q⟩⟩
    · rcases h4 with h4 | h4
      · rw [h4] at hD; cases hD
        have hm := h3
        obtain ⟨l, t, l', rfl, rfl, rfl, hl⟩ := mergeB_cells h3
        exact ⟨_, h1, rfl, fun b o p _ => ⟨mergeB_ok hm (fun _ => p) (fun h => by cases h), trivial⟩⟩
      · rw [h4] at hD; cases hD

theorem get_mergeT {x : Bool} {Ta Tb : List (Nat × AV)} : ∀ (ds : List Nat) (T : List (Nat × AV)) (i : Nat), (i ∈ ds ∧ get (mergeT x Ta Tb ds T) i = mergeAV x (get Ta i) (get Tb i)) ∨ (i ∉ ds ∧ get (mergeT x Ta Tb ds T) i = get T i)
  | [], T, i => .inr ⟨by simp, rfl⟩
  | d :: ds, T, i => by
    by_cases e : d = i
    · subst e
      refine .inl ⟨by simp, ?_⟩
      simp [mergeT, get]
    · simp only [mergeT]
      rw [get_cons_ne e]
      rcases get_mergeT ds T i with ⟨h1, h2⟩ | ⟨h1, h2⟩
      · exact .inl ⟨by simp [h1], h2⟩
      · exact .inr ⟨by simp [h1]; exact fun h => e h.symm, h2⟩

theorem TR_merge {m : List Nat} {n : Nat} {x : Bool} {T Ta Tb : List (Nat × AV)} {tmps : Array Value} {wa wb : List Nat} (ha : x = true → TR m n Ta tmps ∧ ∀ i, i ∉ wa → get Ta i = get T i) (hb : x = false → TR m n Tb tmps ∧ ∀ i, i ∉ wb → get Tb i = get T i) :
    TR m n (mergeT x Ta Tb (wa ++ wb) T) tmps := by
  refine ⟨by cases x; exact (hb rfl).1.1; exact (ha rfl).1.1, fun i => ?_⟩
  rcases get_mergeT (x := x) (Ta := Ta) (Tb := Tb) (wa ++ wb) T i with ⟨h1, h2⟩ | ⟨h1, h2⟩
  · rw [h2]
    exact R_merge _ _ (fun e => (ha e).1.2 i) (fun e => (hb e).1.2 i)
  · rw [h2]
    simp only [List.mem_append, not_or] at h1
    cases x
    · rw [← (hb rfl).2 i h1.2]; exact (hb rfl).1.2 i
    · rw [← (ha rfl).2 i h1.1]; exact (ha rfl).1.2 i

section
variable {ρ : Type}

/-! ### Code -/
def exOf : Ex → Exit
  | .normal => .normal
  | .exit id => .exit id
  | .ret => .ret

theorem TR_mkT {m : List Nat} : ∀ (args : List AV) (Args : List Value) (k : Nat), RL m args Args → ∀ i, get (mkT k args) i = .any ∨ ∃ j V, i = k + j ∧ Args[j]? = some V ∧ R m (get (mkT k args) i) V
  | [], _, _, _, _ => .inl rfl
  | v :: args, _, k, h, i => by
    obtain ⟨V, Vs', rfl, h2, h3⟩ := RL_cons.1 h
    simp only [mkT, get]
    cases hb : Nat.beq k i with
    | true => exact .inr ⟨0, V, by have := Nat.eq_of_beq_eq_true hb; omega, by simp, by simpa using h2⟩
    | false =>
      simp only [cond_false]
      rcases TR_mkT args Vs' (k + 1) h3 i with h4 | ⟨j, V', e1, e2, e3⟩
      · exact .inl h4
      · exact .inr ⟨j + 1, V', by omega, by simpa using e2, e3⟩

theorem TR_enter {m : List Nat} {args : List AV} {Args : Array Value} (h : RL m args Args.toList) {n : Nat} (hn : args.length ≤ n) :
    TR m n (mkT 0 args) (Args ++ Array.replicate (n - Args.size) undef) := by
  have hl : Args.size = args.length := by have := RL_len h; simpa using this
  refine ⟨by simp; omega, fun i => ?_⟩
  rcases TR_mkT args Args.toList 0 h i with h4 | ⟨j, V, e1, e2, e3⟩
  · rw [h4]; simp only [R]
  · have hj : j < Args.size := by have := (List.getElem?_eq_some_iff.1 e2).1; simpa using this
    have : (Args ++ Array.replicate (n - Args.size) undef).getD i undef = V := by
      obtain rfl : i = j := by omega
      rw [Array.getD_eq_getD_getElem?, Array.getElem?_append_left hj]
      have : Args[i]? = some V := by simpa using e2
      rw [this]; rfl
    rw [this]; exact e3

theorem ares_ok {P : Program} {m : List Nat} {n : Nat} {T : List (Nat × AV)} {tmps : Array Value} (hT : TR m n T tmps) {H : List AB} {w : World} (hH : HR m H w) {f : ResultVar → Sem Value} (f1 : ∀ t, f (.tmp t) = pure (tmps.getD t undef)) (f2 : ∀ a t, f (.cell a t) = do loadVar t (← asAddr (tmps.getD a undef))) : ∀ (l : List ResultVar) (vs : List AV), ares P T H l = some vs →
    ∃ Vs, RL m vs Vs ∧ (l.mapM f).run P w = .ok Vs w
  | [], vs, h => by simp only [ares, Option.some.injEq] at h; subst h; exact ⟨[], RL_nil.2 rfl, by simp⟩
  | .tmp t :: l, vs, h => by
    simp only [ares] at h
    split at h
    · rename_i us hus
      cases h
      obtain ⟨Vs, h1, h2⟩ := ares_ok hT hH f1 f2 l us hus
      refine ⟨tmps.getD t undef :: Vs, RL.cons (hT.2 t) h1, ?_⟩
      rw [List.mapM_cons, f1]
      simp only [Sem.run_bind, Sem.run_pure, Result.andThen_ok, h2]
    · cases h
  | .cell a t :: l, vs, h => by
    simp only [ares] at h
    split at h
    · rename_i v us hv hus
      cases h
      obtain ⟨Vs, h1, h2⟩ := ares_ok hT hH f1 f2 l us hus
      obtain ⟨V, h3, h4⟩ := loadA_ok hH (hT.2 a) hv
      have h5 := h4 w (fun _ _ => rfl)
      refine ⟨V :: Vs, RL.cons h3 h1, ?_⟩
      rw [List.mapM_cons, f2]
      have h6 : (do loadVar t (← asAddr (tmps.getD a undef)) : Sem Value).run P w = .ok V w := by
        have hA := hT.2 a
        unfold loadA at hv
        split at hv
        · rename_i i o heq
          rw [heq] at hA
          simp only [R] at hA
          obtain ⟨b, _, hA⟩ := hA
          rw [hA] at h5 ⊢
          simpa [Instr.loadAt, Instr.sureAddr, asAddr] using h5
        · cases hv
      simp only [Sem.run_bind] at h6 ⊢
      simp only [h6, Result.andThen_ok, Sem.run_pure, h2]
    · cases h

theorem results_ok {P : Program} {m : List Nat} {n : Nat} {T : List (Nat × AV)} {tmps : Array Value} (hT : TR m n T tmps) {H : List AB} {w : World} (hH : HR m H w) {fn : Func} {vs : List AV} (h : ares P T H fn.results.toList = some vs) :
    ∃ V, R m (tupOf vs) V ∧ (results fn tmps).run P w = .ok V w := by
  have key : ∃ Vs, RL m vs Vs ∧ (results fn tmps).run P w = .ok (if h : (⟨Vs⟩ : Array Value).size = 1 then (⟨Vs⟩ : Array Value)[0] else .tuple ⟨Vs⟩) w := by
    unfold results
    rw [Array.mapM_eq_mapM_toList]
    simp only [map_eq_pure_bind, Sem.run_bind, Sem.run_pure]
    generalize hf : (fun (x : ResultVar) => (_ : Sem Value)) = f
    obtain ⟨Vs, h1, h2⟩ := ares_ok hT hH (f := f) (fun t => by rw [← hf]) (fun a t => by rw [← hf]) fn.results.toList vs h
    exact ⟨Vs, h1, by rw [h2]; rfl⟩
  obtain ⟨Vs, h1, h2⟩ := key
  have hl := RL_len h1
  refine ⟨if h : (⟨Vs⟩ : Array Value).size = 1 then (⟨Vs⟩ : Array Value)[0] else .tuple ⟨Vs⟩, ?_, ?_⟩
  · match vs, Vs, h1, hl with
    | [], [], _, _ => simp [tupOf, R, RL]
    | [v], [V], h1, _ =>
      obtain ⟨V', Vs', e1, e2, e3⟩ := RL_cons.1 h1
      cases e1
      simpa [tupOf] using e2
    | u :: v :: vs, U :: V :: Vs, h1, _ =>
      simp only [tupOf, R]
      exact ⟨U :: V :: Vs, by simp, h1⟩
  · exact h2

theorem acall_of_code {P : Program} {env : Env} {fuel : Nat}
    (ih : ∀ (n : Nat) (c : Code) (T : List (Nat × AV)) (H : List AB) (K : Ex → List (Nat × AV) → List AB → Option ρ) (r : ρ), acode P env fuel n c T H K = some r → ∀ (m : List Nat) (a : Act) (w : World) (Q : Exit → Act → World → Prop), TR m n T a.tmps → HR m H w → a.defers = [] →
      (∀ e T' H' a' m' w', TR m' n T' a'.tmps → HR m' H' w' → Ext m w m' w' → a'.defers = [] → K e T' H' = some r → Q (exOf e) a' w') → c.wp P Q a w)
    {fid : FuncId} {fn : Func} (hfn : P.funcs[fid]? = some fn) {c' : Code} (hc' : fn.body = some c') {args : List AV} (hle : args.length ≤ fn.ntmps) {H : List AB} {K : AV → List AB → Option ρ} {r : ρ}
    (h : acode P env fuel fn.ntmps c' (mkT 0 args) H (fun e T' H' => match e with | .exit _ => none | _ => match ares P T' H' fn.results.toList with | some vs => K (tupOf vs) H' | none => none) = some r)
    {m : List Nat} {Args : Array Value} {w : World} (hA : RL m args Args.toList) (hH : HR m H w) :
    Calls P fid Args w fun e w' => ∃ v V m' H', e = .returned V ∧ R m' v V ∧ HR m' H' w' ∧ Ext m w m' w' ∧ K v H' = some r := by
  refine calls_of_wp hfn hc' (ih _ _ _ _ _ _ h m _ w _ (TR_enter hA hle) hH rfl ?_)
  intro e T' H' a' m' w' q1 q2 q3 q4 q5
  cases e with
  | exit id => cases q5
  | normal =>
    simp only at q5
    split at q5
    · rename_i vs hvs
      obtain ⟨V, h1, h2⟩ := results_ok q1 q2 hvs
      exact ⟨q4, V, h2, _, V, m', H', rfl, h1, q2, q3, q5⟩
    · cases q5
  | ret =>
    simp only at q5
    split at q5
    · rename_i vs hvs
      obtain ⟨V, h1, h2⟩ := results_ok q1 q2 hvs
      exact ⟨q4, V, h2, _, V, m', H', rfl, h1, q2, q3, q5⟩
    · cases q5

end
end Go.Proofs.YtdojnnlhaiennaaGreat.Ae

/- Regions that draw their order, with calls that write: whatever order is drawn, it comes to what the text's order comes to, where what touches the same memory or the same slot stands in one order. Conditions: the contracts that are looked up hold. -/
namespace Go.Proofs.YtdojnnlhaiennaaGreat.Ae
open Go

section nat
variable {ρ : Type} {P : Program}

theorem abinI_nat (op : BinOp) (k : IntKind) (x y : Int) (K : AV → Option ρ) : abinI op k x y K = (abinI op k x y some).bind K := by
  cases op <;> simp only [abinI] <;> (try rfl)
  · cases (y == 0) <;> rfl
  · cases (y == 0) <;> rfl
theorem ashift_nat (l : Bool) (k : IntKind) (x y : Int) (K : AV → Option ρ) : ashift l k x y K = (ashift l k x y some).bind K := by
  unfold ashift
  cases decide (y < 0) <;> cases l <;> rfl
theorem abin_nat (op : BinOp) (t : TypeId) (x y : AV) (K : AV → Option ρ) : abin P op t x y K = (abin P op t x y some).bind K := by
  unfold abin
  split
  · split
    · exact ashift_nat ..
    · exact ashift_nat ..
    · split
      · exact abinI_nat ..
      · rfl
  · rename_i k a lo hi ex k' b
    split
    · split
      · cases (ex.any fun c => c == b) <;> rfl
      · cases (ex.any fun c => c == b) <;> rfl
      · cases (lo.any fun l => decide (b ≤ l)) <;> cases (hi.any fun l => decide (l < b)) <;> rfl
      · cases (lo.any fun l => decide (b < l)) <;> cases (hi.any fun l => decide (l ≤ b)) <;> rfl
      · rfl
    · rfl
  · rename_i k b k' a lo hi ex
    split
    · split
      · cases (ex.any fun c => c == b) <;> rfl
      · cases (ex.any fun c => c == b) <;> rfl
      · rfl
    · rfl
  · split
    · rfl
    · rfl
    · rename_i a b _; cases decide (a.size + b.size ≤ 4611686018427387904) <;> rfl
    · rfl
  · split
    · cases (plainEq _ && eqFree P t _)
      · rfl
      · simp only [cond_true]; split <;> rfl
    · cases (plainEq _ && eqFree P t _)
      · rfl
      · simp only [cond_true]; split <;> rfl
    · rfl
theorem abuiltin_nat (b : Builtin) (ts : Array TypeId) (args : List AV) (K : AV → Option ρ) : abuiltin P b ts args K = (abuiltin P b ts args some).bind K := by
  unfold abuiltin
  split
  · split
    · split <;> rfl
    · rfl
  · rfl
  · rfl
  · rfl

/-- The kinds that hang on their operands alone. -/
def pureKind : Op → Bool
  | .move _ | .assign _ | .pick .. | .nilCheck _ | .binOp .. | .unOp .. | .fieldAddr .. | .field .. | .extract .. | .convert .. | .index .. | .indexAddr .. | .build .. | .slice .. | .sliceToArrayPointer .. | .makeFunc .. => true
  | _ => false
/-- .. and change no row of bytes. -/
def pureOp (P : Program) (op : Op) : Bool :=
  pureKind op && match op with
    | .convert s d _ => !(isRowConv P s d)
    | _ => true
/-- The kinds that are kept in one order with all that touches memory. -/
def heavyOp (P : Program) : Op → Bool
  | .convert s d _ => isRowConv P s d
  | .makeSlice .. | .buildSlice .. => true
  | .call c => match c.callee with
    | .builtin .append => true
    | _ => false
  | _ => false

theorem abound_nat (x : Option AV) (d top : Nat) (K : Nat → Option ρ) : abound x d top K = (abound x d top some).bind K := by
  unfold abound
  split
  · rfl
  · cases leN _ _ <;> rfl
  · rfl
theorem abound2_nat (x y : Option AV) (d t : Nat) (K : Nat → Nat → Option ρ) : (abound x d t fun h => abound y 0 h fun l => K h l) = (abound x d t fun h => abound y 0 h fun l => some (h, l)).bind fun p => K p.1 p.2 := by
  rw [abound_nat, abound_nat (K := fun h => abound y 0 h fun l => some (h, l))]
  cases abound x d t some with
  | none => rfl
  | some h =>
    simp only [Option.bind_some]
    rw [abound_nat, abound_nat (K := fun l => some (h, l))]
    cases abound y 0 h some <;> rfl
theorem apure_nat {e : Operand → AV} {op : Op} (hk : pureKind op = true) (K : AV → Option ρ) : apure P e op K = (apure P e op some).bind K := by
  cases op <;> simp only [pureKind, Bool.false_eq_true] at hk <;> simp only [apure]
  case move => rfl
  case assign => rfl
  case pick c a b =>
    split
    · rename_i c' _
      split
      · rfl
      · cases c' <;> rfl
    · rfl
  case build t parts =>
    split
    · split
      · split
        · cases (Array.all _ _) <;> rfl
        · rfl
      · rfl
    · split
      · split <;> rfl
      · rfl
    · rfl
  case nilCheck x => split <;> rfl
  case binOp => exact abin_nat ..
  case unOp => split <;> rfl
  case convert => split <;> rfl
  case fieldAddr =>
    split
    · split
      · split
        · cases (Nat.beq _ _) <;> rfl
        · rfl
      · rfl
    · rfl
  case field =>
    split
    · split
      · split <;> rfl
      · rfl
    · rfl
  case indexAddr =>
    split
    · split
      · split
        · cases (_ && _) <;> rfl
        · rfl
      · split
        · cases (_ && _) <;> rfl
        · rfl
      · split
        · cases (_ && _) <;> rfl
        · rfl
      · rfl
    · rfl
  case index =>
    split
    · split
      · split
        · cases (_ && _)
          · rfl
          · simp only [cond_true]; split <;> rfl
        · rfl
      · cases ltN _ _ <;> rfl
      · cases ltN _ _ <;> rfl
      · cases ltN _ _ <;> rfl
      · rfl
    · rfl
  case extract =>
    split
    · split <;> rfl
    · rfl
  case sliceToArrayPointer =>
    split
    · cases (Nat.ble _ _) <;> rfl
    · rfl
  case makeFunc fn first cap =>
    cases fn with
    | func f => simp only; cases first.isEmpty <;> rfl
    | _ => rfl
  case slice t x lo hi mx =>
    split
    · rfl
    · split
      · rename_i s _ _
        rw [abound2_nat (K := fun h l => K (.str (s.extract l h))), abound2_nat (K := fun h l => (some (AV.str (s.extract l h)) : Option AV))]
        cases (abound (hi.map e) s.size s.size fun h => abound (lo.map e) 0 h fun l => some (h, l)) <;> rfl
      · rename_i s n g _ _
        rw [abound2_nat (K := fun h l => K (.strG (s.extract l h) (h - l) fun i => g (l + i))), abound2_nat (K := fun h l => (some (AV.strG (s.extract l h) (h - l) fun i => g (l + i)) : Option AV))]
        cases (abound (hi.map e) n n fun h => abound (lo.map e) 0 h fun l => some (h, l)) <;> rfl
      · rename_i el b o len cap _ _
        split
        · rename_i n _
          rw [abound2_nat (K := fun h l => bif Nat.beq cap l then none else K (.slice b (o + l * n) (h - l) (cap - l))), abound2_nat (K := fun h l => (bif Nat.beq cap l then none else some (AV.slice b (o + l * n) (h - l) (cap - l)) : Option AV))]
          cases (abound (hi.map e) len cap fun h => abound (lo.map e) 0 h fun l => some (h, l)) with
          | none => rfl
          | some p => simp only [Option.bind_some]; cases (Nat.beq _ _) <;> rfl
        · rfl
      · rename_i len el b o _ _
        split
        · rename_i n _
          rw [abound2_nat (K := fun h l => bif Nat.beq len l then none else K (.slice b (o + l * n) (h - l) (len - l))), abound2_nat (K := fun h l => (bif Nat.beq len l then none else some (AV.slice b (o + l * n) (h - l) (len - l)) : Option AV))]
          cases (abound (hi.map e) len len fun h => abound (lo.map e) 0 h fun l => some (h, l)) with
          | none => rfl
          | some p => simp only [Option.bind_some]; cases (Nat.beq _ _) <;> rfl
        · rfl
      · rename_i el b len _ _
        split
        · rename_i n _
          rw [abound_nat (K := fun l => bif Nat.ble (l + 1) len then K (.view b (l * n) (len - l)) else none), abound_nat (K := fun l => (bif Nat.ble (l + 1) len then some (AV.view b (l * n) (len - l)) else none : Option AV))]
          cases (abound (lo.map e) 0 len some) with
          | none => rfl
          | some p => simp only [Option.bind_some]; cases (Nat.ble _ _) <;> rfl
        · rfl
      · rfl

theorem apure_congr {e e' : Operand → AV} {op : Op} (hk : pureKind op = true) (h : ∀ x ∈ op.operands, e x = e' x) (K : AV → Option ρ) : apure P e op K = apure P e' op K := by
  cases op <;> simp only [pureKind, Bool.false_eq_true] at hk <;> simp only [Op.operands] at h <;> simp only [apure]
  case move x => rw [h x (by simp)]
  case assign x => rw [h x (by simp)]
  case pick c a b => rw [h c (by simp), h a (by simp), h b (by simp)]
  case build t parts =>
    have : parts.toList.map (fun (i, x) => (i, e x)) = parts.toList.map (fun (i, x) => (i, e' x)) :=
      List.map_congr_left fun p hp => by
        obtain ⟨i, x⟩ := p
        simp only [h x (by simp only [List.mem_toArray, List.mem_map]; exact ⟨(i, x), hp, rfl⟩)]
    rw [this]
  case nilCheck x => rw [h x (by simp)]
  case binOp op t x y yt => rw [h x (by simp), h y (by simp)]
  case unOp op t x => rw [h x (by simp)]
  case convert s d x => rw [h x (by simp)]
  case fieldAddr s x f => rw [h x (by simp)]
  case field s x f => rw [h x (by simp)]
  case indexAddr t x i => rw [h x (by simp), h i (by simp)]
  case index t x i => rw [h x (by simp), h i (by simp)]
  case extract x i => rw [h x (by simp)]
  case sliceToArrayPointer t x => rw [h x (by simp)]
  case makeFunc fn first cap =>
    have : cap.toList.map e = cap.toList.map e' := List.map_congr_left fun x hx => h x (by simp at hx; simp [hx])
    cases fn with
    | func f => simp only; rw [this]
    | _ => rfl
  case slice t x lo hi mx =>
    cases mx with
    | some _ => rfl
    | none =>
      have h1 : hi.map e = hi.map e' := by cases hi with
        | none => rfl
        | some y => simp only [Option.map_some]; rw [h y (by simp)]
      have h2 : lo.map e = lo.map e' := by cases lo with
        | none => rfl
        | some y => simp only [Option.map_some]; rw [h y (by simp)]
      rw [h x (by simp), h1, h2]
end nat

abbrev Tab := List (Nat × AV)
def Teq (T T' : Tab) : Prop := ∀ i, get T i = get T' i
def putT (d : Option Tmp) (v : AV) (T : Tab) : Tab :=
  match d with
  | none => T
  | some d => (d, v) :: T
theorem Teq.refl (T : Tab) : Teq T T := fun _ => rfl
theorem get_putT {d : Option Tmp} {v : AV} {T : Tab} (t : Nat) : get (putT d v T) t = if d = some t then v else get T t := by
  cases d with
  | none => simp [putT]
  | some d =>
    by_cases e : d = t
    · subst e; simp [putT, get]
    · rw [putT, get_cons_ne e, if_neg (by simpa using e)]

section
variable {P : Program} {env : Env} {ops : Array Oper} {n : Nat}

def aexecD (P : Program) (env : Env) (o : Oper) (T : Tab) (H : List AB) : Option (AV × List AB) := aexec P (dcD env) o T H fun v H => some (v, H)

theorem dcD_nat {ρ : Type} (f : FuncId) (args : List AV) (H : List AB) (K : AV → List AB → Option ρ) : dcD env f args H K = (dcD env f args H fun v H => some (v, H)).bind fun p => K p.1 p.2 := by
  unfold dcD
  split
  · rename_i C F _
    cases C args with
    | false => rfl
    | true =>
      simp only [cond_true]
      split
      · rename_i v _; cases v.noPtr <;> rfl
      · rfl
  · rename_i C F _
    cases C args with
    | false => rfl
    | true =>
      simp only [cond_true]
      split <;> rfl
  · split
    · rename_i v _; cases v.noPtr <;> rfl
    · rfl
  · split <;> rfl
  · split <;> rfl
  · split <;> rfl
  · split <;> rfl
  · rfl

/-- An operation of the kinds that may stand in such a region. -/
theorem foot_kind {e : Tab} {H : List AB} {op : Op} {f : Foot} (h : footOf P env e H op = some f) :
    (pureOp P op = true ∧ f = .none) ∨ (heavyOp P op = true ∧ f = .all) ∨ ((∃ t a b o, op = .load t a ∧ ev e a = .ptr b o ∧ f = .rd b) ∨ (∃ t x k ok b, op = .lookup t x k ok ∧ ev e x = .map b ∧ f = .rd b)) ∨ (∃ t a x b o, op = .store t a x ∧ ev e a = .ptr b o ∧ f = .wt b) ∨ (((∃ t, op = .alloc t) ∨ (∃ t r, op = .makeMap t r) ∨ (∃ t x, op = .box t x)) ∧ f = .al H.length) ∨ (∃ t x k y two el b k', (op = .mapUpdate t x k y ∨ op = .insert t x k y) ∧ mapT P t = some (two, el) ∧ ev e x = .map b ∧ keyA two (ev e k) = some k' ∧ f = .put b k') ∨
    (∃ c, op = .call c ∧ ((∃ b, c.callee = .builtin b ∧ b ≠ .append ∧ f = .none) ∨ (∃ g, c.callee = .value (.func g) ∧
      (((∃ C F, envGet env g = some (.pure C F)) ∨ (∃ C F, envGet env g = some (.ext C F)) ∨ (∃ F, envGet env g = some (.calc F))) ∧ f = .none ∨
      (∃ T F j o l, envGet env g = some (.flow T F) ∧ c.args.toList.map (ev e) = .ptr j o :: l ∧ f = .wt j) ∨ (∃ F j o l, envGet env g = some (.see F) ∧ c.args.toList.map (ev e) = .ptr j o :: l ∧ f = .see j) ∨ (∃ F, envGet env g = some (.mk F) ∧ f = .al H.length))) ∨
      (∃ fo fid cap T F a b x j t, c.callee = .value fo ∧ ev e fo = .fn fid cap ∧ envGet env fid = some (.clo T F) ∧ c.args.toList.map (ev e) ++ cap = [a, b, .ptr x 0] ∧ H[x]? = some (.cells [.ptr j 0] t) ∧ f = .rw x j))) := by
  cases op <;> simp only [footOf, Option.some.injEq, reduceCtorEq] at h
  case load t a =>
    split at h
    · rename_i b o hb; cases h; exact .inr (.inr (.inl (.inl ⟨t, a, b, o, rfl, hb, rfl⟩)))
    · cases h
  case lookup t x k ok =>
    split at h
    · rename_i b hb; cases h; exact .inr (.inr (.inl (.inr ⟨t, x, k, ok, b, rfl, hb, rfl⟩)))
    · cases h
  case makeMap t r => exact .inr (.inr (.inr (.inr (.inl ⟨.inr (.inl ⟨t, r, rfl⟩), h.symm⟩))))
  case mapUpdate t x k y =>
    split at h
    · rename_i two el b hm hb
      split at h
      · rename_i k' hk; cases h; exact .inr (.inr (.inr (.inr (.inr (.inl ⟨t, x, k, y, two, el, b, k', .inl rfl, hm, hb, hk, rfl⟩)))))
      · cases h
    · cases h
  case insert t x k y =>
    split at h
    · rename_i two el b hm hb
      split at h
      · rename_i k' hk; cases h; exact .inr (.inr (.inr (.inr (.inr (.inl ⟨t, x, k, y, two, el, b, k', .inr rfl, hm, hb, hk, rfl⟩)))))
      · cases h
    · cases h
  case store t a x =>
    split at h
    · rename_i b o hb; cases h; exact .inr (.inr (.inr (.inl ⟨t, a, x, b, o, rfl, hb, rfl⟩)))
    · cases h
  case alloc t => exact .inr (.inr (.inr (.inr (.inl ⟨.inl ⟨t, rfl⟩, h.symm⟩))))
  case convert s d x =>
    cases hrc : isRowConv P s d with
    | true => rw [hrc] at h; cases h; exact .inr (.inl ⟨by simp only [heavyOp, hrc], rfl⟩)
    | false => rw [hrc] at h; cases h; exact .inl ⟨by simp only [pureOp, pureKind, hrc]; rfl, rfl⟩
  case makeSlice => exact .inr (.inl ⟨rfl, h.symm⟩)
  case buildSlice => exact .inr (.inl ⟨rfl, h.symm⟩)
  case box t x => exact .inr (.inr (.inr (.inr (.inl ⟨.inr (.inr ⟨t, x, rfl⟩), h.symm⟩))))
  case call c =>
    split at h
    · rename_i g hc
      refine .inr (.inr (.inr (.inr (.inr (.inr ⟨c, rfl, .inr (.inl ⟨g, hc, ?_⟩)⟩)))))
      split at h
      · rename_i C F hF; exact .inl ⟨.inl ⟨C, F, hF⟩, by cases h; rfl⟩
      · rename_i C F hF; exact .inl ⟨.inr (.inl ⟨C, F, hF⟩), by cases h; rfl⟩
      · rename_i F hF; exact .inl ⟨.inr (.inr ⟨F, hF⟩), by cases h; rfl⟩
      · rename_i T F hF
        split at h
        · rename_i j o l hl; cases h; exact .inr (.inl ⟨T, F, j, o, l, hF, hl, rfl⟩)
        · cases h
      · rename_i F hF
        split at h
        · rename_i j o l hl; cases h; exact .inr (.inr (.inl ⟨F, j, o, l, hF, hl, rfl⟩))
        · cases h
      · rename_i F hF; cases h; exact .inr (.inr (.inr ⟨F, hF, rfl⟩))
      · cases h
    · rename_i b hc
      split at h
      · cases h; exact .inr (.inl ⟨by simp only [heavyOp, hc], rfl⟩)
      · rename_i hne
        cases h; exact .inr (.inr (.inr (.inr (.inr (.inr ⟨c, rfl, .inl ⟨b, hc, hne, rfl⟩⟩)))))
    · rename_i fo _ hc
      split at h
      · rename_i fid cap hf
        split at h
        · rename_i T F a b x hF hargs
          split at h
          · rename_i j t hj
            cases h
            exact .inr (.inr (.inr (.inr (.inr (.inr ⟨c, rfl, .inr (.inr ⟨fo, fid, cap, T, F, a, b, x, j, t, hc, hf, hF, hargs, hj, rfl⟩)⟩)))))
          · cases h
        · cases h
      · cases h
    · cases h
  all_goals exact .inl ⟨rfl, h.symm⟩

theorem pureOp_kind {op : Op} (h : pureOp P op = true) : pureKind op = true := by
  unfold pureOp at h
  simp only [Bool.and_eq_true] at h
  exact h.1

theorem aexec_pure {ρ : Type} {dc : FuncId → List AV → List AB → (AV → List AB → Option ρ) → Option ρ} {o : Oper} {T : Tab} {H : List AB} {K : AV → List AB → Option ρ} (hk : pureOp P o.op = true) :
    aexec P dc o T H K = apure P (ev T) o.op fun v => K v H := by
  have hk' := pureOp_kind hk
  unfold aexec
  split
  · rename_i c hop; rw [hop] at hk'; cases hk'
  · rename_i t a hop; rw [hop] at hk'; cases hk'
  · rename_i hop; rw [hop] at hk'; cases hk'
  · rename_i t l c hop; rw [hop] at hk'; cases hk'
  · rename_i s d x hop
    rw [hop] at hk
    have : isRowConv P s d = false := by simpa [pureOp, pureKind] using hk
    rw [this, ← hop]; rfl
  · have : isMem o.op = false := by
      generalize o.op = op at hk'
      cases op <;> simp_all [pureKind, isMem]
    rw [this]; rfl

theorem aappend_nat {ρ : Type} (ts : Array TypeId) (args : List AV) (H : List AB) (K : AV → List AB → Option ρ) : aappend P ts args H K = (aappend P ts args H fun v H => some (v, H)).bind fun p => K p.1 p.2 := by
  unfold aappend
  split
  · rename_i t u s x _
    split
    · rename_i el news _ _
      cases (Nat.beq t u && AV.scalars news && Nat.ble 1 news.length && Nat.ble news.length 100000) with
      | false => rfl
      | true =>
        simp only [cond_true]
        split
        · rfl
        · rename_i i n
          split
          · rename_i l el' _
            cases (Nat.beq l.length n && Nat.beq el el' && Nat.ble n 100000) <;> rfl
          · rfl
        · rename_i i o len cap
          cases (Nat.beq len cap && Nat.ble cap 100000) with
          | false => rfl
          | true =>
            simp only [cond_true]
            split <;> rfl
        · rfl
    · rfl
  · rfl
theorem aappendS0_nat {ρ : Type} (el : TypeId) (args : List AV) (H : List AB) (K : AV → List AB → Option ρ) : aappendS0 el args H K = (aappendS0 el args H fun v H => some (v, H)).bind fun p => K p.1 p.2 := by
  unfold aappendS0
  split
  · rename_i i o len cap s
    cases (Nat.beq len cap && Nat.ble cap 100000 && Nat.ble 1 s.size && Nat.ble s.size 100000) with
    | false => rfl
    | true =>
      simp only [cond_true]
      split <;> rfl
  · rfl
theorem aappendS_nat {ρ : Type} (el : TypeId) (args : List AV) (H : List AB) (K : AV → List AB → Option ρ) : aappendS el args H K = (aappendS el args H fun v H => some (v, H)).bind fun p => K p.1 p.2 := by
  unfold aappendS
  split
  · rename_i i o len cap s n g
    cases Nat.beq n 0 with
    | true =>
      simp only [cond_true]
      cases Nat.beq len cap <;> rfl
    | false =>
      simp only [cond_false]
      cases (Nat.beq len cap && Nat.ble cap 100000 && Nat.ble 1 n && Nat.ble n 100000) with
      | false => rfl
      | true =>
        simp only [cond_true]
        split <;> rfl
  · exact aappendS0_nat ..
theorem tabK_nat {ρ : Type} (t : TypeId) (o0 o : Nat) (f : Nat → List AV) (k n : Nat) (K : AV → Option ρ) : tabK P t o0 o f k n K = (tabK P t o0 o f k n some).bind K := by
  unfold tabK
  split
  · split
    · cases (_ && _) <;> rfl
    · rfl
  · cases (Nat.beq k 1 && Nat.ble o0 o && Nat.ble (o - o0 + 1) n) with
    | false => rfl
    | true =>
      simp only [cond_true]
      split <;> rfl
  · rfl
theorem tabK_nat2 {ρ : Type} (t : TypeId) (o0 o : Nat) (f : Nat → List AV) (k n : Nat) (H : List AB) (K : AV → List AB → Option ρ) : (tabK P t o0 o f k n fun v => K v H) = (tabK P t o0 o f k n fun v => some (v, H)).bind fun p => K p.1 p.2 := by
  rw [tabK_nat, tabK_nat (K := fun v => some (v, H))]
  cases tabK P t o0 o f k n some <;> rfl
theorem aappendZ_nat {ρ : Type} (el : TypeId) (z : Nat) (args : List AV) (H : List AB) (K : AV → List AB → Option ρ) : aappendZ el z args H K = (aappendZ el z args H fun v H => some (v, H)).bind fun p => K p.1 p.2 := by
  unfold aappendZ
  split
  · split
    · rename_i news _ _
      cases (AV.scalars news && Nat.beq news.length z) with
      | false => rfl
      | true =>
        simp only [cond_true]
        split
        · rfl
        · rename_i i n
          split
          · rename_i z' l el' _
            cases (Nat.beq z z' && Nat.beq el el' && Nat.beq l.length (n * z) && Nat.ble n 100000) <;> rfl
          · rfl
        · rfl
    · rfl
  · rfl
theorem amake_nat {ρ : Type} (t : TypeId) (l c : AV) (H : List AB) (K : AV → List AB → Option ρ) : amake P t l c H K = (amake P t l c H fun v H => some (v, H)).bind fun p => K p.1 p.2 := by
  unfold amake
  split
  · rename_i k l k' c
    cases (decide (0 ≤ l) && decide (l ≤ c) && decide (c ≤ 100000)) with
    | false => rfl
    | true =>
      simp only [cond_true]
      split
      · split <;> rfl
      · rfl
  · rfl
theorem aconvR_nat {ρ : Type} (s d : TypeId) (x : AV) (H : List AB) (K : AV → List AB → Option ρ) : aconvR P s d x H K = (aconvR P s d x H fun v H => some (v, H)).bind fun p => K p.1 p.2 := by
  unfold aconvR
  split
  · split
    · split
      · rename_i q n g _
        cases q <;> rfl
      · split <;> rfl
    · rfl
  · split <;> rfl
  · rfl
theorem amem_nat {ρ : Type} {e : Operand → AV} {H : List AB} {op : Op} (K : AV → List AB → Option ρ) : amem P e H op K = (amem P e H op fun v H => some (v, H)).bind fun p => K p.1 p.2 := by
  cases op <;> simp only [amem] <;> (try rfl)
  case alloc =>
    split
    · split <;> rfl
    · rfl
  case box => split <;> rfl
  case buildSlice t len parts =>
    split
    · rename_i el _
      split
      · rename_i n z _ _
        cases (Nat.ble (len * n) 16777216 && Nat.ble 1 (len * n) && Nat.ble 1 z.length) with
        | false => rfl
        | true =>
          simp only [cond_true]
          split <;> rfl
      · rfl
    · rfl
  case store t a x =>
    split
    · split
      · cases (_ && _) <;> rfl
      · split
        · cases (_ && _) <;> rfl
        · rfl
      · rfl
    · rfl
  case makeMap t res =>
    cases res
    · simp only; split <;> rfl
    · rfl
  case mapUpdate => split <;> rfl
  case insert => split <;> rfl

theorem aexec_nat {ρ : Type} {o : Oper} {T : Tab} {H : List AB} {f : Foot} (hf : footOf P env T H o.op = some f) (K : AV → List AB → Option ρ) :
    aexec P (dcD env) o T H K = (aexecD P env o T H).bind fun p => K p.1 p.2 := by
  unfold aexecD
  rcases foot_kind hf with ⟨hk, _⟩ | ⟨hk, _⟩ | (⟨t, a, b, o', hop, _⟩ | ⟨t, x, k, ok, b, hop, _⟩) | ⟨t, a, x, b, o', hop, _⟩ | ⟨⟨t, hop⟩ | ⟨t, r, hop⟩ | ⟨t, x, hop⟩, _⟩ | ⟨t, x, k, y, two, el, b, k', hop, _⟩ | ⟨c, hop, hc⟩
  · rw [aexec_pure hk, aexec_pure hk, apure_nat (pureOp_kind hk), apure_nat (K := fun v => some (v, H)) (pureOp_kind hk)]
    cases apure P (ev T) o.op some <;> rfl
  · unfold aexec
    split
    · rename_i c hop
      rw [hop] at hk
      simp only [heavyOp] at hk
      split at hk
      · rename_i hc
        simp only [hc]
        cases bigEl P c.argTypes with
        | none =>
          cases strEl P c.argTypes with
          | none => exact aappend_nat ..
          | some p => exact aappendS_nat ..
        | some p => exact aappendZ_nat ..
      · cases hk
    · rename_i hop; rw [hop] at hk; cases hk
    · rename_i hop; rw [hop] at hk; cases hk
    · exact amake_nat ..
    · rename_i s d x hop
      rw [hop] at hk
      have : isRowConv P s d = true := hk
      simp only [this, cond_true]
      exact aconvR_nat ..
    · have : isMem o.op = true := by
        generalize o.op = op at *
        cases op <;> simp_all [heavyOp, isMem]
      simp only [this, cond_true]
      exact amem_nat ..
  · unfold aexec; simp only [hop]
    split
    · exact tabK_nat2 ..
    · split <;> rfl
  · unfold aexec; simp only [hop]
    split <;> rfl
  · unfold aexec; simp only [hop, isMem, cond_true]
    exact amem_nat ..
  · unfold aexec; simp only [hop, isMem, cond_true]
    exact amem_nat ..
  · unfold aexec; simp only [hop, isMem, cond_true]
    exact amem_nat ..
  · unfold aexec; simp only [hop, isMem, cond_true]
    exact amem_nat ..
  · rcases hop with hop | hop
    · unfold aexec; simp only [hop, isMem, cond_true]
      exact amem_nat ..
    · unfold aexec; simp only [hop, isMem, cond_true]
      exact amem_nat ..
  · unfold aexec; simp only [hop]
    rcases hc with ⟨b, hb, hne, _⟩ | ⟨g, hg, _⟩ | ⟨fo, fid, cap, T', F, a, b, x, j, t, hfo, hfn, _⟩
    · simp only [hb]
      rw [abuiltin_nat, abuiltin_nat (K := fun v => some (v, H))]
      cases abuiltin P b c.argTypes (c.args.toList.map (ev T)) some <;> rfl
    · simp only [hg, ev]
      exact dcD_nat ..
    · simp only [hfo, hfn]
      exact dcD_nat ..

/-- The slots that an operation looks at are alike. -/
def Agree (ops : Array Oper) (o : Oper) (T T2 : Tab) : Prop := ∀ t ∈ o.looksAt ops, get T t = get T2 t

theorem Agree.ev {o : Oper} {T T2 : Tab} (h : Agree ops o T T2) : ∀ x ∈ o.op.operands, ev T x = ev T2 x := fun x hx => by
  cases x with
  | tmp t => exact h t (List.mem_append_left _ (List.mem_filterMap.2 ⟨.tmp t, by simpa using hx, rfl⟩))
  | _ => rfl

theorem map_agree {o : Oper} {c : Call} (hop : o.op = .call c) {T T2 : Tab} (h : Agree ops o T T2) : c.args.toList.map (ev T) = c.args.toList.map (ev T2) :=
  List.map_congr_left fun x hx => h.ev x (by rw [hop]; simp only [Op.operands, Call.operands]; exact Array.mem_append.2 (.inr (by simpa using hx)))

/-- What an operation comes to at a place like the one where it was carried out. -/
def Loc (P : Program) (env : Env) (ops : Array Oper) (o : Oper) (T : Tab) (H : List AB) (v : AV) (H' : List AB) : Foot → Prop
  | .all => ∀ T2, Agree ops o T T2 → footOf P env T2 H o.op = some .all ∧ aexecD P env o T2 H = some (v, H')
  | .none => H' = H ∧ ∀ T2 H2, Agree ops o T T2 → footOf P env T2 H2 o.op = some .none ∧ aexecD P env o T2 H2 = some (v, H2)
  | .rd b => H' = H ∧ ∀ T2 H2, Agree ops o T T2 → H2[b]? = H[b]? → footOf P env T2 H2 o.op = some (.rd b) ∧ aexecD P env o T2 H2 = some (v, H2)
  | .wt b => ∃ B, H' = H.set b B ∧ b < H.length ∧ ∀ T2 H2, Agree ops o T T2 → H2[b]? = H[b]? → footOf P env T2 H2 o.op = some (.wt b) ∧ aexecD P env o T2 H2 = some (v, H2.set b B)
  | .al k => k = H.length ∧ ∃ B, H' = H ++ [B] ∧ ∀ T2 H2, Agree ops o T T2 → H2.length = H.length → footOf P env T2 H2 o.op = some (.al k) ∧ aexecD P env o T2 H2 = some (v, H2 ++ [B])
  | .rw r b => ∃ B, H' = H.set b B ∧ r < H.length ∧ b < H.length ∧ ∀ T2 H2, Agree ops o T T2 → H2[r]? = H[r]? → H2[b]? = H[b]? → footOf P env T2 H2 o.op = some (.rw r b) ∧ aexecD P env o T2 H2 = some (v, H2.set b B)
  | .put b k => ∃ two es u, H[b]? = some (.map two es) ∧ H' = H.set b (.map two (putS k u es)) ∧ ∀ T2 H2 es2, Agree ops o T T2 → H2[b]? = some (.map two es2) → footOf P env T2 H2 o.op = some (.put b k) ∧ aexecD P env o T2 H2 = some (v, H2.set b (.map two (putS k u es2)))
  | .see w => (∃ B, H' = H.set w B) ∧ ∀ T2, Agree ops o T T2 → footOf P env T2 H o.op = some (.see w) ∧ aexecD P env o T2 H = some (v, H')

theorem heavy_congr {e e' : Operand → AV} {op : Op} (hk : isMem op = true) (h : ∀ x ∈ op.operands, e x = e' x) {ρ : Type} {H : List AB} (K : AV → List AB → Option ρ) : amem P e H op K = amem P e' H op K := by
  cases op <;> simp only [isMem, Bool.false_eq_true] at hk <;> simp only [Op.operands] at h <;> simp only [amem]
  case box t x => rw [h x (by simp)]
  case store t a x => rw [h a (by simp), h x (by simp)]
  case buildSlice t n parts =>
    have : parts.toList.map (fun (i, x) => (i, e x)) = parts.toList.map (fun (i, x) => (i, e' x)) :=
      List.map_congr_left fun p hp => by
        obtain ⟨i, x⟩ := p
        simp only [h x (by simp only [List.mem_toArray, List.mem_map]; exact ⟨(i, x), hp, rfl⟩)]
    rw [this]
  case makeMap t res => cases res <;> rfl
  case mapUpdate t x k y => rw [h x (by simp), h k (by simp), h y (by simp)]
  case insert t x k y => rw [h x (by simp), h k (by simp), h y (by simp)]

theorem exec_loc {o : Oper} {T : Tab} {H : List AB} {f : Foot} {v : AV} {H' : List AB} (hf : footOf P env T H o.op = some f) (h : aexecD P env o T H = some (v, H')) : Loc P env ops o T H v H' f := by
  have hf0 := hf
  rcases foot_kind hf with ⟨hk, rfl⟩ | ⟨hk, rfl⟩ | (⟨t, a, b, o', hop, ha, rfl⟩ | ⟨t, x, k, ok, b, hop, ha, rfl⟩) | ⟨t, a, x, b, o', hop, ha, rfl⟩ | ⟨⟨t, hop⟩ | ⟨t, r, hop⟩ | ⟨t, x, hop⟩, rfl⟩ | ⟨t, x, k, y, two, el, b, k', hop, hm, ha, hka, rfl⟩ | ⟨c, hop, hc⟩
  · unfold aexecD at h
    have hk' := pureOp_kind hk
    rw [aexec_pure hk, apure_nat hk'] at h
    obtain ⟨v', h1, h2⟩ := Option.bind_eq_some_iff.1 h
    cases h2
    refine ⟨rfl, fun T2 H2 ha => ⟨?_, ?_⟩⟩
    · generalize o.op = op at hk hf0 hk'
      cases op <;> simp_all [pureKind, footOf]
    · unfold aexecD
      rw [aexec_pure hk, apure_nat hk', ← apure_congr hk' ha.ev, h1]; rfl
  · intro T2 ha
    have hev := ha.ev
    constructor
    · generalize o.op = op at hk hf0
      cases op <;> simp only [heavyOp, Bool.false_eq_true] at hk <;> (try rfl)
      case convert s d x => simp only [footOf, hk, cond_true]
      case call c =>
        split at hk
        · rename_i hc; simp only [footOf, hc]
        · cases hk
    · rw [← h]
      unfold aexecD aexec
      split
      · rename_i c hop
        rw [hop] at hk
        simp only [heavyOp] at hk
        split at hk
        · rename_i hc
          simp only [hc]
          rw [map_agree hop ha]
        · cases hk
      · rename_i hop; rw [hop] at hk; cases hk
      · rename_i hop; rw [hop] at hk; cases hk
      · rename_i t l c hop
        rw [hop] at hev
        rw [hev l (by simp [Op.operands]), hev c (by simp [Op.operands])]
      · rename_i s d x hop
        rw [hop] at hk hev
        have : isRowConv P s d = true := hk
        simp only [this, cond_true]
        rw [hev x (by simp [Op.operands])]
      · have : isMem o.op = true := by
          generalize o.op = op at *
          cases op <;> simp_all [heavyOp, isMem]
        simp only [this, cond_true]
        exact (heavy_congr this hev _).symm
  · unfold aexecD aexec at h
    simp only [hop] at h
    have htab : ∀ T2 H2, ev T2 a = .ptr b o' → H2[b]? = H[b]? → tabA H2 (ev T2 a) = tabA H (ev T a) := fun T2 H2 h1 h2 => by
      rw [h1, ha]; unfold tabA; simp only [h2]
    split at h
    · rename_i q0 q1 q2 q3 q4 htb
      rw [tabK_nat] at h
      obtain ⟨v', h3, h4⟩ := Option.bind_eq_some_iff.1 h
      cases h4
      refine ⟨rfl, fun T2 H2 hag hb => ?_⟩
      have e2 : ev T2 a = .ptr b o' := by rw [← hag.ev a (by rw [hop]; simp [Op.operands])]; exact ha
      refine ⟨by simp only [hop, footOf, e2], ?_⟩
      unfold aexecD aexec
      simp only [hop, htab T2 H2 e2 hb, htb]
      rw [tabK_nat, h3]
      rfl
    · rename_i htb
      split at h
      · rename_i v' hv
        cases h
        refine ⟨rfl, fun T2 H2 hag hb => ?_⟩
        have e2 : ev T2 a = .ptr b o' := by rw [← hag.ev a (by rw [hop]; simp [Op.operands])]; exact ha
        have hl : loadA P H2 t (ev T2 a) = some v := by
          rw [e2]; rw [ha] at hv
          unfold loadA at hv ⊢
          simp only at hv ⊢
          rw [hb]; exact hv
        refine ⟨by simp only [hop, footOf, e2], ?_⟩
        unfold aexecD aexec
        simp only [hop, htab T2 H2 e2 hb, htb, hl]
      · cases h
  · unfold aexecD aexec at h
    simp only [hop] at h
    split at h
    · rename_i v' hv
      cases h
      refine ⟨rfl, fun T2 H2 hag hb => ?_⟩
      have e2 : ev T2 x = .map b := by rw [← hag.ev x (by rw [hop]; simp [Op.operands])]; exact ha
      have e3 : ev T2 k = ev T k := (hag.ev k (by rw [hop]; simp [Op.operands])).symm
      have hl : lookupA P H2 t (ev T2 x) (ev T2 k) ok = some v := by
        rw [e2, e3]; rw [ha] at hv
        unfold lookupA at hv ⊢
        dsimp only at hv ⊢
        rw [hb]; exact hv
      refine ⟨by simp only [hop, footOf, e2], ?_⟩
      unfold aexecD aexec
      simp only [hop, hl]
    · cases h
  · unfold aexecD aexec at h
    simp only [hop, isMem, cond_true, amem] at h
    split at h
    · rename_i i o'' vs n' h1 h2 h3
      rw [ha] at h1
      cases h1
      split at h
      · rename_i l bt hl
        cases hb : (Nat.beq vs.length n' && Nat.ble (o' + vs.length) l.length && AV.scalars vs) with
        | false => rw [hb] at h; cases h
        | true =>
          rw [hb] at h
          simp only [cond_true, Option.some.injEq, Prod.mk.injEq] at h
          obtain ⟨rfl, rfl⟩ := h
          refine ⟨_, rfl, (List.getElem?_eq_some_iff.1 hl).1, fun T2 H2 hag hbb => ?_⟩
          have e1 : ev T2 a = .ptr b o' := by rw [← hag.ev a (by rw [hop]; simp [Op.operands])]; exact ha
          have e2 : ev T2 x = ev T x := (hag.ev x (by rw [hop]; simp [Op.operands])).symm
          refine ⟨by simp only [hop, footOf, e1], ?_⟩
          unfold aexecD aexec
          simp only [hop, isMem, cond_true, amem, e1, e2, h2, h3, hbb, hl, hb]
      · rename_i k g bt hl
        split at h
        · rename_i y
          cases hb : (Nat.beq n' 1 && Nat.ble (o' + 1) k) with
          | false => rw [hb] at h; cases h
          | true =>
            rw [hb] at h
            simp only [cond_true, Option.some.injEq, Prod.mk.injEq] at h
            obtain ⟨rfl, rfl⟩ := h
            refine ⟨_, rfl, (List.getElem?_eq_some_iff.1 hl).1, fun T2 H2 hag hbb => ?_⟩
            have e1 : ev T2 a = .ptr b o' := by rw [← hag.ev a (by rw [hop]; simp [Op.operands])]; exact ha
            have e2 : ev T2 x = ev T x := (hag.ev x (by rw [hop]; simp [Op.operands])).symm
            refine ⟨by simp only [hop, footOf, e1], ?_⟩
            unfold aexecD aexec
            simp only [hop, isMem, cond_true, amem, e1, e2, h2, h3, hbb, hl, hb]
        · cases h
      · cases h
    · cases h
  · unfold aexecD aexec at h
    simp only [hop, isMem, cond_true, amem] at h
    split at h
    · rename_i z hz
      split at h
      · rename_i l hl
        simp only [Option.some.injEq, Prod.mk.injEq] at h
        obtain ⟨rfl, rfl⟩ := h
        refine ⟨rfl, _, rfl, fun T2 H2 hag hlen => ⟨by simp only [hop, footOf, hlen], ?_⟩⟩
        unfold aexecD aexec
        simp only [hop, isMem, cond_true, amem, hz, hl, hlen]
      · cases h
    · cases h
  · unfold aexecD aexec at h
    simp only [hop, isMem, cond_true] at h
    cases r with
    | some _ => simp only [amem] at h; cases h
    | none =>
      simp only [amem] at h
      split at h
      · rename_i two el hm
        simp only [Option.some.injEq, Prod.mk.injEq] at h
        obtain ⟨rfl, rfl⟩ := h
        refine ⟨rfl, _, rfl, fun T2 H2 hag hlen => ⟨by simp only [hop, footOf, hlen], ?_⟩⟩
        unfold aexecD aexec
        simp only [hop, isMem, cond_true, amem, hm, hlen]
      · cases h
  · unfold aexecD aexec at h
    simp only [hop, isMem, cond_true, amem] at h
    split at h
    · rename_i l hl
      simp only [Option.some.injEq, Prod.mk.injEq] at h
      obtain ⟨rfl, rfl⟩ := h
      refine ⟨rfl, _, rfl, fun T2 H2 hag hlen => ⟨by simp only [hop, footOf, hlen], ?_⟩⟩
      have e2 : ev T2 x = ev T x := (hag.ev x (by rw [hop]; simp [Op.operands])).symm
      unfold aexecD aexec
      simp only [hop, isMem, cond_true, amem, e2, hl, hlen]
    · cases h
  · have key : ∀ (op : Op), (op = .mapUpdate t x k y ∨ op = .insert t x k y) → ∀ (e : Operand → AV) (H : List AB), amem P e H op (fun v H => some (v, H)) = (mapPutA P H t (e x) (e k) (e y)).map fun H => (AV.any, H) := by
      rintro op (rfl | rfl) e H <;> simp only [amem] <;> split <;> rename_i hq <;> rw [hq] <;> rfl
    have hx : ∀ (T2 : Tab) (H2 : List AB), aexecD P env o T2 H2 = (mapPutA P H2 t (ev T2 x) (ev T2 k) (ev T2 y)).map fun H => (AV.any, H) := by
      intro T2 H2
      rw [← key o.op hop (ev T2) H2]
      unfold aexecD aexec
      rcases hop with hop | hop <;> simp only [hop, isMem, cond_true]
    have hft : ∀ (T2 : Tab) (H2 : List AB), ev T2 x = .map b → keyA two (ev T2 k) = some k' → footOf P env T2 H2 o.op = some (.put b k') := by
      intro T2 H2 h1 h2
      rcases hop with hop | hop <;> simp only [hop, footOf, hm, h1, h2]
    have hmx : x ∈ o.op.operands ∧ k ∈ o.op.operands ∧ y ∈ o.op.operands := by
      rcases hop with hop | hop <;> rw [hop] <;> simp [Op.operands]
    rw [hx, ha] at h
    unfold mapPutA at h
    simp only at h
    cases hp : mapPutAt P H[b]? t (ev T k) (ev T y) with
    | none => rw [hp] at h; simp at h
    | some B =>
      rw [hp] at h
      simp only [Option.map_some, Option.some.injEq, Prod.mk.injEq] at h
      obtain ⟨rfl, rfl⟩ := h
      unfold mapPutAt at hp
      rw [hm] at hp
      split at hp
      · rename_i two2 el2 two' es e1 e2
        cases e1
        rw [hka] at hp
        simp only at hp
        cases htw : (two == two') with
        | false => rw [htw] at hp; cases hp
        | true =>
          rw [htw] at hp
          have htw' : two = two' := by simpa using htw
          subst htw'
          cases hp
          refine ⟨two, es, ev T y, e2, rfl, fun T2 H2 es2 hag hb2 => ?_⟩
          have x2 : ev T2 x = .map b := by rw [← hag.ev x hmx.1]; exact ha
          have k2 : ev T2 k = ev T k := (hag.ev k hmx.2.1).symm
          have y2 : ev T2 y = ev T y := (hag.ev y hmx.2.2).symm
          refine ⟨hft T2 H2 x2 (by rw [k2]; exact hka), ?_⟩
          rw [hx, x2, k2, y2]
          unfold mapPutA
          simp only
          rw [hb2]
          unfold mapPutAt
          rw [hm]
          simp only [hka, htw, cond_true, Option.map_some]
      · cases hp
  · unfold aexecD aexec at h
    simp only [hop] at h
    rcases hc with ⟨b, hb, hne, rfl⟩ | ⟨g, hg, hg'⟩ | ⟨fo, fid, cap, T', F, a, b, x, j, t, hfo, hfn, hF, hargs, hj, rfl⟩
    rotate_left
    rotate_left
    · simp only [hfo, hfn, hargs] at h
      have hmem : fo ∈ o.op.operands := by
        rw [hop]; simp only [Op.operands, Call.operands, hfo]; exact Array.mem_append.2 (.inl (by simp))
      unfold dcD at h
      rw [hF] at h
      simp only at h
      split at h
      · rename_i v' H'' hv
        cases h
        have hv0 := hv
        simp only [cloSpec, hj] at hv
        split at hv
        · rename_i y t' hy
          cases hb : (Nat.beq t' T' && AV.noPtrL [a, b]) with
          | false => rw [hb] at hv; cases hv
          | true =>
            rw [hb] at hv
            simp only [cond_true] at hv
            split at hv
            · rename_i gg hgg
              cases hv
              refine ⟨_, rfl, (List.getElem?_eq_some_iff.1 hj).1, (List.getElem?_eq_some_iff.1 hy).1, fun T2 H2 hag hr hbb => ?_⟩
              have e1 : ev T2 fo = .fn fid cap := by rw [← hag.ev fo hmem]; exact hfn
              have e2 : c.args.toList.map (ev T2) ++ cap = [a, b, .ptr x 0] := by rw [← map_agree hop hag]; exact hargs
              have hj2 : H2[x]? = some (.cells [.ptr j 0] t) := by rw [hr]; exact hj
              have hy2 : H2[j]? = some (.cells [.bool y] t') := by rw [hbb]; exact hy
              constructor
              · rw [hop]
                cases fo with
                | func q =>
                  have e3 : q = fid := by simp only [ev] at hfn; cases hfn; rfl
                  subst e3
                  rw [hop] at hf0
                  simp only [footOf, hfo, hF] at hf0
                  cases hf0
                | tmp i => simp only [footOf, hfo, e1, hF, e2, hj2]
                | const v => simp only [footOf, hfo, e1, hF, e2, hj2]
                | global g => simp only [footOf, hfo, e1, hF, e2, hj2]
              · unfold aexecD aexec
                simp only [hop, hfo, e1, e2]
                unfold dcD
                rw [hF]
                simp only [cloSpec, hj2, hy2, hb, cond_true, hgg]
            · cases hv
        · cases hv
      · cases h
    · simp only [hb] at h
      rw [abuiltin_nat] at h
      obtain ⟨v', h1, h2⟩ := Option.bind_eq_some_iff.1 h
      cases h2
      refine ⟨rfl, fun T2 H2 hag => ⟨?_, ?_⟩⟩
      · rw [hop]
        simp only [footOf, hb]
      · unfold aexecD aexec
        simp only [hop, hb]
        rw [← map_agree hop hag, abuiltin_nat, h1]; rfl
    · simp only [hg, ev, List.append_nil] at h
      have foot2 : ∀ T2 H2, Agree ops o T T2 → (∀ F, envGet env g ≠ some (.mk F)) → footOf P env T2 H2 o.op = some f := fun T2 H2 hag hne => by
        rw [hop] at hf ⊢
        simp only [footOf, hg] at hf ⊢
        rw [← map_agree hop hag]
        generalize envGet env g = s at hf hne ⊢
        match s, hne, hf with
        | none, _, hf => exact hf
        | some (.pure ..), _, hf => exact hf
        | some (.eff ..), _, hf => exact hf
        | some (.ext ..), _, hf => exact hf
        | some (.calc _), _, hf => exact hf
        | some (.flow ..), _, hf => exact hf
        | some (.clo ..), _, hf => exact hf
        | some (.see _), _, hf => exact hf
        | some (.mk F), hne, _ => exact absurd rfl (hne F)
        | some .text, _, hf => exact hf
      have ex2 : ∀ T2 H2, Agree ops o T T2 → aexecD P env o T2 H2 = dcD env g (c.args.toList.map (ev T)) H2 fun v H => some (v, H) := fun T2 H2 hag => by
        unfold aexecD aexec
        simp only [hop, hg, ev, List.append_nil]
        rw [← map_agree hop hag]
      rcases hg' with ⟨hg', rfl⟩ | ⟨T', F, j, o', l, hF, hl, rfl⟩ | ⟨F, j, o', l, hF, hl, rfl⟩ | ⟨F, hF, rfl⟩
      rotate_left
      rotate_left
      · unfold dcD at h
        rw [hF] at h
        simp only at h
        split at h
        · rename_i v' H'' hv
          cases h
          rw [hl] at hv
          have hv2 := hv
          unfold seeSpec at hv2
          simp only at hv2
          split at hv2
          · split at hv2
            · rename_i v2 B hB
              cases hb : v2.noPtr with
              | false => rw [hb] at hv2; cases hv2
              | true =>
                rw [hb] at hv2
                cases hv2
                refine ⟨⟨B, rfl⟩, fun T2 hag => ⟨foot2 T2 H hag (fun F e => by rw [hF] at e; cases e), (ex2 T2 H hag).trans ?_⟩⟩
                unfold dcD
                rw [hF]
                simp only [hl, hv]
            · cases hv2
          · cases hv2
        · cases h
      · unfold dcD at h
        rw [hF] at h
        simp only at h
        split at h
        · rename_i v' H'' hv
          cases h
          have hv2 := hv
          unfold mkSpec at hv2
          split at hv2
          · rename_i g2 hg2
            cases hv2
            refine ⟨rfl, _, rfl, fun T2 H2 hag hlen => ⟨?_, (ex2 T2 H2 hag).trans ?_⟩⟩
            · rw [hop]; simp only [footOf, hg, hF, hlen]
            · unfold dcD
              rw [hF]
              simp only [mkSpec, hg2, hlen]
          · cases hv2
        · cases h
      · have key : H' = H ∧ ∀ H2, dcD env g (c.args.toList.map (ev T)) H2 (fun v H => some (v, H)) = some (v, H2) := by
          rcases hg' with ⟨C, F, hF⟩ | ⟨C, F, hF⟩ | ⟨F, hF⟩
          · unfold dcD at h ⊢
            rw [hF] at h ⊢
            simp only at h ⊢
            cases hC : C (c.args.toList.map (ev T)) with
            | false => rw [hC] at h; cases h
            | true =>
              rw [hC] at h
              simp only [cond_true] at h ⊢
              split at h
              · rename_i v' hv
                cases hb : v'.noPtr with
                | false => rw [hb] at h; cases h
                | true => rw [hb] at h; cases h; exact ⟨rfl, fun H2 => by simp only [hv, hb, cond_true]⟩
              · cases h
          · unfold dcD at h ⊢
            rw [hF] at h ⊢
            simp only at h ⊢
            cases hC : C (c.args.toList.map (ev T)) with
            | false => rw [hC] at h; cases h
            | true =>
              rw [hC] at h
              simp only [cond_true] at h ⊢
              split at h
              · rename_i v' hv; cases h; exact ⟨rfl, fun H2 => by simp only [hv]⟩
              · cases h
          · unfold dcD at h ⊢
            rw [hF] at h ⊢
            simp only at h ⊢
            split at h
            · rename_i v' hv
              cases hb : v'.noPtr with
              | false => rw [hb] at h; cases h
              | true => rw [hb] at h; cases h; exact ⟨rfl, fun H2 => by simp only [hv, hb, cond_true]⟩
            · cases h
        exact ⟨key.1, fun T2 H2 hag => ⟨foot2 T2 H2 hag (fun F e => by rcases hg' with ⟨C, F, hF⟩ | ⟨C, F, hF⟩ | ⟨F, hF⟩ <;> rw [hF] at e <;> cases e), (ex2 T2 H2 hag).trans (key.2 H2)⟩⟩
      · unfold dcD at h
        rw [hF] at h
        simp only at h
        split at h
        · rename_i v' H'' hv
          cases h
          rw [hl] at hv
          unfold flowSpec at hv
          split at hv
          · rename_i j' rest heq
            cases heq
            split at hv
            · rename_i b t hj
              cases hb : (Nat.beq t T' && AV.noPtrL l) with
              | false => rw [hb] at hv; cases hv
              | true =>
                rw [hb] at hv
                simp only [cond_true] at hv
                split at hv
                · rename_i gg hgg
                  cases hv
                  refine ⟨_, rfl, (List.getElem?_eq_some_iff.1 hj).1, fun T2 H2 hag hbb => ⟨foot2 T2 H2 hag (fun F e => by rw [hF] at e; cases e), (ex2 T2 H2 hag).trans ?_⟩⟩
                  unfold dcD
                  rw [hF]
                  simp only [hl, flowSpec, hbb, hj, hb, cond_true, hgg]
                · cases hv
            · cases hv
          · cases hv
        · cases h

end
end Go.Proofs.YtdojnnlhaiennaaGreat.Ae

/- Regions that draw their order, second part: one step, two steps that change places, and all orders. Conditions: the contracts that are looked up hold. -/
namespace Go.Proofs.YtdojnnlhaiennaaGreat.Ae
open Go

section
variable {P : Program} {env : Env} {ops : Array Oper} {n : Nat}

/-- Is the operation wanted, by what is known? -/
def wantedA (ops : Array Oper) (o : Oper) (T : Tab) : Option Bool :=
  match o.guard with
  | none => some true
  | some (j, want) =>
    match (ops[j]?).bind (·.dst) with
    | none => none
    | some d =>
      match get T d with
      | .bool x => some (x == want)
      | _ => none

theorem wantedA_agree {o : Oper} {T T2 : Tab} (h : Agree ops o T T2) : wantedA ops o T = wantedA ops o T2 := by
  unfold wantedA
  split
  · rfl
  · rename_i j want hg
    split
    · rfl
    · rename_i d hd
      have : get T d = get T2 d := h d (by
        unfold Oper.looksAt
        refine List.mem_append_right _ ?_
        simp only [hg, hd, Option.toList_some, List.mem_singleton])
      rw [this]

/-- What an operation, or what takes its place where it isn't wanted, comes to. -/
def LS (P : Program) (env : Env) (ops : Array Oper) (o : Oper) (T : Tab) (H : List AB) (v : AV) (H' : List AB) (f : Foot) : Prop :=
  (wantedA ops o T = some true ∧ footOf P env T H o.op = some f ∧ aexecD P env o T H = some (v, H')) ∨ (wantedA ops o T = some false ∧ f = .none ∧ v = .any ∧ H' = H)

/-- .. at a place like it. -/
def LocS (P : Program) (env : Env) (ops : Array Oper) (o : Oper) (T : Tab) (H : List AB) (v : AV) (H' : List AB) : Foot → Prop
  | .all => ∀ T2, Agree ops o T T2 → LS P env ops o T2 H v H' .all
  | .none => H' = H ∧ ∀ T2 H2, Agree ops o T T2 → LS P env ops o T2 H2 v H2 .none
  | .rd b => H' = H ∧ ∀ T2 H2, Agree ops o T T2 → H2[b]? = H[b]? → LS P env ops o T2 H2 v H2 (.rd b)
  | .wt b => ∃ B, H' = H.set b B ∧ b < H.length ∧ ∀ T2 H2, Agree ops o T T2 → H2[b]? = H[b]? → LS P env ops o T2 H2 v (H2.set b B) (.wt b)
  | .al k => k = H.length ∧ ∃ B, H' = H ++ [B] ∧ ∀ T2 H2, Agree ops o T T2 → H2.length = H.length → LS P env ops o T2 H2 v (H2 ++ [B]) (.al k)
  | .rw r b => ∃ B, H' = H.set b B ∧ r < H.length ∧ b < H.length ∧ ∀ T2 H2, Agree ops o T T2 → H2[r]? = H[r]? → H2[b]? = H[b]? → LS P env ops o T2 H2 v (H2.set b B) (.rw r b)
  | .put b k => ∃ two es u, H[b]? = some (.map two es) ∧ H' = H.set b (.map two (putS k u es)) ∧ ∀ T2 H2 es2, Agree ops o T T2 → H2[b]? = some (.map two es2) → LS P env ops o T2 H2 v (H2.set b (.map two (putS k u es2))) (.put b k)
  | .see w => (∃ B, H' = H.set w B) ∧ ∀ T2, Agree ops o T T2 → LS P env ops o T2 H v H' (.see w)

theorem LS.loc {o : Oper} {T : Tab} {H : List AB} {f : Foot} {v : AV} {H' : List AB} (h : LS P env ops o T H v H' f) : LocS P env ops o T H v H' f := by
  rcases h with ⟨hw, hf, hx⟩ | ⟨hw, rfl, rfl, rfl⟩
  · have hl := exec_loc (ops := ops) hf hx
    cases f with
    | all => exact fun T2 ha => .inl ⟨by rw [← wantedA_agree ha]; exact hw, hl T2 ha⟩
    | none => exact ⟨hl.1, fun T2 H2 ha => .inl ⟨by rw [← wantedA_agree ha]; exact hw, hl.2 T2 H2 ha⟩⟩
    | rd b => exact ⟨hl.1, fun T2 H2 ha hb => .inl ⟨by rw [← wantedA_agree ha]; exact hw, hl.2 T2 H2 ha hb⟩⟩
    | wt b => obtain ⟨B, e, hlt, hl⟩ := hl; exact ⟨B, e, hlt, fun T2 H2 ha hb => .inl ⟨by rw [← wantedA_agree ha]; exact hw, hl T2 H2 ha hb⟩⟩
    | al k => obtain ⟨e, B, e2, hl⟩ := hl; exact ⟨e, B, e2, fun T2 H2 ha hb => .inl ⟨by rw [← wantedA_agree ha]; exact hw, hl T2 H2 ha hb⟩⟩
    | rw r b => obtain ⟨B, e, hr, hlt, hl⟩ := hl; exact ⟨B, e, hr, hlt, fun T2 H2 ha hr hb => .inl ⟨by rw [← wantedA_agree ha]; exact hw, hl T2 H2 ha hr hb⟩⟩
    | put b k => obtain ⟨two, es, u, e1, e2, hl⟩ := hl; exact ⟨two, es, u, e1, e2, fun T2 H2 es2 ha hb => .inl ⟨by rw [← wantedA_agree ha]; exact hw, hl T2 H2 es2 ha hb⟩⟩
    | see w => obtain ⟨e, hl⟩ := hl; exact ⟨e, fun T2 ha => .inl ⟨by rw [← wantedA_agree ha]; exact hw, hl T2 ha⟩⟩
  · exact ⟨rfl, fun T2 H2 ha => .inr ⟨by rw [← wantedA_agree ha]; exact hw, rfl, rfl, rfl⟩⟩

/-- Two that don't clash change places. -/
theorem LS.comm {oi oj : Oper} {T : Tab} {H H1 H2 : List AB} {vi vj : AV} {fi fj : Foot} {T1 T1' : Tab} (hi : LS P env ops oi T H vi H1 fi) (hj : LS P env ops oj T1 H1 vj H2 fj)
    (a1 : Agree ops oj T1 T) (a2 : Agree ops oi T T1') (hc : fi.clash fj = false) : ∃ H1', LS P env ops oj T H vj H1' fj ∧ LS P env ops oi T1' H1' vi H2 fi := by
  have li := hi.loc
  have lj := hj.loc
  cases fi with
  | all =>
    cases fj with
    | none => obtain ⟨rfl, lj⟩ := lj; exact ⟨_, lj _ _ a1, li _ a2⟩
    | all => simp [Foot.clash] at hc
    | rd c => simp [Foot.clash] at hc
    | wt c => simp [Foot.clash] at hc
    | al c => simp [Foot.clash] at hc
    | rw r c => simp [Foot.clash] at hc
    | put c k => simp [Foot.clash] at hc
    | see c => simp [Foot.clash] at hc
  | none =>
    obtain ⟨rfl, li⟩ := li
    cases fj with
    | all => exact ⟨_, lj _ a1, li _ _ a2⟩
    | none => obtain ⟨rfl, lj⟩ := lj; exact ⟨_, lj _ _ a1, li _ _ a2⟩
    | rd c => obtain ⟨rfl, lj⟩ := lj; exact ⟨_, lj _ _ a1 rfl, li _ _ a2⟩
    | wt c => obtain ⟨B, rfl, hlt, lj⟩ := lj; exact ⟨_, lj _ _ a1 rfl, li _ _ a2⟩
    | al k => obtain ⟨rfl, B, rfl, lj⟩ := lj; exact ⟨_, lj _ _ a1 rfl, li _ _ a2⟩
    | rw r c => obtain ⟨B, rfl, hr, hlt, lj⟩ := lj; exact ⟨_, lj _ _ a1 rfl rfl, li _ _ a2⟩
    | put c k => obtain ⟨two, es, u, e1, rfl, lj⟩ := lj; exact ⟨_, lj _ _ _ a1 e1, li _ _ a2⟩
    | see c => obtain ⟨e, lj⟩ := lj; exact ⟨_, lj _ a1, li _ _ a2⟩
  | rd b =>
    obtain ⟨rfl, li⟩ := li
    cases fj with
    | all => simp [Foot.clash] at hc
    | none => obtain ⟨rfl, lj⟩ := lj; exact ⟨_, lj _ _ a1, li _ _ a2 rfl⟩
    | rd c => obtain ⟨rfl, lj⟩ := lj; exact ⟨_, lj _ _ a1 rfl, li _ _ a2 rfl⟩
    | wt c =>
      obtain ⟨B, rfl, hlt, lj⟩ := lj
      have hne : b ≠ c := fun e => by subst e; simp [Foot.clash] at hc
      exact ⟨_, lj _ _ a1 rfl, li _ _ a2 (List.getElem?_set_ne (Ne.symm hne))⟩
    | al k =>
      obtain ⟨rfl, B, rfl, lj⟩ := lj
      have hne : b ≠ H1.length := fun e => by subst e; simp [Foot.clash] at hc
      refine ⟨_, lj _ _ a1 rfl, li _ _ a2 ?_⟩
      rcases Nat.lt_or_ge b H1.length with h | h
      · rw [List.getElem?_append_left h]
      · rw [List.getElem?_eq_none (by simp; omega), List.getElem?_eq_none h]
    | rw r c =>
      obtain ⟨B, rfl, hr, hlt, lj⟩ := lj
      have hne : b ≠ c := fun e => by subst e; simp [Foot.clash] at hc
      exact ⟨_, lj _ _ a1 rfl rfl, li _ _ a2 (List.getElem?_set_ne (Ne.symm hne))⟩
    | put c k =>
      obtain ⟨two, es, u, e1, rfl, lj⟩ := lj
      have hne : b ≠ c := fun e => by subst e; simp [Foot.clash] at hc
      exact ⟨_, lj _ _ _ a1 e1, li _ _ a2 (List.getElem?_set_ne (Ne.symm hne))⟩
    | see c =>
      obtain ⟨⟨B, e⟩, lj⟩ := lj
      have hne : b ≠ c := fun e => by subst e; simp [Foot.clash] at hc
      refine ⟨_, lj _ a1, li _ _ a2 ?_⟩
      rw [e]; exact List.getElem?_set_ne (Ne.symm hne)
  | see b =>
    obtain ⟨⟨B, e⟩, li⟩ := li
    cases fj with
    | none => obtain ⟨rfl, lj⟩ := lj; exact ⟨_, lj _ _ a1, li _ a2⟩
    | rd c =>
      obtain ⟨rfl, lj⟩ := lj
      have hne : b ≠ c := fun e => by subst e; simp [Foot.clash] at hc
      refine ⟨_, lj _ _ a1 ?_, li _ a2⟩
      rw [e]; exact (List.getElem?_set_ne hne).symm
    | _ => simp [Foot.clash] at hc
  | wt b =>
    obtain ⟨B, rfl, hlt, li⟩ := li
    cases fj with
    | all => simp [Foot.clash] at hc
    | none => obtain ⟨rfl, lj⟩ := lj; exact ⟨_, lj _ _ a1, li _ _ a2 rfl⟩
    | rd c =>
      obtain ⟨rfl, lj⟩ := lj
      have hne : b ≠ c := fun e => by subst e; simp [Foot.clash] at hc
      exact ⟨_, lj _ _ a1 (List.getElem?_set_ne hne).symm, li _ _ a2 rfl⟩
    | wt c =>
      obtain ⟨C, rfl, hlt2, lj⟩ := lj
      have hne : b ≠ c := fun e => by subst e; simp [Foot.clash] at hc
      refine ⟨_, lj _ _ a1 (List.getElem?_set_ne hne).symm, ?_⟩
      rw [List.set_comm _ _ hne]
      exact li _ _ a2 (List.getElem?_set_ne (Ne.symm hne))
    | al k =>
      obtain ⟨rfl, C, rfl, lj⟩ := lj
      rw [List.length_set] at lj
      refine ⟨_, by rw [List.length_set]; exact lj _ _ a1 rfl, ?_⟩
      have e : H.set b B ++ [C] = (H ++ [C]).set b B := by rw [List.set_append_left _ _ hlt]
      rw [e]
      exact li _ _ a2 (by rw [List.getElem?_append_left hlt])
    | rw r c =>
      obtain ⟨C, rfl, hr2, hlt2, lj⟩ := lj
      have hne : b ≠ c := fun e => by subst e; simp [Foot.clash] at hc
      have hnr : b ≠ r := fun e => by subst e; simp [Foot.clash] at hc
      refine ⟨_, lj _ _ a1 (List.getElem?_set_ne hnr).symm (List.getElem?_set_ne hne).symm, ?_⟩
      rw [List.set_comm _ _ hne]
      exact li _ _ a2 (List.getElem?_set_ne (Ne.symm hne))
    | put c k =>
      obtain ⟨two, es, u, e1, rfl, lj⟩ := lj
      have hne : b ≠ c := fun e => by subst e; simp [Foot.clash] at hc
      rw [List.getElem?_set_ne hne] at e1
      refine ⟨_, lj _ _ _ a1 e1, ?_⟩
      rw [List.set_comm _ _ hne]
      exact li _ _ a2 (List.getElem?_set_ne (Ne.symm hne))
    | see c => simp [Foot.clash] at hc
  | al k =>
    obtain ⟨rfl, B, rfl, li⟩ := li
    cases fj with
    | all => simp [Foot.clash] at hc
    | none => obtain ⟨rfl, lj⟩ := lj; exact ⟨_, lj _ _ a1, li _ _ a2 rfl⟩
    | rd c =>
      obtain ⟨rfl, lj⟩ := lj
      have hne : H.length ≠ c := fun e => by subst e; simp [Foot.clash] at hc
      refine ⟨_, lj _ _ a1 ?_, li _ _ a2 rfl⟩
      rcases Nat.lt_or_ge c H.length with h | h
      · rw [List.getElem?_append_left h]
      · rw [List.getElem?_eq_none h, List.getElem?_eq_none (by simp; omega)]
    | wt c =>
      obtain ⟨C, rfl, hlt2, lj⟩ := lj
      have hne : H.length ≠ c := fun e => by subst e; simp [Foot.clash] at hc
      have h : c < H.length := by simp at hlt2; omega
      refine ⟨_, lj _ _ a1 (by rw [List.getElem?_append_left h]), ?_⟩
      rw [List.set_append_left _ _ h]
      exact li _ _ a2 (by simp)
    | al k => simp [Foot.clash] at hc
    | rw r c =>
      obtain ⟨C, rfl, hr2, hlt2, lj⟩ := lj
      have hne : H.length ≠ c := fun e => by subst e; simp [Foot.clash] at hc
      have hnr : H.length ≠ r := fun e => by subst e; simp [Foot.clash] at hc
      have h : c < H.length := by simp at hlt2; omega
      have h' : r < H.length := by simp at hr2; omega
      refine ⟨_, lj _ _ a1 (by rw [List.getElem?_append_left h']) (by rw [List.getElem?_append_left h]), ?_⟩
      rw [List.set_append_left _ _ h]
      exact li _ _ a2 (by simp)
    | put c k =>
      obtain ⟨two, es, u, e1, rfl, lj⟩ := lj
      have hne : H.length ≠ c := fun e => by subst e; simp [Foot.clash] at hc
      have h : c < H.length := by
        have := (List.getElem?_eq_some_iff.1 e1).1
        simp at this; omega
      rw [List.getElem?_append_left h] at e1
      refine ⟨_, lj _ _ _ a1 e1, ?_⟩
      rw [List.set_append_left _ _ h]
      exact li _ _ a2 (by simp)
    | see c => simp [Foot.clash] at hc
  | put b k =>
    obtain ⟨two, es, u, e0, rfl, li⟩ := li
    have hlt := (List.getElem?_eq_some_iff.1 e0).1
    cases fj with
    | all => simp [Foot.clash] at hc
    | none => obtain ⟨rfl, lj⟩ := lj; exact ⟨_, lj _ _ a1, li _ _ _ a2 e0⟩
    | rd c =>
      obtain ⟨rfl, lj⟩ := lj
      have hne : b ≠ c := fun e => by subst e; simp [Foot.clash] at hc
      exact ⟨_, lj _ _ a1 (List.getElem?_set_ne hne).symm, li _ _ _ a2 e0⟩
    | wt c =>
      obtain ⟨C, rfl, hlt2, lj⟩ := lj
      have hne : b ≠ c := fun e => by subst e; simp [Foot.clash] at hc
      refine ⟨_, lj _ _ a1 (List.getElem?_set_ne hne).symm, ?_⟩
      rw [List.set_comm _ _ hne]
      exact li _ _ _ a2 (by rw [List.getElem?_set_ne (Ne.symm hne)]; exact e0)
    | al c =>
      obtain ⟨rfl, C, rfl, lj⟩ := lj
      rw [List.length_set] at lj
      refine ⟨_, by rw [List.length_set]; exact lj _ _ a1 rfl, ?_⟩
      have e : H.set b (.map two (putS k u es)) ++ [C] = (H ++ [C]).set b (.map two (putS k u es)) := by rw [List.set_append_left _ _ hlt]
      rw [e]
      exact li _ _ _ a2 (by rw [List.getElem?_append_left hlt]; exact e0)
    | rw r c =>
      obtain ⟨C, rfl, hr2, hlt2, lj⟩ := lj
      have hne : b ≠ c := fun e => by subst e; simp [Foot.clash] at hc
      have hnr : b ≠ r := fun e => by subst e; simp [Foot.clash] at hc
      refine ⟨_, lj _ _ a1 (List.getElem?_set_ne hnr).symm (List.getElem?_set_ne hne).symm, ?_⟩
      rw [List.set_comm _ _ hne]
      exact li _ _ _ a2 (by rw [List.getElem?_set_ne (Ne.symm hne)]; exact e0)
    | put c k' =>
      obtain ⟨two', es', u', e1, rfl, lj⟩ := lj
      by_cases hbc : b = c
      · subst hbc
        rw [List.getElem?_set_self hlt] at e1
        cases e1
        have hk : k ≠ k' := fun e => by
          subst e
          have : keqB k k = true := keq_iff.2 rfl
          simp [Foot.clash, this] at hc
        refine ⟨_, lj _ _ _ a1 e0, ?_⟩
        have := li _ (H.set b (.map two (putS k' u' es))) (putS k' u' es) a2 (by rw [List.getElem?_set_self hlt])
        rw [List.set_set, putS_comm hk] at this
        rw [List.set_set]
        exact this
      · rw [List.getElem?_set_ne hbc] at e1
        refine ⟨_, lj _ _ _ a1 e1, ?_⟩
        rw [List.set_comm _ _ hbc]
        exact li _ _ _ a2 (by rw [List.getElem?_set_ne (Ne.symm hbc)]; exact e0)
    | see c => simp [Foot.clash] at hc
  | rw r b =>
    obtain ⟨B, rfl, hr, hlt, li⟩ := li
    cases fj with
    | all => simp [Foot.clash] at hc
    | none => obtain ⟨rfl, lj⟩ := lj; exact ⟨_, lj _ _ a1, li _ _ a2 rfl rfl⟩
    | rd c =>
      obtain ⟨rfl, lj⟩ := lj
      have hne : b ≠ c := fun e => by subst e; simp [Foot.clash] at hc
      exact ⟨_, lj _ _ a1 (List.getElem?_set_ne hne).symm, li _ _ a2 rfl rfl⟩
    | wt c =>
      obtain ⟨C, rfl, hlt2, lj⟩ := lj
      have hne : b ≠ c := fun e => by subst e; simp [Foot.clash] at hc
      have hnr : r ≠ c := fun e => by subst e; simp [Foot.clash] at hc
      refine ⟨_, lj _ _ a1 (List.getElem?_set_ne hne).symm, ?_⟩
      rw [List.set_comm _ _ hne]
      exact li _ _ a2 (List.getElem?_set_ne (Ne.symm hnr)) (List.getElem?_set_ne (Ne.symm hne))
    | al k =>
      obtain ⟨rfl, C, rfl, lj⟩ := lj
      rw [List.length_set] at lj
      refine ⟨_, by rw [List.length_set]; exact lj _ _ a1 rfl, ?_⟩
      have e : H.set b B ++ [C] = (H ++ [C]).set b B := by rw [List.set_append_left _ _ hlt]
      rw [e]
      exact li _ _ a2 (by rw [List.getElem?_append_left hr]) (by rw [List.getElem?_append_left hlt])
    | rw r' c =>
      obtain ⟨C, rfl, hr2, hlt2, lj⟩ := lj
      have hne : b ≠ c := fun e => by subst e; simp [Foot.clash] at hc
      have hnr : r ≠ c := fun e => by subst e; simp [Foot.clash] at hc
      have hnr' : b ≠ r' := fun e => by subst e; simp [Foot.clash] at hc
      refine ⟨_, lj _ _ a1 (List.getElem?_set_ne hnr').symm (List.getElem?_set_ne hne).symm, ?_⟩
      rw [List.set_comm _ _ hne]
      exact li _ _ a2 (List.getElem?_set_ne (Ne.symm hnr)) (List.getElem?_set_ne (Ne.symm hne))
    | put c k =>
      obtain ⟨two, es, u, e1, rfl, lj⟩ := lj
      have hne : b ≠ c := fun e => by subst e; simp [Foot.clash] at hc
      have hnr : r ≠ c := fun e => by subst e; simp [Foot.clash] at hc
      rw [List.getElem?_set_ne hne] at e1
      refine ⟨_, lj _ _ _ a1 e1, ?_⟩
      rw [List.set_comm _ _ hne]
      exact li _ _ a2 (List.getElem?_set_ne (Ne.symm hnr)) (List.getElem?_set_ne (Ne.symm hne))
    | see c => simp [Foot.clash] at hc

/-! ### Steps -/
def StepA (P : Program) (env : Env) (ops : Array Oper) (n : Nat) (F : Foots) (i : Nat) (T : Tab) (H : List AB) (T' : Tab) (H' : List AB) : Prop :=
  ∃ o f v, ops[i]? = some o ∧ F[i]? = some f ∧ (∀ d, o.dst = some d → d < n) ∧ LS P env ops o T H v H' f ∧ Teq T' (putT o.dst v T)

theorem StepA.comm {F : Foots} {i j : Nat} {oi oj : Oper} {fi fj : Foot} (hi : ops[i]? = some oi) (hj : ops[j]? = some oj) (gi : F[i]? = some fi) (gj : F[j]? = some fj)
    (hap : oi.apart ops oj = true) (hc : fi.clash fj = false) {T T1 T2 : Tab} {H H1 H2 : List AB} (si : StepA P env ops n F i T H T1 H1) (sj : StepA P env ops n F j T1 H1 T2 H2) :
    ∃ T1' H1', StepA P env ops n F j T H T1' H1' ∧ StepA P env ops n F i T1' H1' T2 H2 := by
  obtain ⟨o, f, vi, e1, e2, di, li, ti⟩ := si
  rw [hi] at e1; rw [gi] at e2; cases e1; cases e2
  obtain ⟨o, f, vj, e1, e2, dj, lj, tj⟩ := sj
  rw [hj] at e1; rw [gj] at e2; cases e1; cases e2
  obtain ⟨p1, p2, p3⟩ := Oper.apart_spec hap
  have a1 : Agree ops oj T1 T := fun t ht => by
    rw [ti t, get_putT, if_neg (fun e => p1 t e ht)]
  have a2 : Agree ops oi T (putT oj.dst vj T) := fun t ht => by
    rw [get_putT, if_neg (fun e => p3 t e ht)]
  obtain ⟨H1', l1, l2⟩ := li.comm lj a1 a2 hc
  refine ⟨putT oj.dst vj T, H1', ⟨oj, fj, vj, hj, gj, dj, l1, Teq.refl _⟩, ⟨oi, fi, vi, hi, gi, di, l2, fun t => ?_⟩⟩
  rw [tj t, get_putT, ti t, get_putT, get_putT, get_putT]
  by_cases h1 : oj.dst = some t
  · rw [if_pos h1, if_neg (fun e => p2 t e h1), if_pos h1]
  · rw [if_neg h1, if_neg h1]

/-- Every order is well, and ends where it is to end. -/
def AnyA (P : Program) (env : Env) (ops : Array Oper) (n : Nat) (F : Foots) (Fin : Tab → List AB → Prop) : Nat → Array Bool → Tab → List AB → Prop
  | 0, listed, T, H => Region.ready .any ops listed = [] ∧ Fin T H
  | fuel + 1, listed, T, H =>
    (Region.ready .any ops listed = [] → Fin T H) ∧
    ∀ i ∈ Region.ready .any ops listed, ∃ T' H', StepA P env ops n F i T H T' H' ∧ AnyA P env ops n F Fin fuel (listed.setIfInBounds i true) T' H'

theorem getD_both' {listed : Array Bool} {i : Nat} (h : listed.getD i true = false) : listed.getD i false = false := by
  rcases Nat.lt_or_ge i listed.size with h' | h'
  · simp [h'] at h ⊢; exact h
  · simp [Array.getElem?_eq_none h'] at h

theorem closedB_spec {i : Nat} {D : List Bool} : ∀ (l : List Oper) (k : Nat), closedB i D k l = true → ∀ j o, l[j]? = some o → D.getD (k + j) false = true → ∃ e ∈ o.after, Region.binds .any e = true ∧ (e.on = i ∨ D.getD e.on false = true)
  | [], _, _, j, o, ho, _ => by simp at ho
  | o' :: l, k, h, j, o, ho, hd => by
    simp only [closedB, Bool.and_eq_true] at h
    cases j with
    | zero =>
      simp at ho
      subst ho
      simp only [Nat.add_zero] at hd
      have h1 := h.1
      rw [hd] at h1
      simp only [Bool.not_true, Bool.false_or, List.any_eq_true, Bool.and_eq_true, Bool.or_eq_true] at h1
      obtain ⟨e, he, hb, h2⟩ := h1
      exact ⟨e, by simpa using he, hb, h2.imp Nat.eq_of_beq_eq_true id⟩
    | succ j =>
      exact closedB_spec l (k + 1) h.2 j o (by simpa using ho) (by rw [← hd]; congr 1; omega)

theorem anyA_first {F : Foots} {Fin : Tab → List AB → Prop} {i : Nat} {oi : Oper} {fi : Foot} (hi : ops[i]? = some oi) (gi : F[i]? = some fi) (hF : F.length = ops.size) {D : List Bool}
    (hcl : ∀ j o, ops[j]? = some o → D.getD j false = true → ∃ e ∈ o.after, Region.binds .any e = true ∧ (e.on = i ∨ D.getD e.on false = true)) :
    ∀ (fuel : Nat) (listed : Array Bool) (T T1 : Tab) (H H1 : List AB),
      (∀ j oj fj, ops[j]? = some oj → F[j]? = some fj → j ≠ i → listed.getD j true = false → D.getD j false = false → oi.apart ops oj = true ∧ fi.clash fj = false) →
      (∀ j, D.getD j false = true → listed.getD j false = false) →
      i ∈ Region.ready .any ops listed → StepA P env ops n F i T H T1 H1 →
      AnyA P env ops n F Fin fuel (listed.setIfInBounds i true) T1 H1 → AnyA P env ops n F Fin (fuel + 1) listed T H := by
  intro fuel
  induction fuel with
  | zero =>
    intro listed T T1 H H1 _ _ hr hs A
    refine ⟨fun h => (by rw [h] at hr; cases hr), fun j hj => ?_⟩
    by_cases hji : j = i
    · subst hji; exact ⟨T1, H1, hs, A⟩
    · have := ready_mono hj hji
      rw [A.1] at this
      cases this
  | succ fuel ih =>
    intro listed T T1 H H1 hfree hd hr hs A
    refine ⟨fun h => (by rw [h] at hr; cases hr), fun j hj => ?_⟩
    by_cases hji : j = i
    · subst hji; exact ⟨T1, H1, hs, A⟩
    · obtain ⟨T2, H2, sj, A2⟩ := A.2 j (ready_mono hj hji)
      obtain ⟨hjun, oj, hoj, hall⟩ := mem_ready.1 hj
      have hDj : D.getD j false = false := by
        cases hDj : D.getD j false with
        | false => rfl
        | true =>
          obtain ⟨e, he, hb, h1⟩ := hcl j oj hoj hDj
          have h2 := hall e he hb
          rcases h1 with h1 | h1
          · rw [h1, getD_both' (mem_ready.1 hr).1] at h2; cases h2
          · rw [hd _ h1] at h2; cases h2
      have hjlt : j < F.length := by rw [hF]; exact (Array.getElem?_eq_some_iff.1 hoj).1
      obtain ⟨hap, hc⟩ := hfree j oj _ hoj (List.getElem?_eq_getElem hjlt) hji hjun hDj
      obtain ⟨T1', H1', s1, s2⟩ := StepA.comm hi hoj gi (List.getElem?_eq_getElem hjlt) hap hc hs sj
      refine ⟨T1', H1', s1, ih (listed.setIfInBounds j true) T1' T2 H1' H2 ?_ ?_ (ready_mono hr (Ne.symm hji)) s2 ?_⟩
      · intro k ok fk hk gk hki hun hDk
        refine hfree k ok fk hk gk hki ?_ hDk
        by_cases hjk : j = k
        · subst hjk; exact hjun
        · rw [getD_set_ne true hjk] at hun; exact hun
      · intro k hk
        have hjk : j ≠ k := fun e => by subst e; rw [hDj] at hk; cases hk
        rw [getD_set_ne false hjk]; exact hd k hk
      · rw [Array.setIfInBounds_comm _ _ hji]; exact A2

/-- The text's order. -/
def LexRun (P : Program) (env : Env) (ops : Array Oper) (n : Nat) (F : Foots) (Fin : Tab → List AB → Prop) : List Oper → Nat → Tab → List AB → Prop
  | [], _, T, H => Fin T H
  | _ :: l, k, T, H => ∃ T' H', StepA P env ops n F k T H T' H' ∧ LexRun P env ops n F Fin l (k + 1) T' H'

theorem freeFrom_spec {oi : Oper} {fi : Foot} {D : List Bool} : ∀ (l : List Oper) (F : Foots) (k : Nat), freeFrom ops oi fi D k l F = true → ∀ j oj fj, l[j]? = some oj → F[j]? = some fj → D.getD (k + j) false = false → oi.apart ops oj = true ∧ fi.clash fj = false
  | [], _, _, _, j, oj, _, ho, _, _ => by simp at ho
  | _ :: _, [], _, h, _, _, _, _, _, _ => by simp [freeFrom] at h
  | o :: l, f :: F, k, h, j, oj, fj, ho, hf, hd => by
    simp only [freeFrom, Bool.and_eq_true] at h
    cases j with
    | zero =>
      simp at ho hf
      subst ho; subst hf
      simp only [Nat.add_zero] at hd
      have h1 := h.1
      rw [hd] at h1
      simpa using h1
    | succ j => exact freeFrom_spec l F (k + 1) h.2 j oj fj (by simpa using ho) (by simpa using hf) (by rw [← hd]; congr 1; omega)

theorem take_all {D : List Bool} {k j : Nat} (h : ((D.take (k + 1)).all fun b => !b) = true) (hj : j < k + 1) : D.getD j false = false := by
  rw [List.all_eq_true] at h
  cases hd : D[j]? with
  | none => simp [hd]
  | some b =>
    have hm : b ∈ D.take (k + 1) := List.mem_of_getElem? (i := j) (by rw [List.getElem?_take, if_pos hj]; exact hd)
    have := h b hm
    simp [hd]; simpa using this

theorem anyA_lex {F : Foots} {Fin : Tab → List AB → Prop} (hF : F.length = ops.size) : ∀ (l : List Oper) (k : Nat) (listed : Array Bool) (T : Tab) (H : List AB), (∀ j, l[j]? = ops[k + j]?) →
    lexOk ops l.length k listed = true → orderedB ops k l (F.drop k) = true → (∀ j, k ≤ j → listed.getD j false = false) → (∀ j, j < k → listed.getD j true = true) → LexRun P env ops n F Fin l k T H → AnyA P env ops n F Fin l.length listed T H
  | [], k, listed, T, H, _, hL, _, _, _, hr => ⟨by simpa [lexOk] using hL, hr⟩
  | o :: l, k, listed, T, H, hl, hL, hO, hun, hli, hr => by
    have h0 : ops[k]? = some o := by simpa using (hl 0).symm
    have hkF : k < F.length := by rw [hF]; exact (Array.getElem?_eq_some_iff.1 h0).1
    have hdrop : F.drop k = F[k] :: F.drop (k + 1) := List.drop_eq_getElem_cons hkF
    rw [hdrop] at hO
    simp only [orderedB, Bool.and_eq_true] at hO
    obtain ⟨⟨⟨hDself, hcl⟩, hfree⟩, hO'⟩ := hO
    simp only [List.length_cons, lexOk, Bool.and_eq_true] at hL
    obtain ⟨T', H', hs, hr'⟩ := hr
    have hkr : k ∈ Region.ready .any ops listed := by simpa using hL.1
    have hl' : ∀ j, l[j]? = ops[k + 1 + j]? := fun j => by have := hl (j + 1); simpa [Nat.add_assoc, Nat.add_comm 1 j] using this
    refine anyA_first h0 (List.getElem?_eq_getElem hkF) hF (D := descL k ops.toList []) ?_ l.length listed T T' H H' ?_ ?_ hkr hs ?_
    · intro j oj hj hd
      exact closedB_spec ops.toList 0 hcl j oj (by simpa using hj) (by rw [Nat.zero_add]; exact hd)
    · intro j oj fj hj gj hne hun' hd
      have hjk : k + 1 ≤ j := by
        rcases Nat.lt_or_ge j k with h | h
        · rw [hli j h] at hun'; cases hun'
        · omega
      refine freeFrom_spec l (F.drop (k + 1)) (k + 1) hfree (j - (k + 1)) oj fj ?_ ?_ ?_
      · rw [hl', show k + 1 + (j - (k + 1)) = j by omega]; exact hj
      · rw [List.getElem?_drop, show k + 1 + (j - (k + 1)) = j by omega]; exact gj
      · rw [show k + 1 + (j - (k + 1)) = j by omega]; exact hd
    · intro j hd
      rcases Nat.lt_or_ge j k with h | h
      · exact absurd hd (by rw [take_all hDself (by omega)]; simp)
      · exact hun j h
    · refine anyA_lex hF l (k + 1) _ T' H' hl' hL.2 hO' ?_ ?_ hr'
      · intro j hj
        rw [getD_set_ne false (by omega)]; exact hun j (by omega)
      · intro j hj
        by_cases e : j = k
        · subst e
          have : (listed.setIfInBounds j true).getD j true = true := by
            rcases Nat.lt_or_ge j listed.size with h | h
            · simp [h]
            · simp [Array.getElem?_eq_none h]
          exact this
        · rw [getD_set_ne true (Ne.symm e)]; exact hli j (by omega)
theorem Teq.ev {T T' : Tab} (h : Teq T T') : ev T = ev T' := funext fun x => by
  cases x with
  | tmp t => exact h t
  | _ => rfl
theorem Teq.foot {T T' : Tab} (h : Teq T T') (H : List AB) (op : Op) : footOf P env T H op = footOf P env T' H op := by
  unfold footOf; rw [h.ev]
theorem Teq.exec {T T' : Tab} (h : Teq T T') (o : Oper) (H : List AB) : aexecD P env o T H = aexecD P env o T' H := by
  unfold aexecD aexec; rw [h.ev]
theorem Teq.putT {T T' : Tab} (h : Teq T T') (d : Option Tmp) (v : AV) : Teq (putT d v T) (putT d v T') := fun t => by
  rw [get_putT, get_putT, h t]

theorem aguard_cases {ρ : Type} {o : Oper} {T : Tab} {run skip : Tab → Option ρ} {r : ρ} (h : aguard ops n o T run skip = some r) :
    (∃ T1, Teq T1 T ∧ wantedA ops o T = some true ∧ run T1 = some r) ∨ (∃ T1, Teq T1 T ∧ wantedA ops o T = some false ∧ skip T1 = some r) := by
  unfold aguard at h
  split at h
  · rename_i hg
    exact .inl ⟨T, Teq.refl T, by simp only [wantedA, hg], h⟩
  · rename_i j want hg
    split at h
    · cases h
    · rename_i d hd
      cases hb : Nat.ble (d + 1) n with
      | false => rw [hb] at h; cases h
      | true =>
        rw [hb] at h
        simp only [cond_true] at h
        split at h
        · rename_i x hx
          have hq : ∀ y, y = x → Teq ((d, .bool y) :: T) T := fun y hy t => by
            subst hy
            by_cases e : d = t
            · subst e; rw [hx]; simp [get]
            · exact get_cons_ne e _ _
          have hw : wantedA ops o T = some (x == want) := by simp only [wantedA, hg, hd, hx]
          cases x <;> cases want <;> simp at h <;> first
            | exact .inl ⟨_, hq _ rfl, by rw [hw]; rfl, h⟩
            | exact .inr ⟨_, hq _ rfl, by rw [hw]; rfl, h⟩
        · cases h

theorem aput_cases {ρ : Type} {d : Option Tmp} {v : AV} {T : Tab} {K : Tab → Option ρ} {r : ρ} (h : aput n d v T K = some r) : (∀ e, d = some e → e < n) ∧ K (putT d v T) = some r := by
  cases d with
  | none => exact ⟨fun e he => (by cases he), h⟩
  | some d =>
    simp only [aput] at h
    cases hb : Nat.ble (d + 1) n with
    | false => rw [hb] at h; cases h
    | true => rw [hb] at h; exact ⟨fun e he => (by cases he; exact Nat.le_of_ble_eq_true hb), h⟩

theorem aopsO_lex {ρ : Type} {chk : Foots → Bool} {K : Tab → List AB → Option ρ} {r : ρ} : ∀ (l : List Oper) (k : Nat) (T : Tab) (H : List AB) (Fa : Foots), (∀ j, l[j]? = ops[k + j]?) → k + l.length = ops.size → Fa.length = k →
    aopsO chk P env ops n l T H Fa K = some r → ∃ F : Foots, F.length = ops.size ∧ F.take k = Fa.reverse ∧ (chk F = true ∧ orderedB ops 0 ops.toList F = true) ∧
      LexRun P env ops n F (fun T H => ∃ Tl, Teq T Tl ∧ K Tl H = some r) l k T H
  | [], k, T, H, Fa, _, hk, hFa, h => by
    simp only [aopsO] at h
    cases hb : (chk Fa.reverse && orderedB ops 0 ops.toList Fa.reverse) with
    | false => rw [hb] at h; cases h
    | true =>
      rw [hb] at h
      simp only [Bool.and_eq_true] at hb
      simp only [List.length_nil, Nat.add_zero] at hk
      exact ⟨Fa.reverse, by simp [hFa, hk], by rw [List.take_of_length_le (by simp [hFa])], hb, T, Teq.refl T, h⟩
  | o :: l, k, T, H, Fa, hl, hk, hFa, h => by
    have h0 : ops[k]? = some o := by simpa using (hl 0).symm
    have hl' : ∀ j, l[j]? = ops[k + 1 + j]? := fun j => by have := hl (j + 1); simpa [Nat.add_assoc, Nat.add_comm 1 j] using this
    simp only [List.length_cons] at hk
    have ends : ∀ (F : Foots) (f : Foot), F.length = ops.size → F.take (k + 1) = (f :: Fa).reverse → F[k]? = some f ∧ F.take k = Fa.reverse := fun F f hF ht => by
      rw [List.reverse_cons] at ht
      constructor
      · have : (F.take (k + 1))[k]? = F[k]? := by rw [List.getElem?_take, if_pos (by omega)]
        rw [← this, ht, List.getElem?_append_right (by simp [hFa])]; simp [hFa]
      · have : (F.take (k + 1)).take k = F.take k := by rw [List.take_take]; congr 1; omega
        rw [← this, ht, List.take_append_of_le_length (by simp [hFa]), List.take_of_length_le (by simp [hFa])]
    simp only [aopsO] at h
    rcases aguard_cases h with ⟨T1, ht, hw, h1⟩ | ⟨T1, ht, hw, h1⟩
    · split at h1
      · rename_i f hf
        rw [aexec_nat hf] at h1
        obtain ⟨⟨v, H'⟩, hx, h2⟩ := Option.bind_eq_some_iff.1 h1
        obtain ⟨hd, h3⟩ := aput_cases h2
        obtain ⟨F, e1, e2, e3, e4⟩ := aopsO_lex l (k + 1) _ H' (f :: Fa) hl' (by omega) (by simp [hFa]) h3
        obtain ⟨g1, g2⟩ := ends F f e1 e2
        exact ⟨F, e1, g2, e3, _, H', ⟨o, f, v, h0, g1, hd, .inl ⟨hw, by rw [← ht.foot]; exact hf, by rw [← ht.exec]; exact hx⟩, ht.putT _ _⟩, e4⟩
      · cases h1
    · obtain ⟨hd, h3⟩ := aput_cases h1
      obtain ⟨F, e1, e2, e3, e4⟩ := aopsO_lex l (k + 1) _ H (.none :: Fa) hl' (by omega) (by simp [hFa]) h3
      obtain ⟨g1, g2⟩ := ends F .none e1 e2
      exact ⟨F, e1, g2, e3, _, H, ⟨o, .none, .any, h0, g1, hd, .inr ⟨hw, rfl, rfl, rfl⟩, ht.putT _ _⟩, e4⟩

/-! ### What the orders are in the model -/
theorem dcD_DC (hE : EnvOk P env) {ρ : Type} : DC P (dcD (ρ := ρ) env) := by
  intro fid args H K r h m Args w hA hH
  unfold dcD at h
  split at h
  · rename_i C F hF
    cases hC : C args with
    | false => rw [hC] at h; cases h
    | true =>
    rw [hC] at h
    simp only [cond_true] at h
    split at h
    · rename_i v hv
      cases hb : v.noPtr with
      | false => rw [hb] at h; cases h
      | true =>
        rw [hb] at h
        obtain ⟨h1, h2⟩ := hE fid _ hF
        refine .inr ⟨h1 Args w, (h2 args v hC hv m Args w hA).mono fun e w' ⟨V, e1, e2, e3⟩ => ?_⟩
        exact ⟨v, V, m, H, e1, R_noPtr v hb e2, hH.same e3.blocks, e3.same, h⟩
    · cases h
  · rename_i C F hF
    cases hC : C args with
    | false => rw [hC] at h; cases h
    | true =>
    rw [hC] at h
    simp only [cond_true] at h
    split at h
    · rename_i v hv
      obtain ⟨V, h2, h3⟩ := hE fid _ hF args v hC hv m Args hA
      exact .inl ⟨v, V, h, h2, h3 w⟩
    · cases h
  · rename_i F hF
    split at h
    · rename_i v hv
      cases hb : v.noPtr with
      | false => rw [hb] at h; cases h
      | true =>
        rw [hb] at h
        obtain ⟨h1, h2⟩ := hE fid _ hF
        refine .inr ⟨h1 Args w, (h2 args v rfl hv m Args w hA).mono fun e w' ⟨V, e1, e2, e3⟩ => ?_⟩
        exact ⟨v, V, m, H, e1, R_noPtr v hb e2, hH.same e3.blocks, e3.same, h⟩
    · cases h
  · rename_i T F hF
    split at h
    · rename_i v H' hv
      obtain ⟨h1, h2⟩ := hE fid _ hF
      refine .inr ⟨h1 Args w, (h2 args H v H' rfl hv m Args w hA hH).mono fun e w' ⟨V, m', e1, e2, e3, e4⟩ => ?_⟩
      exact ⟨v, V, m', H', e1, e2, e3, e4, h⟩
    · cases h
  · rename_i T F hF
    split at h
    · rename_i v H' hv
      obtain ⟨h1, h2⟩ := hE fid _ hF
      refine .inr ⟨h1 Args w, (h2 args H v H' rfl hv m Args w hA hH).mono fun e w' ⟨V, m', e1, e2, e3, e4⟩ => ?_⟩
      exact ⟨v, V, m', H', e1, e2, e3, e4, h⟩
    · cases h
  · rename_i F hF
    split at h
    · rename_i v H' hv
      obtain ⟨h1, h2⟩ := hE fid _ hF
      refine .inr ⟨h1 Args w, (h2 args H v H' rfl hv m Args w hA hH).mono fun e w' ⟨V, m', e1, e2, e3, e4⟩ => ?_⟩
      exact ⟨v, V, m', H', e1, e2, e3, e4, h⟩
    · cases h
  · rename_i F hF
    split at h
    · rename_i v H' hv
      obtain ⟨h1, h2⟩ := hE fid _ hF
      refine .inr ⟨h1 Args w, (h2 args H v H' rfl hv m Args w hA hH).mono fun e w' ⟨V, m', e1, e2, e3, e4⟩ => ?_⟩
      exact ⟨v, V, m', H', e1, e2, e3, e4, h⟩
    · cases h
  · cases h

theorem wantedA_ok {m : List Nat} {o : Oper} {T : Tab} {tmps : Array Value} (hT : TR m n T tmps) {b : Bool} (h : wantedA ops o T = some b) : Region.wanted o (yielded ops tmps) = b := by
  unfold wantedA at h
  split at h
  · rename_i hg; cases h; simp [Region.wanted, hg]
  · rename_i j want hg
    split at h
    · cases h
    · rename_i d hd
      split at h
      · rename_i x hx
        cases h
        have hR := hT.2 d
        rw [hx] at hR
        simp only [R] at hR
        have hg' : tmps[d]? = some (.bool x) := by
          rw [Array.getD_eq_getD_getElem?] at hR
          cases hq : tmps[d]? with
          | none => rw [hq] at hR; simp [undef] at hR
          | some V => rw [hq] at hR; simp at hR; rw [hR]
        have hy : yielded ops tmps j = some x := by
          unfold yielded
          rw [hd]
          show (match tmps[d]? with | some (.bool b) => some b | _ => none) = some x
          rw [hg']
        simp [Region.wanted, hg, hy]
      · cases h

theorem TR.teq {m : List Nat} {T T' : Tab} {tmps : Array Value} (h : TR m n T tmps) (ht : Teq T' T) : TR m n T' tmps := ⟨h.1, fun i => by rw [ht i]; exact h.2 i⟩
theorem TR.putT {m : List Nat} {T : Tab} {a : Act} (h : TR m n T a.tmps) {d : Option Tmp} (hd : ∀ e, d = some e → e < n) {v : AV} {V : Value} (hv : R m v V) : TR m n (putT d v T) (a.put d V).tmps := by
  cases d with
  | none => exact h
  | some d => exact h.put (hd d rfl) hv

theorem anyA_sound (hE : EnvOk P env) {F : Foots} {Fin : Tab → List AB → Prop} {Q : Exit → Act → World → Prop} : ∀ (fuel : Nat) (listed : Array Bool) (T : Tab) (H : List AB) (m : List Nat) (a : Act) (w : World),
    AnyA P env ops n F Fin fuel listed T H → TR m n T a.tmps → HR m H w →
    (∀ T' H' a' m' w', TR m' n T' a'.tmps → HR m' H' w' → Ext m w m' w' → a'.defers = a.defers → Fin T' H' → Q .normal a' w') → wpAny P .any ops Q fuel listed a w
  | 0, _, T, H, m, a, w, h, hT, hH, hQ => ⟨h.1, hQ T H a m w hT hH (Ext.refl m w) rfl h.2⟩
  | fuel + 1, listed, T, H, m, a, w, h, hT, hH, hQ => by
    refine ⟨fun h0 => hQ T H a m w hT hH (Ext.refl m w) rfl (h.1 h0), fun i hi => ?_⟩
    obtain ⟨T', H', ⟨o, f, v, e1, e2, hd, hl, ht⟩, hA⟩ := h.2 i hi
    unfold wpOp
    simp only [e1]
    rcases hl with ⟨hw, hf, hx⟩ | ⟨hw, rfl, rfl, rfl⟩
    · rw [if_pos (wantedA_ok hT hw)]
      refine .inl (aexec_ok (dcD_DC hE) hT hH hx fun v' H'' V m' w' hv hH' hEx hK => ?_)
      cases hK
      have hT1 : TR m' n T a.tmps := by obtain ⟨x, hx, _⟩ := hEx.pre; rw [hx]; exact hT.mono x
      exact anyA_sound hE fuel _ T' H' m' _ w' hA ((hT1.putT hd hv).teq ht) hH' fun T3 H3 a3 m3 w3 q1 q2 q3 q4 q5 => hQ T3 H3 a3 m3 w3 q1 q2 (hEx.trans q3) (q4.trans (put_defers _ _ _)) q5
    · rw [if_neg (by rw [wantedA_ok hT hw]; simp)]
      exact anyA_sound hE fuel _ T' H' m _ w hA ((hT.putT hd (V := undef) (by simp only [R])).teq ht) hH fun T3 H3 a3 m3 w3 q1 q2 q3 q4 q5 => hQ T3 H3 a3 m3 w3 q1 q2 q3 (q4.trans (put_defers _ _ _)) q5

/-- A region that draws its order. -/
theorem aopsO_ok {ρ : Type} (hE : EnvOk P env) {K : Tab → List AB → Option ρ} {r : ρ} {T : Tab} {H : List AB} (hL : lexOk ops ops.size 0 (Array.replicate ops.size false) = true) (h : aopsO (fun _ => true) P env ops n ops.toList T H [] K = some r)
    {m : List Nat} {a : Act} {w : World} {Q : Exit → Act → World → Prop} {id : Nat} (hm : P.follows .mixedOrders = true) (hT : TR m n T a.tmps) (hH : HR m H w)
    (hQ : ∀ T' H' a' m' w', TR m' n T' a'.tmps → HR m' H' w' → Ext m w m' w' → a'.defers = a.defers → K T' H' = some r → Q .normal a' w') : (Code.region id ops true).wp P Q a w := by
  obtain ⟨F, e1, _, ⟨_, e3⟩, e4⟩ := aopsO_lex ops.toList 0 T H [] (by simp) (by simp) rfl h
  have hA := anyA_lex (P := P) (env := env) (n := n) e1 ops.toList 0 (Array.replicate ops.size false) T H (by simp) (by simpa using hL) (by simpa using e3)
    (fun j _ => by rcases Nat.lt_or_ge j ops.size with h | h <;> simp [h]) (fun j hj => by omega) e4
  have hw : HR m H { w with drawn := w.drawn + 1 } := hH.drewN 1
  have hx : Ext m w m { w with drawn := w.drawn + 1 } := ⟨⟨[], by simp⟩, rfl, rfl, rfl, Nat.le_refl _, fun _ _ _ => rfl⟩
  refine wp_region_any hm ?_
  have := anyA_sound (Q := Q) hE ops.toList.length (Array.replicate ops.size false) T H m a { w with drawn := w.drawn + 1 } hA hT hw fun T' H' a' m' w' q1 q2 q3 q4 ⟨Tl, t1, t2⟩ =>
    hQ Tl H' a' m' w' (q1.teq fun i => (t1 i).symm) q2 (hx.trans q3) q4 t2
  simpa using this
end
end Go.Proofs.YtdojnnlhaiennaaGreat.Ae
