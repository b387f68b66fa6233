/- What the interpreter finds of a call is what the model's call comes to; contracts of functions over one flow, and of functions without memory. Conditions: the contracts that are looked up hold. -/
import Derived.Test.YtlkclpkpggapbaaAeV
namespace Go.Proofs.Ytlkclpkpggapbaa.Ae
open Go

section
variable {ρ : Type}

theorem acode_both {P : Program} {env : Env} (hE : EnvOk P env) (fuel : Nat) : (∀ (n : Nat) (c : Code) (T : List (Nat × AV)) (H : List AB) (K : Ex → List (Nat × AV) → List AB → Option ρ) (r : ρ), acode P env fuel n c T H K = some r →
    ∀ (m : List Nat) (a : Act) (w : World) (Q : Exit → Act → World → Prop), TR m n T a.tmps → HR m H w → a.defers = [] →
    (∀ e T' H' a' m' w', TR m' n T' a'.tmps → HR m' H' w' → Ext m w m' w' → a'.defers = [] → K e T' H' = some r → Q (exOf e) a' w') → c.wp P Q a w) ∧
    (∀ (n : Nat) (c : Code) (T : List (Nat × AV)) (H : List AB) (K : Ex → List (Nat × AV) → List AB → Option ρ) (r : ρ), acode P env fuel n (.loop c) T H K = some r →
    ∀ (m : List Nat) (a : Act) (w : World) (Q : Exit → Act → World → Prop), TR m n T a.tmps → HR m H w → a.defers = [] →
    (∀ e T' H' a' m' w', TR m' n T' a'.tmps → HR m' H' w' → Ext m w m' w' → a'.defers = [] → K e T' H' = some r → Q (exOf e) a' w') → Code.rounds P c Q fuel a w) := by
  induction fuel with
  | zero => exact ⟨fun _ _ _ _ _ _ h => by simp [acode] at h, fun _ _ _ _ _ _ h => by simp [acode] at h⟩
  | succ fuel IH =>
    obtain ⟨ih, ihl⟩ := IH
    have B : ∀ (n : Nat) (c : Code) (T : List (Nat × AV)) (H : List AB) (K : Ex → List (Nat × AV) → List AB → Option ρ) (r : ρ), acode P env (fuel + 1) n (.loop c) T H K = some r →
        ∀ (m : List Nat) (a : Act) (w : World) (Q : Exit → Act → World → Prop), TR m n T a.tmps → HR m H w → a.defers = [] →
        (∀ e T' H' a' m' w', TR m' n T' a'.tmps → HR m' H' w' → Ext m w m' w' → a'.defers = [] → K e T' H' = some r → Q (exOf e) a' w') → Code.rounds P c Q (fuel + 1) a w := by
      intro n c T H K r h m a w Q hT hH hd hQ
      simp only [acode] at h
      rw [rounds_succ]
      refine ih n c T H _ r h m a w _ hT hH hd fun e T' H' a' m' w' q1 q2 q3 q4 q5 => ?_
      cases e with
      | normal => exact ihl n c T' H' K r q5 m' a' w' Q q1 q2 q4 fun e T'' H'' a'' m'' w'' p1 p2 p3 p4 p5 => hQ e T'' H'' a'' m'' w'' p1 p2 (q3.trans p3) p4 p5
      | exit id => exact hQ (.exit id) T' H' a' m' w' q1 q2 q3 q4 q5
      | ret => exact hQ .ret T' H' a' m' w' q1 q2 q3 q4 q5
    refine ⟨?_, B⟩
    intro n c T H K r h m a w Q hT hH hd hQ
    cases c with
    | skip => exact wp_skip (hQ .normal T H a m w hT hH (Ext.refl m w) hd h)
    | region id ops draw =>
      cases draw with
      | false =>
        simp only [acode] at h
        refine wp_region ?_
        rw [List.range_eq_range']
        have key : ∀ (dc : FuncId → List AV → List AB → (AV → List AB → Option ρ) → Option ρ), DC P dc → (bif specAll ops then fun dc => aopsS P dc ops n ops.toList T [] H (K .normal) else fun dc => aops P dc ops n ops.toList T H (K .normal)) dc = some r → wpOps P ops Q (List.range' 0 ops.size) a w := by
          intro dc hD h
          cases hsp : specAll ops with
          | true =>
            rw [hsp] at h
            have := aopsS_ok (P := P) (Q := Q) (ops := ops) (n := n) hD ops.toList 0 (by simp) m T [] H a w h hT (WR.nil _ _) hH (fun T' H' a' m' w' q1 q2 q3 q4 q5 => hQ .normal T' H' a' m' w' q1 q2 q3 (q4.trans hd) q5)
            simpa using this
          | false =>
            rw [hsp] at h
            have := aops_ok (P := P) (Q := Q) (ops := ops) (n := n) hD ops.toList 0 (by simp) m T H a w h hT hH (fun T' H' a' m' w' q1 q2 q3 q4 q5 => hQ .normal T' H' a' m' w' q1 q2 q3 (q4.trans hd) q5)
            simpa using this
        refine key _ ?_ h
        · intro fid args H K r h m Args w hA hH
          simp only at h
          split at h
          · rename_i C F hF
            cases hC : C args with
            | false => rw [hC] at h; cases h
            | true =>
            rw [hC] at h
            simp only [cond_true] at h
            split at h
            · rename_i v hv
              cases hb : v.noPtr with
              | false => rw [hb] at h; cases h
              | true =>
                rw [hb] at h
                obtain ⟨h1, h2⟩ := hE fid _ hF
                refine .inr ⟨h1 Args w, (h2 args v hC hv m Args w hA).mono fun e w' ⟨V, e1, e2, e3⟩ => ?_⟩
                exact ⟨v, V, m, H, e1, R_noPtr v hb e2, hH.same e3.blocks, e3.same, h⟩
            · cases h
          · rename_i C F hF
            cases hC : C args with
            | false => rw [hC] at h; cases h
            | true =>
            rw [hC] at h
            simp only [cond_true] at h
            split at h
            · rename_i v H' hv
              obtain ⟨h1, h2⟩ := hE fid _ hF
              refine .inr ⟨h1 Args w, (h2 args H v H' hC hv m Args w hA hH).mono fun e w' ⟨V, m', e1, e2, e3, e4⟩ => ?_⟩
              exact ⟨v, V, m', H', e1, e2, e3, e4, h⟩
            · cases h
          · rename_i C F hF
            cases hC : C args with
            | false => rw [hC] at h; cases h
            | true =>
            rw [hC] at h
            simp only [cond_true] at h
            split at h
            · rename_i v hv
              obtain ⟨V, h2, h3⟩ := hE fid _ hF args v hC hv m Args hA
              exact .inl ⟨v, V, h, h2, h3 w⟩
            · cases h
          · rename_i F hF
            split at h
            · rename_i v hv
              cases hb : v.noPtr with
              | false => rw [hb] at h; cases h
              | true =>
                rw [hb] at h
                obtain ⟨h1, h2⟩ := hE fid _ hF
                refine .inr ⟨h1 Args w, (h2 args v rfl hv m Args w hA).mono fun e w' ⟨V, e1, e2, e3⟩ => ?_⟩
                exact ⟨v, V, m, H, e1, R_noPtr v hb e2, hH.same e3.blocks, e3.same, h⟩
            · cases h
          · rename_i T F hF
            split at h
            · rename_i v H' hv
              obtain ⟨h1, h2⟩ := hE fid _ hF
              refine .inr ⟨h1 Args w, (h2 args H v H' rfl hv m Args w hA hH).mono fun e w' ⟨V, m', e1, e2, e3, e4⟩ => ?_⟩
              exact ⟨v, V, m', H', e1, e2, e3, e4, h⟩
            · cases h
          · rename_i T F hF
            split at h
            · rename_i v H' hv
              obtain ⟨h1, h2⟩ := hE fid _ hF
              refine .inr ⟨h1 Args w, (h2 args H v H' rfl hv m Args w hA hH).mono fun e w' ⟨V, m', e1, e2, e3, e4⟩ => ?_⟩
              exact ⟨v, V, m', H', e1, e2, e3, e4, h⟩
            · cases h
          · rename_i hF
            split at h
            · rename_i fn hfn
              split at h
              · rename_i c' hc'
                cases hb : Nat.ble args.length fn.ntmps with
                | false => rw [hb] at h; cases h
                | true =>
                  rw [hb] at h
                  simp only [cond_true] at h
                  exact .inr ⟨hE fid _ hF Args w, acall_of_code ih hfn hc' (Nat.le_of_ble_eq_true hb) h hA hH⟩
              · cases h
            · cases h
          · cases h
      | true =>
        simp only [acode] at h
        cases hm : P.follows .mixedOrders with
        | false => rw [hm] at h; cases h
        | true =>
        rw [hm] at h
        simp only [cond_true] at h
        cases hb : (quietB env ops && Region.lexB .any ops) with
        | true =>
          rw [hb] at h
          simp only [Bool.and_eq_true] at hb
          simp only [cond_true] at h
          refine wp_region_quiet (C := fun w' => Ext [] w [] w') hm hb.2 ⟨⟨[], by simp⟩, rfl, rfl, rfl, Nat.le_refl _, fun _ _ _ => rfl⟩ ?_
          refine aopsQ_ok hE hH _ T a h hT fun T' a' q1 q2 q3 w' hw' => ?_
          exact hQ .normal T' H a' m w' q1 (hH.same hw'.blocks) hw'.same (q2.trans hd) q3
        | false =>
          rw [hb] at h
          simp only [cond_false] at h
          cases hv2 : Nat.ble 2 (vasOf P 0 ops.toList).length with
          | true =>
            rw [hv2] at h
            simp only [cond_true] at h
            exact aopsV_ok hE hv2 h hm hT hH fun T' H' a' m' w' q1 q2 q3 q4 q5 => hQ .normal T' H' a' m' w' q1 q2 q3 (q4.trans hd) q5
          | false =>
          rw [hv2] at h
          simp only [cond_false] at h
          cases hl : (Region.noSelect ops && lexOk ops ops.size 0 (Array.replicate ops.size false)) with
          | false => rw [hl] at h; cases h
          | true =>
            rw [hl] at h
            simp only [Bool.and_eq_true] at hl
            simp only [cond_true] at h
            exact aopsO_ok hE hl.2 h hm hT hH fun T' H' a' m' w' q1 q2 q3 q4 q5 => hQ .normal T' H' a' m' w' q1 q2 q3 (q4.trans hd) q5
    | seq x y =>
      simp only [acode] at h
      refine wp_seq (ih n x T H _ r h m a w _ hT hH hd fun e T' H' a' m' w' q1 q2 q3 q4 q5 => ?_)
      cases e with
      | normal => exact ih n y T' H' K r q5 m' a' w' Q q1 q2 q4 fun e T'' H'' a'' m'' w'' p1 p2 p3 p4 p5 => hQ e T'' H'' a'' m'' w'' p1 p2 (q3.trans p3) p4 p5
      | exit id => exact hQ (.exit id) T' H' a' m' w' q1 q2 q3 q4 q5
      | ret => exact hQ .ret T' H' a' m' w' q1 q2 q3 q4 q5
    | cond c x y =>
      simp only [acode] at h
      have hc := R_ev hT c
      split at h
      · rename_i b hb
        rw [hb] at hc
        simp only [R] at hc
        refine wp_cond (t := b) hc ?_
        split at h
        · rename_i T' H' hcv
          unfold aconv at hcv
          cases hs : (simple env x && simple env y) with
          | false => rw [hs] at hcv; cases hcv
          | true =>
            rw [hs] at hcv
            simp only [Bool.and_eq_true] at hs
            simp only [cond_true] at hcv
            split at hcv
            · rename_i Ta Ha Wa Tb Hb Wb hTa hTb
              split at hcv
              · rename_i H'' hmH
                cases hcv
                cases b with
                | true =>
                  exact asimple_ok hE x hs.1 T Ta H Ha [] Wa a w Q hTa hT hH fun a' w' q1 q2 q3 q4 q5 q6 q7 q8 => hQ .normal _ H' a' m w' (TR_merge (x := true) (fun _ => ⟨q1, q4⟩) (fun e => by cases e)) (HR_merge hmH (fun _ => ⟨q2, q5, q6⟩) (fun e => by cases e)) q3 (q8.trans hd) h
                | false =>
                  exact asimple_ok hE y hs.2 T Tb H Hb [] Wb a w Q hTb hT hH fun a' w' q1 q2 q3 q4 q5 q6 q7 q8 => hQ .normal _ H' a' m w' (TR_merge (x := false) (fun e => by cases e) (fun _ => ⟨q1, q4⟩)) (HR_merge hmH (fun e => by cases e) (fun _ => ⟨q2, q5, q6⟩)) q3 (q8.trans hd) h
              · cases hcv
            · cases hcv
        · split at h
          · rename_i d
            have hT' : TR m n ((d, .bool b) :: T) a.tmps := hT.know (by simp only [R]; exact hc)
            cases b with
            | true => exact ih n x _ H K r h m a w Q hT' hH hd hQ
            | false => exact ih n y _ H K r h m a w Q hT' hH hd hQ
          · cases b with
            | true => exact ih n x _ H K r h m a w Q hT hH hd hQ
            | false => exact ih n y _ H K r h m a w Q hT hH hd hQ
      · cases h
    | block id c =>
      simp only [acode] at h
      refine wp_block (ih n c T H _ r h m a w _ hT hH hd fun e T' H' a' m' w' q1 q2 q3 q4 q5 => ?_)
      cases e with
      | normal => exact hQ .normal T' H' a' m' w' q1 q2 q3 q4 q5
      | exit id' =>
        simp only [exOf, Exit.inBlock]
        simp only at q5
        cases hb : Nat.beq id' id with
        | true => rw [hb] at q5; rw [if_pos (Nat.eq_of_beq_eq_true hb)]; exact hQ .normal T' H' a' m' w' q1 q2 q3 q4 q5
        | false =>
          rw [hb] at q5
          rw [if_neg (fun e => by subst e; simp at hb)]
          exact hQ (.exit id') T' H' a' m' w' q1 q2 q3 q4 q5
      | ret => exact hQ .ret T' H' a' m' w' q1 q2 q3 q4 q5
    | loop c => exact wp_loop_rounds (fuel + 1) (B n c T H K r h m a w Q hT hH hd hQ)
    | exit id => exact wp_exit (hQ (.exit id) T H a m w hT hH (Ext.refl m w) hd h)
    | ret => exact wp_ret (hQ .ret T H a m w hT hH (Ext.refl m w) hd h)
    | _ => simp only [acode] at h; cases h

theorem acall_ok {P : Program} {env : Env} (hE : EnvOk P env) {fuel : Nat} {fid : FuncId} {args : List AV} {H : List AB} {K : AV → List AB → Option ρ} {r : ρ} (h : acall P env fuel fid args H K = some r)
    {m : List Nat} {Args : Array Value} {w : World} (hA : RL m args Args.toList) (hH : HR m H w) :
    Calls P fid Args w fun e w' => ∃ v V m' H', e = .returned V ∧ R m' v V ∧ HR m' H' w' ∧ Ext m w m' w' ∧ K v H' = some r := by
  unfold acall at h
  split at h
  · rename_i fn hfn
    split at h
    · rename_i c' hc'
      cases hb : Nat.ble args.length fn.ntmps with
      | false => rw [hb] at h; cases h
      | true =>
        rw [hb] at h
        simp only [cond_true] at h
        exact acall_of_code (acode_both hE fuel).1 hfn hc' (Nat.le_of_ble_eq_true hb) h hA hH
    · cases h
  · cases h

end

/-! ### Entering -/
theorem enter_of {P : Program} {f : FuncId} {fn : Func} (hf : P.funcs[f]? = some fn) (hn : (fn.name == "runtime.NumGoroutine") = false) (hb : fn.body.isNone = false) : EnterOk P f := fun Args w => by
  simp only [callFunc, Sem.run_bind, run_program, Result.andThen_ok, hf, hn, hb, Bool.false_eq_true, if_false, Sem.run_pure]

/-! ### Contracts of functions without memory -/
theorem pure_of {P : Program} {env : Env} (hE : EnvOk P env) (fuel : Nat) (f : FuncId) (C : List AV → Bool) (F : List AV → Option AV)
    (h : ∀ args v, C args = true → F args = some v → AV.noPtrL args = true ∧ v.noPtr = true ∧ acall P env fuel f args [] (fun v _ => bif v.noPtr then some v else none) = some v) : PureOk P f C F := by
  intro args v hC hv m Args w hA
  obtain ⟨hn, hnv, hc⟩ := h args v hC hv
  have hH : HR [] [] w := ⟨rfl, by simp, fun i B hB _ => by simp at hB⟩
  refine (acall_ok hE hc (m := []) (RL_noPtr args hn hA) hH).mono fun e w' ⟨v', V, m', H', e1, e2, e3, e4, e5⟩ => ?_
  cases hb : v'.noPtr with
  | false => rw [hb] at e5; cases e5
  | true =>
    rw [hb] at e5
    simp only [cond_true, Option.some.injEq] at e5
    subst e5
    exact ⟨V, e1, R_noPtr v' hb e2, ⟨⟨[], by simp⟩, e4.os, e4.tape, e4.output, e4.size, e4.block⟩⟩

/-- .. where more is known of the arguments. -/
theorem pure_of' {P : Program} {env : Env} (hE : EnvOk P env) (fuel : Nat) (f : FuncId) (C : List AV → Bool) (F : List AV → Option AV)
    (h : ∀ args v, C args = true → F args = some v → v.noPtr = true ∧ ∃ args', AV.noPtrL args' = true ∧ (∀ m Vs, RL m args Vs → RL m args' Vs) ∧ acall P env fuel f args' [] (fun v _ => bif v.noPtr then some v else none) = some v) : PureOk P f C F := by
  intro args v hC hv m Args w hA
  obtain ⟨hnv, args', hn, hR, hc⟩ := h args v hC hv
  have hH : HR [] [] w := ⟨rfl, by simp, fun i B hB _ => by simp at hB⟩
  refine (acall_ok hE hc (m := []) (RL_noPtr args' hn (hR m _ hA)) hH).mono fun e w' ⟨v', V, m', H', e1, e2, e3, e4, e5⟩ => ?_
  cases hb : v'.noPtr with
  | false => rw [hb] at e5; cases e5
  | true =>
    rw [hb] at e5
    simp only [cond_true, Option.some.injEq] at e5
    subst e5
    exact ⟨V, e1, R_noPtr v' hb e2, ⟨⟨[], by simp⟩, e4.os, e4.tape, e4.output, e4.size, e4.block⟩⟩

/-! ### Contracts of functions over one flow -/
def flowK (T : TypeId) (v : AV) (H : List AB) : Option (AV × Bool) :=
  match H with
  | .cells [.bool b] t :: _ => bif Nat.beq t T && v.noPtr then some (v, b) else none
  | _ => none

theorem flow_of {P : Program} {env : Env} (hE : EnvOk P env) (fuel : Nat) (f : FuncId) (T : TypeId) (C : List AV → Bool) (F : List AV → Option (Bool → AV × Bool))
    (h : ∀ args g, C args = true → F args = some g → ∀ b, acall P env fuel f (.ptr 0 0 :: args) [.cells [.bool b] T] (flowK T) = some (g b)) : EffOk P f (fun l => C l.tail) (flowSpec T F) := by
  intro args H v H' hC hv m Args w hA hH
  unfold flowSpec at hv
  split at hv
  · rename_i j rest
    split at hv
    · rename_i b t hj
      cases hb : (Nat.beq t T && AV.noPtrL rest) with
      | false => rw [hb] at hv; cases hv
      | true =>
        rw [hb] at hv
        simp only [Bool.and_eq_true] at hb
        obtain ⟨ht, hn⟩ := hb
        obtain rfl := Nat.eq_of_beq_eq_true ht
        simp only [cond_true] at hv
        split at hv
        · rename_i g hg
          simp only [Option.some.injEq, Prod.mk.injEq] at hv
          obtain ⟨rfl, rfl⟩ := hv
          obtain ⟨c, o, hc, hw, hB⟩ := hH.at_ j hj
          have hH1 : HR [c] [.cells [.bool b] t] w := by
            refine ⟨rfl, ?_, fun i B hB' _ => ?_⟩
            · intro i j' b' B C h1 h2 _ _ _ _
              cases i with
              | zero =>
                cases j' with
                | zero => rfl
                | succ j' => simp at h2
              | succ i => simp at h1
            · cases i with
              | zero =>
                simp at hB'
                subst hB'
                obtain ⟨Vs, h1, h2⟩ := hB
                exact ⟨c, o, by simp, hw, ⟨Vs, h1, RL_noPtr _ (by simp [AV.noPtrL, AV.noPtr]) h2⟩, trivial⟩
              | succ i => simp at hB'
          obtain ⟨V0, Vs, e0, hp, hr⟩ := RL_cons.1 hA
          have hA1 : RL [c] (.ptr 0 0 :: rest) Args.toList := by
            rw [e0]
            refine RL.cons ?_ (RL_noPtr rest hn hr)
            simp only [R] at hp ⊢
            obtain ⟨c', hc', e⟩ := hp
            rw [hc] at hc'; cases hc'
            exact ⟨c, by simp, e⟩
          refine (acall_ok hE (h rest g hC hg b) hA1 hH1).mono fun e w' ⟨v', V, m', H', e1, e2, e3, e4, e5⟩ => ?_
          unfold flowK at e5
          split at e5
          · rename_i b' t' Hr
            cases hb' : (Nat.beq t' t && v'.noPtr) with
            | false => rw [hb'] at e5; cases e5
            | true =>
              rw [hb'] at e5
              simp only [Bool.and_eq_true] at hb'
              obtain ⟨ht', hnv⟩ := hb'
              obtain rfl := Nat.eq_of_beq_eq_true ht'
              simp only [cond_true, Option.some.injEq] at e5
              rw [← e5]
              obtain ⟨x, hx, hxs⟩ := e4.pre
              obtain ⟨c2, o2, hc2, hw2, hB2⟩ := e3.at_ 0 (B := .cells [.bool b'] t') rfl
              rw [hx] at hc2
              simp at hc2
              subst hc2
              have live : ∀ {i : Nat} {B : AB}, (H.set j (.cells [.bool b'] t'))[i]? = some B → B.live = true → ∃ B', H[i]? = some B' ∧ B'.live = true := fun {i B} hB' hl => by
                by_cases hij : j = i
                · subst hij; exact ⟨_, hj, rfl⟩
                · rw [List.getElem?_set_ne hij] at hB'; exact ⟨B, hB', hl⟩
              refine ⟨V, m, e1, R_noPtr v' hnv e2, ⟨by simp [hH.len], ?_, ?_⟩, ⟨⟨[], by simp⟩, e4.os, e4.tape, e4.output, e4.size, ?_⟩⟩
              · intro i i' b3 B C h1 h2 h3 h4 h5 h6
                obtain ⟨B', b1, b2⟩ := live h3 h5
                obtain ⟨C', d1, d2⟩ := live h4 h6
                exact hH.nodup i i' b3 B' C' h1 h2 b1 d1 b2 d2
              · intro i B hB' hl
                by_cases hij : j = i
                · subst hij
                  have hlt : j < H.length := (List.getElem?_eq_some_iff.1 hj).1
                  simp [hlt] at hB'
                  subst hB'
                  obtain ⟨Vs', h1, h2⟩ := hB2
                  exact ⟨c, o2, hc, hw2, ⟨Vs', h1, RL_noPtr _ (by simp [AV.noPtrL, AV.noPtr]) h2⟩, trivial⟩
                · rw [List.getElem?_set_ne hij] at hB'
                  obtain ⟨c3, o3, h1, h2, h3, h4⟩ := hH.all i B hB' hl
                  refine ⟨c3, o3, h1, ?_, h3, h4⟩
                  have hlt3 := (Array.getElem?_eq_some_iff.1 h2).1
                  rw [e4.block c3 hlt3 (by simp; intro e; subst e; exact hij (hH.nodup _ _ _ _ _ hc h1 hj hB' rfl hl))]
                  exact h2
              · intro k hk hkm
                exact e4.block k hk (by simp; intro e; subst e; exact hkm (List.mem_of_getElem? hc))
          · cases e5
        · cases hv
    · cases hv
  · cases hv

#print axioms flow_of
#print axioms pure_of
end Go.Proofs.Ytlkclpkpggapbaa.Ae
