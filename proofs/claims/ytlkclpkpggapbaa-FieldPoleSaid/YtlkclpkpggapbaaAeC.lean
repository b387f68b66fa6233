/- Contracts of function values of two arguments that keep where the flow's pointer lies. Conditions: none. -/
import Derived.Test.YtlkclpkpggapbaaAe7
namespace Go.Proofs.Ytlkclpkpggapbaa.Ae
open Go

def cloK (tb T : TypeId) (v : AV) (H : List AB) : Option (AV × Bool) :=
  match H with
  | .cells [.ptr 1 0] t' :: .cells [.bool b] t :: _ => bif Nat.beq t' tb && Nat.beq t T && v.noPtr then some (v, b) else none
  | _ => none
theorem clo_of {P : Program} {env : Env} (hE : EnvOk P env) (fuel : Nat) (f : FuncId) (T : TypeId) (F : List AV → Option (Bool → AV × Bool))
    (h : ∀ a b g, F [a, b] = some g → ∀ tb y, acall P env fuel f [a, b, .ptr 0 0] [.cells [.ptr 1 0] tb, .cells [.bool y] T] (cloK tb T) = some (g y)) : EffOk P f (fun _ => true) (cloSpec T F) := by
  intro args H v H' _ hv m Args w hA hH
  unfold cloSpec at hv
  split at hv
  · rename_i a b x _dbg
    split at hv
    · rename_i j tb hx
      split at hv
      · rename_i y t hj
        cases hb : (Nat.beq t T && AV.noPtrL [a, b]) with
        | false => rw [hb] at hv; cases hv
        | true =>
          rw [hb] at hv
          simp only [Bool.and_eq_true] at hb
          obtain ⟨ht, hn⟩ := hb
          obtain rfl := Nat.eq_of_beq_eq_true ht
          simp only [cond_true] at hv
          split at hv
          · rename_i g hg
            simp only [Option.some.injEq, Prod.mk.injEq] at hv
            obtain ⟨rfl, rfl⟩ := hv
            obtain ⟨cx, ox, hcx, hwx, hBx⟩ := hH.at_ x hx
            obtain ⟨cj, oj, hcj, hwj, hBj⟩ := hH.at_ j hj
            have hne : x ≠ j := fun e => by subst e; rw [hx] at hj; cases hj
            have hcne : cx ≠ cj := fun e => by subst e; exact hne (hH.nodup _ _ _ _ _ hcx hcj hx hj rfl rfl)
            have ptr1 : ∀ {m1 : List Nat} {Vs : List Value}, RL m [.ptr j 0] Vs → m1[1]? = some cj → RL m1 [.ptr 1 0] Vs := fun {m1 Vs} hr h1 => by
              obtain ⟨V, _, rfl, hV, e⟩ := RL_cons.1 hr
              rw [RL_nil.1 e]
              refine RL.cons ?_ (RL_nil.2 rfl)
              simp only [R] at hV ⊢
              obtain ⟨c', hc', e⟩ := hV
              rw [hcj] at hc'; cases hc'
              exact ⟨cj, h1, e⟩
            have hH1 : HR [cx, cj] [.cells [.ptr 1 0] tb, .cells [.bool y] t] w := by
              refine ⟨rfl, ?_, fun i B hB' _ => ?_⟩
              · intro i j' b' B C h1 h2 _ _ _ _
                rcases i with _ | _ | i <;> rcases j' with _ | _ | j' <;> simp at h1 h2 <;> omega
              · rcases i with _ | _ | i
                · simp at hB'
                  subst hB'
                  obtain ⟨Vs, h1, h2⟩ := hBx
                  exact ⟨cx, ox, by simp, hwx, ⟨Vs, h1, ptr1 h2 (by simp)⟩, trivial⟩
                · simp at hB'
                  subst hB'
                  obtain ⟨Vs, h1, h2⟩ := hBj
                  exact ⟨cj, oj, by simp, hwj, ⟨Vs, h1, RL_noPtr _ (by simp [AV.noPtrL, AV.noPtr]) h2⟩, trivial⟩
                · simp at hB'
            have hA1 : RL [cx, cj] [a, b, .ptr 0 0] Args.toList := by
              obtain ⟨V0, V1, e0, h0, h1⟩ := RL_cons.1 hA
              obtain ⟨V2, V3, e2, h2, h3⟩ := RL_cons.1 h1
              obtain ⟨V4, V5, e4, h4, h5⟩ := RL_cons.1 h3
              simp only [AV.noPtrL, Bool.and_eq_true] at hn
              rw [e0, e2, e4, RL_nil.1 h5]
              refine RL.cons (R_noPtr a hn.1 h0) (RL.cons (R_noPtr b hn.2.1 h2) (RL.cons ?_ (RL_nil.2 rfl)))
              simp only [R] at h4 ⊢
              obtain ⟨c', hc', e⟩ := h4
              rw [hcx] at hc'; cases hc'
              exact ⟨cx, by simp, e⟩
            refine (acall_ok hE (h a b g hg tb y) hA1 hH1).mono fun e w' ⟨v', V, m', H', e1, e2, e3, e4, e5⟩ => ?_
            unfold cloK at e5
            split at e5
            · rename_i t2 b' t' Hr
              cases hb' : (Nat.beq t2 tb && Nat.beq t' t && v'.noPtr) with
              | false => rw [hb'] at e5; cases e5
              | true =>
                rw [hb'] at e5
                simp only [Bool.and_eq_true] at hb'
                obtain ⟨⟨ht2, ht'⟩, hnv⟩ := hb'
                obtain rfl := Nat.eq_of_beq_eq_true ht'
                obtain rfl := Nat.eq_of_beq_eq_true ht2
                simp only [cond_true, Option.some.injEq] at e5
                rw [← e5]
                obtain ⟨xs, hxs, hxss⟩ := e4.pre
                obtain ⟨c2, o2, hc2, hw2, hB2⟩ := e3.at_ 1 (B := .cells [.bool b'] t') rfl
                rw [hxs] at hc2
                simp at hc2
                subst hc2
                obtain ⟨c3, o3, hc3, hw3, hB3⟩ := e3.at_ 0 (B := .cells [.ptr 1 0] t2) rfl
                rw [hxs] at hc3
                simp at hc3
                subst hc3
                have live : ∀ {i : Nat} {B : AB}, (H.set j (.cells [.bool b'] t'))[i]? = some B → B.live = true → ∃ B', H[i]? = some B' ∧ B'.live = true := fun {i B} hB' hl => by
                  by_cases hij : j = i
                  · subst hij; exact ⟨_, hj, rfl⟩
                  · rw [List.getElem?_set_ne hij] at hB'; exact ⟨B, hB', hl⟩
                refine ⟨V, m, e1, R_noPtr v' hnv e2, ⟨by simp [hH.len], ?_, ?_⟩, ⟨⟨[], by simp⟩, e4.os, e4.tape, e4.output, e4.size, ?_⟩⟩
                · intro i i' b3 B C h1 h2 h3 h4 h5 h6
                  obtain ⟨B', b1, b2⟩ := live h3 h5
                  obtain ⟨C', d1, d2⟩ := live h4 h6
                  exact hH.nodup i i' b3 B' C' h1 h2 b1 d1 b2 d2
                · intro i B hB' hl
                  by_cases hij : j = i
                  · subst hij
                    have hlt : j < H.length := (List.getElem?_eq_some_iff.1 hj).1
                    simp [hlt] at hB'
                    subst hB'
                    obtain ⟨Vs', h1, h2⟩ := hB2
                    exact ⟨cj, o2, hcj, hw2, ⟨Vs', h1, RL_noPtr _ (by simp [AV.noPtrL, AV.noPtr]) h2⟩, trivial⟩
                  · rw [List.getElem?_set_ne hij] at hB'
                    by_cases hix : x = i
                    · subst hix
                      rw [hx] at hB'
                      cases hB'
                      obtain ⟨Vs', h1, h2⟩ := hB3
                      refine ⟨cx, o3, hcx, hw3, ⟨Vs', h1, ?_⟩, trivial⟩
                      obtain ⟨W, _, rfl, hW, e⟩ := RL_cons.1 h2
                      rw [RL_nil.1 e]
                      refine RL.cons ?_ (RL_nil.2 rfl)
                      simp only [R] at hW ⊢
                      obtain ⟨c', hc', e⟩ := hW
                      rw [hxs] at hc'
                      simp at hc'
                      subst hc'
                      exact ⟨cj, hcj, e⟩
                    · obtain ⟨c4, o4, h1, h2, h3, h4⟩ := hH.all i B hB' hl
                      refine ⟨c4, o4, h1, ?_, h3, h4⟩
                      have hlt3 := (Array.getElem?_eq_some_iff.1 h2).1
                      rw [e4.block c4 hlt3 ?_]
                      · exact h2
                      · simp only [List.mem_cons, List.not_mem_nil, or_false, not_or]
                        exact ⟨fun e => by subst e; exact hix (hH.nodup _ _ _ _ _ hcx h1 hx hB' rfl hl), fun e => by subst e; exact hij (hH.nodup _ _ _ _ _ hcj h1 hj hB' rfl hl)⟩
                · intro k hk hkm
                  refine e4.block k hk ?_
                  simp only [List.mem_cons, List.not_mem_nil, or_false, not_or]
                  exact ⟨fun e => by subst e; exact hkm (List.mem_of_getElem? hcx), fun e => by subst e; exact hkm (List.mem_of_getElem? hcj)⟩
            · cases e5
          · cases hv
      · cases hv
    · cases hv
  · cases hv
theorem EnvOk.clo {P : Program} {env : Env} (t : EnvOk P env) {f : FuncId} (h : EnterOk P f) {T : TypeId} {F : List AV → Option (Bool → AV × Bool)} (k : EffOk P f (fun _ => true) (cloSpec T F)) : EnvOk P ((f, .clo T F) :: env) := EnvOk.cons (s := .clo T F) ⟨h, k⟩ t
#print axioms clo_of
end Go.Proofs.Ytlkclpkpggapbaa.Ae
