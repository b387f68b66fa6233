/- Contracts of calls that look at rows of numbers and write one block, of a known shape. Conditions: the contracts that are looked up hold. -/
import Derived.Test.YtdojnnlhaiennaaGreatKd
import Derived.Test.YtdojnnlhaiennaaGreatKa
import Derived.Test.YtdojnnlhaiennaaGreatProg
namespace Go.Proofs.YtdojnnlhaiennaaGreat.Ae
open Go

/-- What a row of numbers has. -/
def rowB : AB → Option (List AV)
  | .cells l _ => some l
  | .cst l _ => some l
  | _ => none
def rowT : AB → TypeId
  | .cells _ t => t
  | .cst _ t => t
  | _ => 0
theorem rowB_RB {m m' : List Nat} {B : AB} {l : List AV} (h : rowB B = some l) (hn : AV.noPtrL l = true) {o : Obj} (hr : RB m B o) : RB m' (.cst l (rowT B)) o ∧ B.live = true := by
  cases B with
  | cells l' t => cases h; obtain ⟨Vs, e, r⟩ := hr; exact ⟨⟨Vs, e, RL_noPtr _ hn r⟩, rfl⟩
  | cst l' t => cases h; obtain ⟨Vs, e, r⟩ := hr; exact ⟨⟨Vs, e, RL_noPtr _ hn r⟩, rfl⟩
  | _ => cases h
theorem RB_rowB {m m' : List Nat} {B : AB} {l : List AV} (h : rowB B = some l) (hn : AV.noPtrL l = true) {o : Obj} (hr : RB m (.cst l (rowT B)) o) {i b : Nat} : RB m' B o ∧ capAt m' i b o B := by
  cases B with
  | cells l' t => cases h; obtain ⟨Vs, e, r⟩ := hr; exact ⟨⟨Vs, e, RL_noPtr _ hn r⟩, trivial⟩
  | cst l' t => cases h; obtain ⟨Vs, e, r⟩ := hr; exact ⟨⟨Vs, e, RL_noPtr _ hn r⟩, trivial⟩
  | _ => cases h

/-- A run over a few of the blocks: the first one is written, the others are looked at. -/
theorem sub_runG {P : Program} {f : FuncId} {args0 : List AV} {B0 B1 : AB} {L0 : List AB} {v : AV}
    (hrun : ∀ (m0 : List Nat) (w : World) (Args : Array Value), RL m0 args0 Args.toList → HR m0 (B0 :: L0) w → Calls P f Args w fun e w' => ∃ V m' H3, e = .returned V ∧ R m' v V ∧ HR m' H3 w' ∧ Ext m0 w m' w' ∧ H3[0]? = some B1 ∧ Pres (B0 :: L0) H3)
    (hv : v.noPtr = true) (hf0 : B0.isFlat = true) (hf1 : B1.isFlat = true)
    {m : List Nat} {H : List AB} {w : World} (hH : HR m H w) {j : Nat} {ix : List Nat} (hj : H[j]? = some B0) (hnd : (j :: ix).Nodup) (hlen : L0.length = ix.length)
    (hix : ∀ (p k : Nat), ix[p]? = some k → ∃ B l, H[k]? = some B ∧ rowB B = some l ∧ AV.noPtrL l = true ∧ L0[p]? = some (.cst l (rowT B)))
    {Args : Array Value} (hA : RL ((j :: ix).map fun k => m.getD k 0) args0 Args.toList) :
    Calls P f Args w fun e w' => ∃ V, e = .returned V ∧ R m v V ∧ HR m (H.set j B1) w' ∧ Ext m w m w' := by
  have hml := hH.len
  have hjl : j < H.length := (List.getElem?_eq_some_iff.1 hj).1
  have at_ : ∀ (p k : Nat), (j :: ix)[p]? = some k → ((j :: ix).map fun k => m.getD k 0)[p]? = m[k]? ∧ k < H.length := by
    intro p k hp
    have hk : k < H.length := by
      cases p with
      | zero => simp at hp; subst hp; exact hjl
      | succ p => obtain ⟨B, l, h1, _⟩ := hix p k (by simpa using hp); exact (List.getElem?_eq_some_iff.1 h1).1
    refine ⟨?_, hk⟩
    rw [List.getElem?_map, hp]
    simp only [Option.map_some]
    rw [List.getElem?_eq_getElem (by omega)]
    simp [List.getElem?_eq_getElem (show k < m.length by omega)]
  have B0l : B0.live = true := by cases B0 <;> first | rfl | cases hf0
  -- the blocks of the few
  have few : ∀ (p : Nat) (C : AB), (B0 :: L0)[p]? = some C → C.live = true → ∃ k B, (j :: ix)[p]? = some k ∧ H[k]? = some B ∧ B.live = true ∧ ∀ o, RB m B o → ∀ m', RB m' C o := by
    intro p C hC hl
    cases p with
    | zero =>
      simp at hC; subst hC
      exact ⟨j, B0, rfl, hj, B0l, fun o h m' => (AB.flat_back (i := 0) (b := 0) hf0 h).1⟩
    | succ p =>
      have hp : p < ix.length := by rw [← hlen]; exact (List.getElem?_eq_some_iff.1 (by simpa using hC)).1
      obtain ⟨B, l, h1, h2, h3, h4⟩ := hix p ix[p] (List.getElem?_eq_getElem hp)
      have hCe : C = .cst l (rowT B) := by
        have : L0[p]? = some C := by simpa using hC
        rw [h4] at this; cases this; rfl
      have hBl : B.live = true := by cases B <;> first | rfl | cases h2
      exact ⟨ix[p], B, by simp, h1, hBl, fun o h m' => by rw [hCe]; exact (rowB_RB h2 h3 h).1⟩
  have hH0 : HR ((j :: ix).map fun k => m.getD k 0) (B0 :: L0) w := by
    refine ⟨by simp [hlen], ?_, ?_⟩
    · intro p q b C D h1 h2 h3 h4 h5 h6
      obtain ⟨k, B, e1, e2, e3, _⟩ := few p C h3 h5
      obtain ⟨k', B', f1, f2, f3, _⟩ := few q D h4 h6
      rw [(at_ p k e1).1] at h1
      rw [(at_ q k' f1).1] at h2
      have hkk := hH.nodup k k' b B B' h1 h2 e2 f2 e3 f3
      subst hkk
      exact (List.getElem?_inj (List.getElem?_eq_some_iff.1 e1).1 hnd).1 (e1.trans f1.symm)
    · intro p C hC hl
      obtain ⟨k, B, e1, e2, e3, e4⟩ := few p C hC hl
      obtain ⟨b, o, h1, h2, h3, _⟩ := hH.all k B e2 e3
      refine ⟨b, o, by rw [(at_ p k e1).1]; exact h1, h2, e4 o h3 _, ?_⟩
      cases p with
      | zero => simp at hC; subst hC; exact (AB.flat_back (m := m) (m' := (j :: ix).map fun k => m.getD k 0) (i := 0) (b := b) hf0 (e4 o h3 m)).2
      | succ p =>
        obtain ⟨B', l, _, _, _, h4⟩ := hix p k (by simpa using e1)
        have : L0[p]? = some C := by simpa using hC
        rw [h4] at this; cases this; trivial
  refine (hrun _ w Args hA hH0).mono fun e w' ⟨V, m', H', e1, e2, e3, e4, h0, hp⟩ => ?_
  obtain ⟨x, hx, hxs⟩ := e4.pre
  refine ⟨V, e1, R_noPtr v hv e2, ?_, ?_⟩
  · refine ⟨by rw [List.length_set]; exact hH.len, ?_, ?_⟩
    · intro i k b B C h1 h2 h3 h4 h5 h6
      have inv : ∀ (i : Nat) (D : AB), (H.set j B1)[i]? = some D → D.live = true → ∃ E, H[i]? = some E ∧ E.live = true := by
        intro i D hD hl
        by_cases hij : j = i
        · subst hij; exact ⟨B0, hj, B0l⟩
        · rw [List.getElem?_set_ne hij] at hD; exact ⟨D, hD, hl⟩
      obtain ⟨E, f1, f2⟩ := inv i B h3 h5
      obtain ⟨F, g1, g2⟩ := inv k C h4 h6
      exact hH.nodup i k b E F h1 h2 f1 g1 f2 g2
    · intro i D hD hl
      by_cases hij : j = i
      · subst hij
        simp [hjl] at hD
        subst hD
        obtain ⟨b, o, h1, h2, h3, _⟩ := e3.all 0 _ h0 hl
        have : m'[0]? = m[j]? := by
          rw [hx, ← (at_ 0 j rfl).1]
          rw [List.getElem?_append_left (by simp)]
        rw [this] at h1
        obtain ⟨r1, r2⟩ := AB.flat_back (m' := m) (i := j) (b := b) hf1 h3
        exact ⟨b, o, h1, h2, r1, r2⟩
      · rw [List.getElem?_set_ne hij] at hD
        by_cases hin : i ∈ ix
        · obtain ⟨p, hpl, hpe⟩ := List.getElem_of_mem hin
          have hpi : ix[p]? = some i := by rw [List.getElem?_eq_getElem hpl, hpe]
          obtain ⟨B, l, g1, g2, g3, g4⟩ := hix p i hpi
          rw [hD] at g1
          cases g1
          have hst := hp (p + 1) l (rowT D) (by simpa using g4)
          obtain ⟨b, o, h1, h2, h3, _⟩ := e3.all (p + 1) _ hst rfl
          have : m'[p + 1]? = m[i]? := by
            rw [hx, ← (at_ (p + 1) i (by simpa using hpi)).1]
            rw [List.getElem?_append_left (by simp; omega)]
          rw [this] at h1
          obtain ⟨r1, r2⟩ := RB_rowB (m' := m) (i := i) (b := b) g2 g3 h3
          exact ⟨b, o, h1, h2, r1, r2⟩
        · obtain ⟨b, o, h1, h2, h3, h4⟩ := hH.all i D hD hl
          refine ⟨b, o, h1, ?_, h3, h4⟩
          have hlt := (Array.getElem?_eq_some_iff.1 h2).1
          rw [e4.block b hlt ?_]
          · exact h2
          · intro hmem
            obtain ⟨p, hpl, hpe⟩ := List.getElem_of_mem hmem
            have hq : ((j :: ix).map fun k => m.getD k 0)[p]? = some b := by rw [List.getElem?_eq_getElem hpl, hpe]
            have hpl' : p < (j :: ix).length := by simpa using hpl
            have hk := List.getElem?_eq_getElem hpl'
            obtain ⟨q1, q2⟩ := at_ p _ hk
            rw [q1] at hq
            have hcl : ∃ C, (B0 :: L0)[p]? = some C ∧ C.live = true := by
              cases p with
              | zero => exact ⟨B0, rfl, B0l⟩
              | succ p =>
                have hk' : ix[p]? = some ((j :: ix)[p + 1]) := by rw [← hk]; rfl
                obtain ⟨B', l, _, _, _, h4'⟩ := hix p _ hk'
                exact ⟨_, (show L0[p]? = _ from h4'), rfl⟩
            obtain ⟨C, hC, hCl⟩ := hcl
            obtain ⟨k2, B2, f1, f2, f3, _⟩ := few p C hC hCl
            rw [hk] at f1
            cases f1
            have := hH.nodup i _ b D B2 h1 hq hD f2 hl f3
            rw [this] at hin hij
            cases p with
            | zero => exact hij rfl
            | succ p => exact hin (by simp)
  · refine ⟨⟨[], by simp⟩, e4.os, e4.tape, e4.output, e4.size, fun k hk hkm => e4.block k hk ?_⟩
    intro hmem
    obtain ⟨p, hpl, hpe⟩ := List.getElem_of_mem hmem
    have hq : ((j :: ix).map fun k => m.getD k 0)[p]? = some k := by rw [List.getElem?_eq_getElem hpl, hpe]
    have hpl' : p < (j :: ix).length := by simpa using hpl
    have hkk := List.getElem?_eq_getElem hpl'
    rw [(at_ p _ hkk).1] at hq
    exact hkm (List.mem_of_getElem? hq)

theorem sub_run {P : Program} {env : Env} {md : List (Nat × Nat)} (hE : EnvOk P env) {fuel : Nat} {f : FuncId} {args0 : List AV} {B0 B1 : AB} {L0 : List AB} {v : AV} {H' : List AB}
    (hc : acallM P env md fuel f args0 (B0 :: L0) some2 = some (v, H')) (hv : v.noPtr = true) (h0 : H'[0]? = some B1) (hf0 : B0.isFlat = true) (hf1 : B1.isFlat = true)
    {m : List Nat} {H : List AB} {w : World} (hH : HR m H w) {j : Nat} {ix : List Nat} (hj : H[j]? = some B0) (hnd : (j :: ix).Nodup) (hlen : L0.length = ix.length)
    (hix : ∀ (p k : Nat), ix[p]? = some k → ∃ B l, H[k]? = some B ∧ rowB B = some l ∧ AV.noPtrL l = true ∧ L0[p]? = some (.cst l (rowT B)))
    {Args : Array Value} (hA : RL ((j :: ix).map fun k => m.getD k 0) args0 Args.toList) :
    Calls P f Args w fun e w' => ∃ V, e = .returned V ∧ R m v V ∧ HR m (H.set j B1) w' ∧ Ext m w m w' := by
  refine sub_runG (fun m0 w Args hA hH0 => ?_) hv hf0 hf1 hH hj hnd hlen hix hA
  have hp : Pres (B0 :: L0) H' := by
    obtain ⟨v3, H3, h1, p⟩ := acallM_E hc
    cases h1; exact p
  refine (acallM_ok hE hc hA hH0).mono fun e w' ⟨v3, V, m', H3, e1, e2, e3, e4, e5⟩ => ?_
  cases e5
  exact ⟨V, m', _, e1, e2, e3, e4, h0, hp⟩
/-- A function over one block, that it writes. -/
def locK (v : AV) (H : List AB) : Option (AV × AB) :=
  match H with
  | B :: _ => some (v, B)
  | [] => none
theorem loc_of {P : Program} {env : Env} (hE : EnvOk P env) (fuel : Nat) (f : FuncId) (F : List AV → List AB → Option (AV × AB))
    (h : ∀ w o rest H v B1, F (.ptr w o :: rest) H = some (v, B1) → ∃ B0, H[w]? = some B0 ∧ B0.isFlat = true ∧ B1.isFlat = true ∧ v.noPtr = true ∧ AV.noPtrL rest = true ∧ acall P env fuel f (.ptr 0 o :: rest) [B0] locK = some (v, B1)) :
    EffOk P f (fun _ => true) (seeSpec F) := by
  intro args H v H' _ hv m Args w hA hH
  unfold seeSpec at hv
  split at hv
  · rename_i j o rest _dbg
    split at hv
    · split at hv
      · rename_i v' B hF
        replace hv := bif_some hv
        cases hv
        obtain ⟨B0, h1, h2, h3, h4, h5, h6⟩ := h _ _ _ _ _ _ hF
        obtain ⟨V0, Vs1, eA, r0, hA1⟩ := RL_cons.1 hA
        refine (sub_runG (args0 := .ptr 0 o :: rest) (L0 := []) (ix := []) (B1 := B) (fun m0 w Args hA hH0 => ?_) h4 h2 h3 hH h1 (by simp) rfl (fun p k hp => by simp at hp) ?_).mono fun e w' ⟨V, e1, e2, e3, e4⟩ => ⟨V, m, e1, e2, e3, e4⟩
        · refine (acall_ok hE h6 hA hH0).mono fun e w' ⟨v3, V, m', H3, e1, e2, e3, e4, e5⟩ => ?_
          unfold locK at e5
          split at e5
          · cases e5
            refine ⟨V, m', _, e1, e2, e3, e4, rfl, fun p l t hp => ?_⟩
            cases p with
            | zero => simp at hp; subst hp; cases h2
            | succ p => simp at hp
          · cases e5
        · rw [eA]
          refine RL.cons ?_ (RL_noPtr rest h5 hA1)
          simp only [R] at r0 ⊢
          obtain ⟨c, hc, e⟩ := r0
          exact ⟨c, by simp [hc], e⟩
      · cases hv
    · cases hv
  · cases hv

/-! ### A flow, and two rows of numbers -/
abbrev Q2 := List Int → Bool → (Nat → Int) × Bool
abbrev nums (n : Nat) : List Sh := List.replicate n (.num .i64)
def rowAt (tr : TypeId) (H : List AB) (i : Nat) : Option (List AV) :=
  match H[i]? with
  | some B => bif Nat.beq (rowT B) tr then rowB B else none
  | none => none
/-- Of one row, looked at twice (q1), or of two (q2). -/
def rowsF (T tr : TypeId) (n : Nat) (r : Sh) (q1 q2 : Q2) (args : List AV) (H : List AB) : Option (AV × AB) :=
  match args with
  | [.ptr w 0, .ptr i 0, .ptr j 0] =>
    match H[w]? with
    | some (.cells [.bool b] t) =>
      bif Nat.beq t T && !(Nat.beq w i) && !(Nat.beq w j) then
        match rowAt tr H i, rowAt tr H j with
        | some li, some lj =>
          match Sh.takeL (nums n) li, Sh.takeL (nums n) lj with
          | some xs, some ys =>
            bif Nat.beq i j then some (r.of (q1 xs b).1 0, .cells [.bool (q1 xs b).2] T) else some (r.of (q2 (xs ++ ys) b).1 0, .cells [.bool (q2 (xs ++ ys) b).2] T)
          | _, _ => none
        | _, _ => none
      else none
    | _ => none
  | _ => none
def exR (T : TypeId) (r : Sh) (p : AV × List AB) : Option (List Int × Bool) :=
  match p.2 with
  | .cells [.bool b] t :: _ => bif Nat.beq t T then (match r.take p.1 with | some xs => some (xs, b) | none => none) else none
  | _ => none
theorem exR_inv {T : TypeId} {r : Sh} {p : AV × List AB} {xs : List Int} {b : Bool} (h : exR T r p = some (xs, b)) : p.1 = r.of (rowf xs) 0 ∧ p.2[0]? = some (.cells [.bool b] T) := by
  unfold exR at h
  split at h
  · rename_i b2 t L hp
    cases hb : Nat.beq t T with
    | false => rw [hb] at h; cases h
    | true =>
      rw [hb] at h
      simp only [cond_true] at h
      split at h
      · rename_i ys hys
        cases h
        exact ⟨(Sh.take_row hys).symm, by rw [hp, Nat.eq_of_beq_eq_true hb]; rfl⟩
      · cases h
  · cases h
theorem take_size {n : Nat} {l : List AV} {xs : List Int} (h : Sh.takeL (nums n) l = some xs) : xs.length = n := by
  have e : ∀ n : Nat, Sh.sizeL (nums n) = n := by
    intro n
    induction n with
    | zero => rfl
    | succ n ih => show 1 + Sh.sizeL (nums n) = n + 1; rw [ih, Nat.add_comm]
  rw [(Sh.take_ofL _ _ _ h).1, e]
section
variable (P : Program) (env : Env) (md : List (Nat × Nat)) (fuel : Nat) (f : FuncId) (T tr : TypeId) (n : Nat) (r : Sh)
def run1 (x : Nat → Int) (b : Bool) : Option (AV × List AB) := acallM P env md fuel f [.ptr 0 0, .ptr 1 0, .ptr 1 0] [.cells [.bool b] T, .cst (Sh.ofL (nums n) x 0) tr] some2
def run2 (x : Nat → Int) (b : Bool) : Option (AV × List AB) := acallM P env md fuel f [.ptr 0 0, .ptr 1 0, .ptr 2 0] [.cells [.bool b] T, .cst (Sh.ofL (nums n) x 0) tr, .cst (Sh.ofL (nums n) x n) tr] some2
def qr1 : Q2 := fun xs b => match (run1 P env md fuel f T tr n (rowf xs) b).bind (exR T r) with
  | some (ys, b') => (rowf ys, b')
  | none => (fun _ => 0, false)
def qr2 : Q2 := fun xs b => match (run2 P env md fuel f T tr n (rowf xs) b).bind (exR T r) with
  | some (ys, b') => (rowf ys, b')
  | none => (fun _ => 0, false)
end
theorem rows_ex {P : Program} {env : Env} (hE : EnvOk P env) (md : List (Nat × Nat)) (fuel : Nat) (f : FuncId) (T tr : TypeId) (n : Nat) (r : Sh)
    (h1 : ∀ (x : Nat → Int) (b : Bool), ((run1 P env md fuel f T tr n x b).bind (exR T r)).isSome = true)
    (h2 : ∀ (x : Nat → Int) (b : Bool), ((run2 P env md fuel f T tr n x b).bind (exR T r)).isSome = true) :
    ∃ q1 q2 : Q2, EffOk P f (fun _ => true) (seeSpec (rowsF T tr n r q1 q2)) := by
  refine ⟨qr1 P env md fuel f T tr n r, qr2 P env md fuel f T tr n r, ?_⟩
  intro args H v H' _ hv m Args w hA hH
  unfold seeSpec at hv
  split at hv
  · rename_i j o rest _dbg
    split at hv
    · rename_i l0 t0 hj
      split at hv
      · rename_i v' B hF
        cases hnp : v'.noPtr with
        | false => rw [hnp] at hv; cases hv
        | true =>
          rw [hnp] at hv
          cases hv
          unfold rowsF at hF
          split at hF
          · rename_i w0 i k heq
            cases heq
            rw [hj] at hF
            split at hF
            · rename_i b t heq2
              cases heq2
              cases hb : (Nat.beq t0 T && !(Nat.beq j i) && !(Nat.beq j k)) with
              | false => rw [hb] at hF; cases hF
              | true =>
              rw [hb] at hF
              simp only [Bool.and_eq_true, Bool.not_eq_true'] at hb
              simp only [cond_true] at hF
              obtain ⟨⟨ht, hji⟩, hjk⟩ := hb
              obtain rfl := Nat.eq_of_beq_eq_true ht
              have nji : j ≠ i := fun e => by subst e; simp [Nat.beq_refl] at hji
              have njk : j ≠ k := fun e => by subst e; simp [Nat.beq_refl] at hjk
              split at hF
              · rename_i li lj hli hlj
                split at hF
                · rename_i xs ys hxs hys
                  have rowI : ∀ {i : Nat} {l : List AV}, rowAt tr H i = some l → ∃ B, H[i]? = some B ∧ rowT B = tr ∧ rowB B = some l := by
                    intro i l h
                    unfold rowAt at h
                    split at h
                    · rename_i B hB
                      cases hq : Nat.beq (rowT B) tr with
                      | false => rw [hq] at h; cases h
                      | true => rw [hq] at h; exact ⟨B, hB, Nat.eq_of_beq_eq_true hq, h⟩
                    · cases h
                  obtain ⟨Bi, hBi, tBi, rBi⟩ := rowI hli
                  obtain ⟨Bk, hBk, tBk, rBk⟩ := rowI hlj
                  have ei := Sh.take_rowL hxs
                  have nl : ∀ {l : List AV} {xs : List Int}, Sh.takeL (nums n) l = some xs → AV.noPtrL l = true := fun h => by rw [← Sh.take_rowL h]; exact Sh.noPtrL _ _ _
                  obtain ⟨V0, Vs1, eA, r0, hA1⟩ := RL_cons.1 hA
                  obtain ⟨V1, Vs2, eB, r1, hA2⟩ := RL_cons.1 hA1
                  obtain ⟨V2, Vs3, eC, r2, hA3⟩ := RL_cons.1 hA2
                  have pt : ∀ {q p : Nat} {V : Value} {m0 : List Nat}, R m (.ptr q 0) V → m0[p]? = some (m.getD q 0) → R m0 (.ptr p 0) V := by
                    intro q p V m0 h hm
                    simp only [R] at h ⊢
                    obtain ⟨c, hc, e⟩ := h
                    refine ⟨c, ?_, e⟩
                    rw [hm]
                    have hql := (List.getElem?_eq_some_iff.1 hc).1
                    simp [hc]
                  cases hik : Nat.beq i k with
                  | true =>
                    rw [hik] at hF
                    have eik := Nat.eq_of_beq_eq_true hik
                    subst eik
                    cases hF
                    have hs := h1 (rowf xs) b
                    cases hc : run1 P env md fuel f t0 tr n (rowf xs) b with
                    | none => rw [hc] at hs; cases hs
                    | some p =>
                      rw [hc] at hs
                      simp only [Option.bind_some] at hs
                      cases hx : exR t0 r p with
                      | none => rw [hx] at hs; cases hs
                      | some zb =>
                        obtain ⟨zs, b'⟩ := zb
                        obtain ⟨pv, p0⟩ := exR_inv hx
                        have hq : qr1 P env md fuel f t0 tr n r xs b = (rowf zs, b') := by
                          unfold qr1
                          rw [hc]
                          simp only [Option.bind_some, hx]
                        rw [hq]
                        unfold run1 at hc
                        rw [ei] at hc
                        obtain ⟨pv', pH⟩ := p
                        simp only at pv p0
                        refine (sub_run (Args := Args) (ix := [i]) hE hc (by rw [pv]; exact Sh.noPtr _ _ _) p0 rfl rfl hH hj (by simpa using nji) rfl ?_ ?_).mono fun e w' ⟨V, e1, e2, e3, e4⟩ => ⟨V, m, e1, by rw [pv] at e2; exact e2, e3, e4⟩
                        · intro p k hp
                          have : p = 0 := by
                            have := (List.getElem?_eq_some_iff.1 hp).1
                            simp at this; exact this
                          subst this
                          simp at hp
                          subst hp
                          exact ⟨Bi, li, hBi, rBi, nl hxs, by rw [tBi]; rfl⟩
                        · rw [eA, eB, eC, RL_nil.1 hA3]
                          exact RL.cons (pt r0 rfl) (RL.cons (pt r1 rfl) (RL.cons (pt r2 rfl) (RL_nil.2 rfl)))
                  | false =>
                    rw [hik] at hF
                    have nik : i ≠ k := fun e => by subst e; simp [Nat.beq_refl] at hik
                    cases hF
                    have lx := take_size hxs
                    have ly := take_size hys
                    have e1' : Sh.ofL (nums n) (rowf (xs ++ ys)) 0 = li := (Sh.take_ofL _ _ _ hxs).2 _ 0 fun q hq => by rw [Nat.zero_add]; exact getD_app1 hq
                    have e2' : Sh.ofL (nums n) (rowf (xs ++ ys)) n = lj := (Sh.take_ofL _ _ _ hys).2 _ n fun q hq => by
                      unfold rowf
                      rw [getD_app (by omega), lx, Nat.add_sub_cancel_left]
                    have hs := h2 (rowf (xs ++ ys)) b
                    cases hc : run2 P env md fuel f t0 tr n (rowf (xs ++ ys)) b with
                    | none => rw [hc] at hs; cases hs
                    | some p =>
                      rw [hc] at hs
                      simp only [Option.bind_some] at hs
                      cases hx : exR t0 r p with
                      | none => rw [hx] at hs; cases hs
                      | some zb =>
                        obtain ⟨zs, b'⟩ := zb
                        obtain ⟨pv, p0⟩ := exR_inv hx
                        have hq : qr2 P env md fuel f t0 tr n r (xs ++ ys) b = (rowf zs, b') := by
                          unfold qr2
                          rw [hc]
                          simp only [Option.bind_some, hx]
                        rw [hq]
                        unfold run2 at hc
                        rw [e1', e2'] at hc
                        obtain ⟨pv', pH⟩ := p
                        simp only at pv p0
                        refine (sub_run (Args := Args) (ix := [i, k]) hE hc (by rw [pv]; exact Sh.noPtr _ _ _) p0 rfl rfl hH hj (by simp [nji, njk, nik]) rfl ?_ ?_).mono fun e w' ⟨V, e1, e2, e3, e4⟩ => ⟨V, m, e1, by rw [pv] at e2; exact e2, e3, e4⟩
                        · intro p q hp
                          have : p = 0 ∨ p = 1 := by
                            have := (List.getElem?_eq_some_iff.1 hp).1
                            simp at this; omega
                          rcases this with rfl | rfl
                          · simp at hp
                            subst hp
                            exact ⟨Bi, li, hBi, rBi, nl hxs, by rw [tBi]; rfl⟩
                          · simp at hp
                            subst hp
                            exact ⟨Bk, lj, hBk, rBk, nl hys, by rw [tBk]; rfl⟩
                        · rw [eA, eB, eC, RL_nil.1 hA3]
                          exact RL.cons (pt r0 rfl) (RL.cons (pt r1 rfl) (RL.cons (pt r2 rfl) (RL_nil.2 rfl)))
                · cases hF
              · cases hF
            · cases hF
          · cases hF
      · cases hv
    · cases hv
  · cases hv
end Go.Proofs.YtdojnnlhaiennaaGreat.Ae

/- Plain facts on words of 64 bits: products, lengths, quotients, roots. Conditions: the numbers are words. -/
namespace Go.Proofs.YtdojnnlhaiennaaGreat.Fx
open Go Go.Proofs.YtdojnnlhaiennaaGreat.Ae

/-! ### Bits -/
theorem ofInt_toNat {x : Int} (h0 : 0 ≤ x) (h1 : x < 18446744073709551616) : (BitVec.ofInt 64 x).toNat = x.toNat := by
  rw [BitVec.toNat_ofInt]
  have : x % ((2 ^ 64 : Nat) : Int) = x := Int.emod_eq_of_lt h0 (by simpa using h1)
  rw [this]

theorem wr_u64 (n : Int) : wr .u64 n = n % 18446744073709551616 := by simp only [wr]
theorem wr_i64 (n : Int) : wr .i64 n = (n + 9223372036854775808) % 18446744073709551616 - 9223372036854775808 := by simp only [wr, w64]
/-- An integer of its kind stays as it is. -/
theorem w64_in {n : Int} (h0 : -9223372036854775808 ≤ n) (h1 : n < 9223372036854775808) : wr .i64 n = n := by rw [wr_i64]; omega
theorem wu64_in {n : Int} (h0 : 0 ≤ n) (h1 : n < 18446744073709551616) : wr .u64 n = n := by rw [wr_u64]; omega

theorem bor_eq {x y : Int} (hx : 0 ≤ x) (hx1 : x < 18446744073709551616) (hy : 0 ≤ y) (hy1 : y < 18446744073709551616) : bor .u64 x y = ((x.toNat ||| y.toNat : Nat) : Int) := by
  unfold bor
  rw [wr_eq, wr_u64]
  show ((BitVec.ofInt 64 x ||| BitVec.ofInt 64 y).toNat : Int) % _ = _
  rw [BitVec.toNat_or, ofInt_toNat hx hx1, ofInt_toNat hy hy1]
  apply Int.emod_eq_of_lt (Int.natCast_nonneg _)
  have := Nat.or_lt_two_pow (x := x.toNat) (y := y.toNat) (n := 64) (by omega) (by omega)
  omega

theorem band_eq {x y : Int} (hx : 0 ≤ x) (hx1 : x < 18446744073709551616) (hy : 0 ≤ y) (hy1 : y < 18446744073709551616) : band .u64 x y = ((x.toNat &&& y.toNat : Nat) : Int) := by
  unfold band
  rw [wr_eq, wr_u64]
  show ((BitVec.ofInt 64 x &&& BitVec.ofInt 64 y).toNat : Int) % _ = _
  rw [BitVec.toNat_and, ofInt_toNat hx hx1, ofInt_toNat hy hy1]
  apply Int.emod_eq_of_lt (Int.natCast_nonneg _)
  have := Nat.and_lt_two_pow (n := 64) x.toNat (y := y.toNat) (by omega)
  omega

theorem band32 {x : Int} (hx : 0 ≤ x) (hx1 : x < 18446744073709551616) : band .u64 x 4294967295 = x % 4294967296 := by
  rw [band_eq hx hx1 (by omega) (by omega)]
  have : ((4294967295 : Int).toNat) = 2 ^ 32 - 1 := by decide
  rw [this, Nat.and_two_pow_sub_one_eq_mod]
  omega

/-- a multiple of 2^i beside something smaller. -/
theorem or_add {a b i : Nat} (h : b < 2 ^ i) : 2 ^ i * a ||| b = 2 ^ i * a + b := (Nat.two_pow_add_eq_or_of_lt h a).symm

/-! ### Products of 128 bits -/
def mulHi (x y : Int) : Int :=
  let x0 := band .u64 x 4294967295
  let x1 := x / 4294967296
  let y0 := band .u64 y 4294967295
  let y1 := y / 4294967296
  let w0 := wr .u64 (x0 * y0)
  let t := wr .u64 (wr .u64 (x1 * y0) + w0 / 4294967296)
  let w1 := band .u64 t 4294967295
  let w2 := t / 4294967296
  let w1 := wr .u64 (w1 + wr .u64 (x0 * y1))
  wr .u64 (wr .u64 (wr .u64 (x1 * y1) + w2) + w1 / 4294967296)

theorem mul_lt {a b : Int} (ha : 0 ≤ a) (ha1 : a ≤ 4294967295) (hb : 0 ≤ b) (hb1 : b ≤ 4294967295) : 0 ≤ a * b ∧ a * b ≤ 18446744065119617025 := by
  refine ⟨Int.mul_nonneg ha hb, ?_⟩
  have h1 : a * b ≤ 4294967295 * b := Int.mul_le_mul_of_nonneg_right ha1 hb
  omega

theorem mulHi_eq {x y : Int} (hx : 0 ≤ x) (hx1 : x < 18446744073709551616) (hy : 0 ≤ y) (hy1 : y < 18446744073709551616) : mulHi x y = x * y / 18446744073709551616 := by
  unfold mulHi
  rw [band32 hx hx1, band32 hy hy1]
  simp only [wr_u64]
  have ex : x = x / 4294967296 * 4294967296 + x % 4294967296 := by omega
  have ey : y = y / 4294967296 * 4294967296 + y % 4294967296 := by omega
  have a0 : 0 ≤ x % 4294967296 ∧ x % 4294967296 ≤ 4294967295 := by omega
  have a1 : 0 ≤ x / 4294967296 ∧ x / 4294967296 ≤ 4294967295 := by omega
  have b0 : 0 ≤ y % 4294967296 ∧ y % 4294967296 ≤ 4294967295 := by omega
  have b1 : 0 ≤ y / 4294967296 ∧ y / 4294967296 ≤ 4294967295 := by omega
  generalize x % 4294967296 = x0 at *
  generalize x / 4294967296 = x1 at *
  generalize y % 4294967296 = y0 at *
  generalize y / 4294967296 = y1 at *
  have e : x * y = x1 * y1 * 18446744073709551616 + (x1 * y0 + x0 * y1) * 4294967296 + x0 * y0 := by
    rw [ex, ey]
    simp only [Int.add_mul, Int.mul_add]
    have e1 : x1 * 4294967296 * (y1 * 4294967296) = x1 * y1 * 18446744073709551616 := by
      rw [Int.mul_assoc, Int.mul_left_comm 4294967296 y1 4294967296, ← Int.mul_assoc]; rfl
    have e2 : x0 * (y1 * 4294967296) = x0 * y1 * 4294967296 := by rw [Int.mul_assoc]
    have e3 : x1 * 4294967296 * y0 = x1 * y0 * 4294967296 := by rw [Int.mul_right_comm]
    rw [e1, e2, e3]
    omega
  rw [e]
  have p00 := mul_lt a0.1 a0.2 b0.1 b0.2
  have p01 := mul_lt a0.1 a0.2 b1.1 b1.2
  have p10 := mul_lt a1.1 a1.2 b0.1 b0.2
  have p11 := mul_lt a1.1 a1.2 b1.1 b1.2
  generalize x0 * y0 = q00 at *
  generalize x0 * y1 = q01 at *
  generalize x1 * y0 = q10 at *
  generalize x1 * y1 = q11 at *
  have t1 : q00 % 18446744073709551616 = q00 := by omega
  have t2 : q10 % 18446744073709551616 = q10 := by omega
  have t3 : q01 % 18446744073709551616 = q01 := by omega
  have t4 : q11 % 18446744073709551616 = q11 := by omega
  rw [t1, t2, t3, t4]
  have t5 : (q10 + q00 / 4294967296) % 18446744073709551616 = q10 + q00 / 4294967296 := by omega
  rw [t5, band32 (by omega) (by omega)]
  omega

/-! ### Knuth's digit -/
section
variable {ρ : Type}
def kn (yn1 yn0 un : Int) (K : Int → Int → Option ρ) : Nat → Int → Int → Option ρ
  | 0, q, r => bif (bif decide (q ≥ 4294967296) then true else decide (wr .u64 (q * yn0) > wr .u64 (wr .u64 (4294967296 * r) + un))) then (bif decide (wr .u64 (r + yn1) ≥ 4294967296) then none else none) else K q r
  | k + 1, q, r =>
    bif (bif decide (q ≥ 4294967296) then true else decide (wr .u64 (q * yn0) > wr .u64 (wr .u64 (4294967296 * r) + un))) then
      bif decide (wr .u64 (r + yn1) ≥ 4294967296) then K (wr .u64 (q - 1)) (wr .u64 (r + yn1)) else kn yn1 yn0 un K k (wr .u64 (q - 1)) (wr .u64 (r + yn1))
    else K q r

theorem digit {u y yn1 yn0 q r : Int} (hy : y = yn1 * 4294967296 + yn0) (hr : q * yn1 + r = u) :
    q * y = u * 4294967296 - r * 4294967296 + q * yn0 := by
  subst hy; subst hr
  rw [Int.mul_add, Int.add_mul, ← Int.mul_assoc]
  omega

/-- q * yn0 is a word where q is at most 2^32 + 1. -/
theorem qy_bound {q yn0 : Int} (hq0 : 0 ≤ q) (hq : q ≤ 4294967297) (h0 : 0 ≤ yn0) (h1 : yn0 ≤ 4294967295) : 0 ≤ q * yn0 ∧ q * yn0 ≤ 18446744073709551615 := by
  refine ⟨Int.mul_nonneg hq0 h0, ?_⟩
  have h2 : q * yn0 ≤ 4294967297 * yn0 := Int.mul_le_mul_of_nonneg_right hq h0
  omega

def knTest (yn0 un q r : Int) : Bool := bif decide (q ≥ 4294967296) then true else decide (wr .u64 (q * yn0) > wr .u64 (wr .u64 (4294967296 * r) + un))

theorem kn_step {y yn1 yn0 u d Q q r : Int} (hy : y = yn1 * 4294967296 + yn0) (h1 : 2147483648 ≤ yn1) (h0 : 0 ≤ yn0) (h0' : yn0 < 4294967296)
    (hd : 0 ≤ d) (hd' : d < 4294967296) (hQ0 : 0 ≤ Q) (hQ : Q * y ≤ u * 4294967296 + d) (hQ' : u * 4294967296 + d < Q * y + y) (huy : u < y)
    (hq : q * yn1 + r = u) (hqQ : Q ≤ q) (hr : 0 ≤ r) (hr' : r < 4294967296) (hq1 : q ≤ 4294967297) :
    (knTest yn0 d q r = false → q = Q) ∧ (knTest yn0 d q r = true → Q ≤ q - 1) := by
  have hdg := digit (u := u) hy hq
  have hyp : 0 < y := by omega
  have hqb := qy_bound (q := q) (by omega) hq1 h0 (by omega)
  have w1 : wr .u64 (q * yn0) = q * yn0 := by rw [wr_u64]; omega
  have w2 : wr .u64 (4294967296 * r) = 4294967296 * r := by rw [wr_u64]; omega
  have w3 : wr .u64 (4294967296 * r + d) = 4294967296 * r + d := by rw [wr_u64]; omega
  have up : Q + 1 ≤ q → Q * y + y ≤ q * y := fun h => by
    have := Int.mul_le_mul_of_nonneg_right h (Int.le_of_lt hyp)
    rw [Int.add_mul, Int.one_mul] at this; exact this
  have QB : Q < 4294967296 := by
    apply Int.lt_of_not_ge
    intro h
    have := Int.mul_le_mul_of_nonneg_right h (Int.le_of_lt hyp)
    omega
  unfold knTest
  rw [w1, w2, w3]
  constructor
  · intro ht
    by_cases h : q ≥ 4294967296
    · simp [h] at ht
    · rw [decide_eq_false h] at ht
      simp only [cond_false, decide_eq_false_iff_not] at ht
      by_cases hlt : Q + 1 ≤ q
      · have := up hlt; omega
      · omega
  · intro ht
    by_cases e : q = Q
    · exfalso
      subst e
      have h : ¬ q ≥ 4294967296 := by omega
      rw [decide_eq_false h] at ht
      simp only [cond_false, decide_eq_true_eq] at ht
      omega
    · omega

theorem kn_break {y yn1 yn0 u d Q q r : Int} (hy : y = yn1 * 4294967296 + yn0) (h1 : 2147483648 ≤ yn1) (h0 : 0 ≤ yn0) (h0' : yn0 < 4294967296)
    (hd : 0 ≤ d) (hQ' : u * 4294967296 + d < Q * y + y)
    (hq : q * yn1 + r = u) (hqQ : Q ≤ q) (hr : 4294967296 ≤ r) (hq1 : q ≤ 4294967296) : q = Q := by
  have hdg := digit (u := u) hy hq
  have hyp : 0 < y := by omega
  have h2 : q * yn0 ≤ 4294967296 * yn0 := Int.mul_le_mul_of_nonneg_right hq1 h0
  by_cases hlt : Q + 1 ≤ q
  · have := Int.mul_le_mul_of_nonneg_right hlt (Int.le_of_lt hyp)
    rw [Int.add_mul, Int.one_mul] at this
    omega
  · omega

/-- The quotient Q is reached from the guess. -/
theorem kn_eq {y yn1 yn0 u d Q q r : Int} (hy : y = yn1 * 4294967296 + yn0) (h1 : 2147483648 ≤ yn1) (h1' : yn1 < 4294967296) (h0 : 0 ≤ yn0) (h0' : yn0 < 4294967296)
    (hd : 0 ≤ d) (hd' : d < 4294967296) (hQ0 : 0 ≤ Q) (hQ : Q * y ≤ u * 4294967296 + d) (hQ' : u * 4294967296 + d < Q * y + y) (huy : u < y)
    (hq : q * yn1 + r = u) (hqQ : Q ≤ q) (hr : 0 ≤ r) (hr' : r < 4294967296) (hq1 : q ≤ 4294967297) (K : Int → Int → Option ρ) (k : Nat) : ∃ r', kn yn1 yn0 d K (k + 2) q r = K Q r' := by
  have s1 := kn_step hy h1 h0 h0' hd hd' hQ0 hQ hQ' huy hq hqQ hr hr' hq1
  simp only [kn]
  change ∃ r', (bif knTest yn0 d q r then _ else _) = _
  cases ht : knTest yn0 d q r with
  | false => exact ⟨r, by rw [s1.1 ht]; rfl⟩
  | true =>
    have hq2 := s1.2 ht
    have w1 : wr .u64 (q - 1) = q - 1 := by rw [wr_u64]; omega
    have w2 : wr .u64 (r + yn1) = r + yn1 := by rw [wr_u64]; omega
    have e1 : (q - 1) * yn1 + (r + yn1) = u := by rw [Int.sub_mul]; omega
    simp only [cond_true, w1, w2]
    by_cases hb : r + yn1 ≥ 4294967296
    · rw [decide_eq_true hb]
      refine ⟨r + yn1, ?_⟩
      rw [kn_break hy h1 h0 h0' hd hQ' e1 hq2 hb (by omega)]; rfl
    · rw [decide_eq_false hb]
      simp only [cond_false]
      have s2 := kn_step hy h1 h0 h0' hd hd' hQ0 hQ hQ' huy e1 hq2 (by omega) (by omega) (by omega)
      change ∃ r', (bif knTest yn0 d (q - 1) (r + yn1) then _ else _) = _
      cases ht2 : knTest yn0 d (q - 1) (r + yn1) with
      | false => exact ⟨r + yn1, by rw [s2.1 ht2]; rfl⟩
      | true =>
        have hq3 := s2.2 ht2
        have w3 : wr .u64 (q - 1 - 1) = q - 1 - 1 := by rw [wr_u64]; omega
        have w4 : wr .u64 (r + yn1 + yn1) = r + yn1 + yn1 := by rw [wr_u64]; omega
        have e2 : (q - 1 - 1) * yn1 + (r + yn1 + yn1) = u := by rw [Int.sub_mul]; omega
        simp only [cond_true, w3, w4]
        have hb2 : r + yn1 + yn1 ≥ 4294967296 := by omega
        rw [decide_eq_true hb2]
        refine ⟨r + yn1 + yn1, ?_⟩
        rw [kn_break hy h1 h0 h0' hd hQ' e2 hq3 hb2 (by omega)]; rfl

/-- A guess: it is above by so little. -/
theorem guess {y yn1 yn0 u d Q : Int} (hy : y = yn1 * 4294967296 + yn0) (h1 : 2147483648 ≤ yn1) (h0 : 0 ≤ yn0) (h0' : yn0 < 4294967296)
    (hd' : d < 4294967296) (hQ : Q * y ≤ u * 4294967296 + d) (hQ0 : 0 ≤ Q) (hu : 0 ≤ u) (huy : u < y) :
    u / yn1 * yn1 + u % yn1 = u ∧ Q ≤ u / yn1 ∧ 0 ≤ u % yn1 ∧ u % yn1 < yn1 ∧ u / yn1 ≤ 4294967297 := by
  have hp : 0 < yn1 := by omega
  refine ⟨?_, ?_, Int.emod_nonneg _ (by omega), Int.emod_lt_of_pos _ hp, ?_⟩
  · have := Int.emod_add_mul_ediv u yn1; rw [Int.mul_comm] at this; omega
  · rw [Int.le_ediv_iff_mul_le hp]
    have e : Q * y = Q * yn1 * 4294967296 + Q * yn0 := by rw [hy, Int.mul_add, ← Int.mul_assoc]
    have : 0 ≤ Q * yn0 := Int.mul_nonneg hQ0 h0
    omega
  · have : u / yn1 < 4294967298 := by
      rw [Int.ediv_lt_iff_lt_mul hp]
      have : (4294967298 : Int) * yn1 = yn1 * 4294967296 + 2 * yn1 := by omega
      omega
    omega

/-! ### How many bits -/
def lenTab : ByteArray := ⟨(([0, 1, 2, 2, 3, 3, 3, 3, 4, 4, 4, 4, 4, 4, 4, 4] : List UInt8) ++ List.replicate 16 5 ++ List.replicate 32 6 ++ List.replicate 64 7 ++ List.replicate 128 8).toArray⟩
def lenI (x : Int) : Int :=
  let c := decide (x ≥ 4294967296)
  let n := bif c then 32 else 0
  let x := bif c then x / 4294967296 else x
  let c := decide (x ≥ 65536)
  let n := bif c then wr .i64 (n + 16) else n
  let x := bif c then x / 65536 else x
  let c := decide (x ≥ 256)
  let n := bif c then wr .i64 (n + 8) else n
  let x := bif c then x / 256 else x
  let i := wr .u8 x
  wr .i64 (n + wr .i64 ((lenTab.data.getD i.toNat 0).toNat : Int))

theorem tab_ok : ∀ i : Fin 256, i.val ≠ 0 → 2 ^ ((lenTab.data.getD i.val 0).toNat - 1) ≤ i.val ∧ i.val < 2 ^ (lenTab.data.getD i.val 0).toNat ∧ 1 ≤ (lenTab.data.getD i.val 0).toNat ∧ (lenTab.data.getD i.val 0).toNat ≤ 8 := by decide +kernel

/-- The number of bits of x: k and those of what is left of x behind k bits. -/
theorem bits_of {x k t : Nat} (h1 : 2 ^ (t - 1) ≤ x / 2 ^ k) (h2 : x / 2 ^ k < 2 ^ t) (ht : 1 ≤ t) : 2 ^ (k + t - 1) ≤ x ∧ x < 2 ^ (k + t) := by
  have hp : 0 < 2 ^ k := Nat.two_pow_pos k
  constructor
  · have := (Nat.le_div_iff_mul_le hp).1 h1
    rw [← Nat.pow_add] at this
    rw [show k + t - 1 = t - 1 + k by omega]; exact this
  · have := (Nat.div_lt_iff_lt_mul hp).1 h2
    rw [← Nat.pow_add] at this
    rw [show k + t = t + k by omega]; exact this

/-- One halving of what is to be counted. -/
theorem len_step {x n z B : Int} {k b : Nat} (hB : ((2 ^ b : Nat) : Int) = B) (hb : b ≤ 32) (hk : k ≤ 64) (hz : z = x / ((2 ^ k : Nat) : Int)) (hn : n = k) (h1 : 1 ≤ z) (h2 : z < B * B) :
    ∃ k' : Nat, k' ≤ k + b ∧ (bif decide (z ≥ B) then wr .i64 (n + b) else n) = (k' : Int) ∧ (bif decide (z ≥ B) then z / B else z) = x / ((2 ^ k' : Nat) : Int) ∧
      1 ≤ (bif decide (z ≥ B) then z / B else z) ∧ (bif decide (z ≥ B) then z / B else z) < B := by
  have hBp : 0 < B := by rw [← hB]; exact Int.natCast_pos.2 (Nat.two_pow_pos b)
  by_cases c : z ≥ B
  · refine ⟨k + b, Nat.le_refl _, ?_, ?_, ?_, ?_⟩
    · rw [decide_eq_true c, hn, cond_true, w64_in (by omega) (by omega)]; omega
    · rw [decide_eq_true c, hz, ← hB]
      simp only [cond_true]
      rw [Int.ediv_ediv_of_nonneg (Int.natCast_nonneg _), Nat.pow_add, Int.natCast_mul]
    · rw [decide_eq_true c]; simp only [cond_true]
      rw [Int.le_ediv_iff_mul_le hBp]; omega
    · rw [decide_eq_true c]; simp only [cond_true]
      rw [Int.ediv_lt_iff_lt_mul hBp]; exact h2
  · refine ⟨k, by omega, ?_, ?_, ?_, ?_⟩ <;> rw [decide_eq_false c] <;> simp only [cond_false]
    · exact hn
    · exact hz
    · exact h1
    · omega

theorem len_end {x n z : Int} {k : Nat} (hz : z = x / ((2 ^ k : Nat) : Int)) (hn : n = k) (hk : k ≤ 56) (h0 : 1 ≤ z) (h1 : z < 256) (hx : 0 < x) :
    ∃ s : Nat, wr .i64 (n + wr .i64 ((lenTab.data.getD (wr .u8 z).toNat 0).toNat : Int)) = (s : Int) ∧ 1 ≤ s ∧ s ≤ 64 ∧ 2 ^ (s - 1) ≤ x.toNat ∧ x.toNat < 2 ^ s := by
  have hw : wr .u8 z = z := by show z % 256 = z; omega
  rw [hw]
  have hlt : z.toNat < 256 := by omega
  obtain ⟨t1, t2, t3, t4⟩ := tab_ok ⟨z.toNat, hlt⟩ (by simp; omega)
  simp only at t1 t2 t3 t4
  generalize (lenTab.data.getD z.toNat 0).toNat = t at *
  have hzx : z.toNat = x.toNat / 2 ^ k := by
    rw [hz]
    have e : x / ((2 ^ k : Nat) : Int) = ((x.toNat / 2 ^ k : Nat) : Int) := by
      rw [Int.natCast_ediv, Int.toNat_of_nonneg (Int.le_of_lt hx)]
    rw [e]; rfl
  rw [hzx] at t1 t2
  obtain ⟨b1, b2⟩ := bits_of t1 t2 t3
  refine ⟨k + t, ?_, by omega, by omega, b1, b2⟩
  rw [hn, w64_in (n := (t : Int)) (by omega) (by omega), w64_in (by omega) (by omega)]
  omega

theorem lenI_ok {x : Int} (h0 : 0 < x) (h1 : x < 18446744073709551616) : ∃ s : Nat, lenI x = (s : Int) ∧ 1 ≤ s ∧ s ≤ 64 ∧ 2 ^ (s - 1) ≤ x.toNat ∧ x.toNat < 2 ^ s := by
  unfold lenI
  dsimp only
  obtain ⟨k1, a1, a2, a3, a4, a5⟩ := len_step (x := x) (n := 0) (z := x) (B := 4294967296) (k := 0) (b := 32) (by kernel_rfl) (by omega) (by omega) (by simp) rfl (by omega) (by omega)
  have e32 : (bif decide (x ≥ 4294967296) then (32 : Int) else 0) = (bif decide (x ≥ 4294967296) then wr .i64 (0 + ((32 : Nat) : Int)) else 0) := by
    cases decide (x ≥ 4294967296) <;> rfl
  rw [e32, a2]
  generalize (bif decide (x ≥ 4294967296) then x / 4294967296 else x) = z1 at *
  obtain ⟨k2, b1, b2, b3, b4, b5⟩ := len_step (x := x) (n := k1) (z := z1) (B := 65536) (k := k1) (b := 16) (by kernel_rfl) (by omega) (by omega) a3 rfl a4 (by omega)
  rw [show ((16 : Int)) = ((16 : Nat) : Int) from rfl, b2]
  generalize (bif decide (z1 ≥ 65536) then z1 / 65536 else z1) = z2 at *
  obtain ⟨k3, c1, c2, c3, c4, c5⟩ := len_step (x := x) (n := k2) (z := z2) (B := 256) (k := k2) (b := 8) (by kernel_rfl) (by omega) (by omega) b3 rfl b4 (by omega)
  rw [show ((8 : Int)) = ((8 : Nat) : Int) from rfl, c2]
  generalize (bif decide (z2 ≥ 256) then z2 / 256 else z2) = z3 at *
  exact len_end c3 rfl (by omega) c4 c5 h0

/-! ### A quotient of 128 bits by 64 -/
def lzI (x : Int) : Int := wr .i64 (64 - lenI x)
def in64 (x : Int) : Bool := decide (0 ≤ x) && decide (x < 18446744073709551616)
def sft (left : Bool) (x y : Int) (K : Int → Option ρ) : Option ρ :=
  bif decide (y < 0) then none else bif left then K (wr .u64 (x * p2 (min y.toNat 64))) else K (x / p2 (min y.toNat 64))
def qt (x y : Int) (K : Int → Option ρ) : Option ρ := bif y == 0 then none else K (wr .u64 (x.tdiv y))
def divRaw (lz : Int → Int) (k1 k2 : Nat) (hi lo y : Int) (K : Int → Int → Option ρ) : Option ρ :=
  bif y == 0 then none else bif decide (y ≤ hi) then none else
  bif hi == 0 then bif y == 0 then none else bif y == 0 then none else K (wr .u64 (lo.tdiv y)) (lo.tmod y) else
  bif in64 y then
    let s := wr .u64 (lz y)
    sft true y s fun y =>
    let yn1 := y / 4294967296
    let yn0 := band .u64 y 4294967295
    sft true hi s fun a =>
    sft false lo (wr .u64 (64 - s)) fun b =>
    let un32 := bor .u64 a b
    sft true lo s fun un10 =>
    let un1 := un10 / 4294967296
    let un0 := band .u64 un10 4294967295
    qt un32 yn1 fun q1 =>
    kn yn1 yn0 un1 (fun q1 _ =>
      let un21 := wr .u64 (wr .u64 (wr .u64 (un32 * 4294967296) + un1) - wr .u64 (q1 * y))
      qt un21 yn1 fun q0 =>
      kn yn1 yn0 un0 (fun q0 _ => sft false (wr .u64 (wr .u64 (wr .u64 (un21 * 4294967296) + un0) - wr .u64 (q0 * y))) s fun r => K (wr .u64 (wr .u64 (q1 * 4294967296) + q0)) r)
        k2 q0 (wr .u64 (un21 - wr .u64 (q0 * yn1)))) k1 q1 (wr .u64 (un32 - wr .u64 (q1 * yn1)))
  else none

end
end Go.Proofs.YtdojnnlhaiennaaGreat.Fx

/- The library's quotient of 128 bits by 64, as the machine reckons it, is the quotient. Conditions: the quotient is a word. -/
namespace Go.Proofs.YtdojnnlhaiennaaGreat.Fx
open Go Go.Proofs.YtdojnnlhaiennaaGreat.Ae
section
variable {ρ : Type}

theorem p2_pos (n : Nat) : 0 < p2 n := Int.natCast_pos.2 (Nat.two_pow_pos n)
theorem p2_add (a b : Nat) : p2 (a + b) = p2 a * p2 b := by unfold p2; rw [Nat.pow_add, Int.natCast_mul]
theorem p2_64 : p2 64 = 18446744073709551616 := by kernel_rfl
theorem p2_63 : p2 63 = 9223372036854775808 := by kernel_rfl

theorem sft_left {x : Int} {S : Nat} (hS : S ≤ 64) (h0 : 0 ≤ x * p2 S) (h1 : x * p2 S < 18446744073709551616) (K : Int → Option ρ) : sft true x (S : Int) K = K (x * p2 S) := by
  unfold sft
  rw [decide_eq_false (by omega)]
  simp only [cond_false, cond_true]
  rw [show min ((S : Int)).toNat 64 = S by omega, wu64_in h0 h1]
theorem sft_left' {x : Int} {S : Nat} (hS : S ≤ 64) (K : Int → Option ρ) : sft true x (S : Int) K = K (x * p2 S % 18446744073709551616) := by
  unfold sft
  rw [decide_eq_false (by omega)]
  simp only [cond_false, cond_true]
  rw [show min ((S : Int)).toNat 64 = S by omega, wr_u64]
theorem sft_right {x : Int} {S : Nat} (hS : S ≤ 64) (K : Int → Option ρ) : sft false x (S : Int) K = K (x / p2 S) := by
  unfold sft
  rw [decide_eq_false (by omega)]
  simp only [cond_false]
  rw [show min ((S : Int)).toNat 64 = S by omega]
theorem qt_eq {x y : Int} (hx : 0 ≤ x) (hx1 : x < 18446744073709551616) (hy : 0 < y) (K : Int → Option ρ) : qt x y K = K (x / y) := by
  unfold qt
  have : (y == 0) = false := by simp; omega
  rw [this]
  simp only [cond_false]
  rw [Int.tdiv_eq_ediv_of_nonneg hx]
  have h1 : 0 ≤ x / y := Int.ediv_nonneg hx (Int.le_of_lt hy)
  have h2 : x / y ≤ x := Int.ediv_le_self y hx
  rw [wu64_in h1 (by omega)]

/-- One digit of the quotient. -/
theorem one_digit {y u d : Int} (hy : 9223372036854775808 ≤ y) (hy1 : y < 18446744073709551616) (hd : 0 ≤ d) (hd' : d < 4294967296) (hu : 0 ≤ u) (huy : u < y) (K : Int → Option ρ) (k : Nat) :
    qt u (y / 4294967296) (fun q => kn (y / 4294967296) (band .u64 y 4294967295) d (fun q _ => K q) (k + 2) q (wr .u64 (u - wr .u64 (q * (y / 4294967296))))) = K ((u * 4294967296 + d) / y) := by
  have hyp : 0 < y := by omega
  rw [qt_eq hu (by omega) (by omega), band32 (by omega) hy1]
  have hsplit : y = y / 4294967296 * 4294967296 + y % 4294967296 := by omega
  have hm := Int.emod_add_mul_ediv (u * 4294967296 + d) y
  have hr0 := Int.emod_nonneg (u * 4294967296 + d) (show y ≠ 0 by omega)
  have hr1 := Int.emod_lt_of_pos (u * 4294967296 + d) hyp
  rw [Int.mul_comm y] at hm
  have hQ0 : 0 ≤ (u * 4294967296 + d) / y := Int.ediv_nonneg (by omega) (by omega)
  obtain ⟨g1, g2, g3, g4, g5⟩ := guess (u := u) (d := d) (Q := (u * 4294967296 + d) / y) hsplit (by omega) (by omega) (by omega) hd' (by omega) hQ0 hu huy
  have hqy : 0 ≤ u / (y / 4294967296) * (y / 4294967296) := Int.mul_nonneg (Int.ediv_nonneg hu (by omega)) (by omega)
  have w1 : wr .u64 (u / (y / 4294967296) * (y / 4294967296)) = u / (y / 4294967296) * (y / 4294967296) := wu64_in hqy (by omega)
  have w2 : wr .u64 (u - u / (y / 4294967296) * (y / 4294967296)) = u % (y / 4294967296) := by rw [wu64_in (by omega) (by omega)]; omega
  rw [w1, w2]
  obtain ⟨r', hr'⟩ := kn_eq (u := u) (d := d) (Q := (u * 4294967296 + d) / y) hsplit (by omega) (by omega) (by omega) (by omega) hd hd' hQ0 (by omega) (by omega) huy g1 g2 g3 (by omega) g5 (fun q _ => K q) k
  rw [hr']

/-- What is left behind a digit. -/
theorem left_digit {y u d : Int} (hy : 0 < y) (hy1 : y < 18446744073709551616) :
    wr .u64 (wr .u64 (wr .u64 (u * 4294967296) + d) - wr .u64 ((u * 4294967296 + d) / y * y)) = (u * 4294967296 + d) % y := by
  have hm := Int.emod_add_mul_ediv (u * 4294967296 + d) y
  have hr0 := Int.emod_nonneg (u * 4294967296 + d) (show y ≠ 0 by omega)
  have hr1 := Int.emod_lt_of_pos (u * 4294967296 + d) hy
  rw [Int.mul_comm y] at hm
  simp only [wr_u64]
  generalize (u * 4294967296 + d) / y * y = p at *
  generalize (u * 4294967296 + d) % y = r at *
  omega

theorem digit_lt {y u d : Int} (hy : 0 < y) (hd' : d < 4294967296) (huy : u < y) : (u * 4294967296 + d) / y < 4294967296 := by
  rw [Int.ediv_lt_iff_lt_mul hy]; omega

theorem divRaw_eq {hi lo y : Int} (h0 : 0 ≤ hi) (h1 : hi < y) (hy1 : y < 18446744073709551616) (l0 : 0 ≤ lo) (l1 : lo < 18446744073709551616) (K : Int → Int → Option ρ) :
    divRaw lzI 6 2 hi lo y K = K ((hi * 18446744073709551616 + lo) / y) ((hi * 18446744073709551616 + lo) % y) := by
  have hyp : 0 < y := by omega
  unfold divRaw
  have e0 : (y == 0) = false := by simp; omega
  rw [e0, decide_eq_false (by omega : ¬ y ≤ hi)]
  simp only [cond_false]
  by_cases hz : hi = 0
  · subst hz
    simp only [BEq.rfl, cond_true]
    rw [Int.tdiv_eq_ediv_of_nonneg l0, Int.tmod_eq_emod_of_nonneg l0]
    have a1 : 0 ≤ lo / y := Int.ediv_nonneg l0 (by omega)
    have a2 : lo / y ≤ lo := Int.ediv_le_self y l0
    rw [wu64_in a1 (by omega)]
    simp
  · have e1 : (hi == 0) = false := by simp; exact hz
    have e2 : in64 y = true := by unfold in64; simp; omega
    rw [e1, e2]
    simp only [cond_false, cond_true]
    obtain ⟨t, ht, t1, t2, t3, t4⟩ := lenI_ok hyp hy1
    have hs : wr .u64 (lzI y) = ((64 - t : Nat) : Int) := by
      unfold lzI
      rw [ht, w64_in (by omega) (by omega), wu64_in (by omega) (by omega)]; omega
    rw [hs]
    have hs2 : wr .u64 (64 - ((64 - t : Nat) : Int)) = (t : Int) := by rw [wu64_in (by omega) (by omega)]; omega
    generalize hSe : 64 - t = S at *
    have hP := p2_pos S
    have hPc := p2_pos t
    have hPP : p2 S * p2 t = 18446744073709551616 := by rw [← p2_add, show S + t = 64 by omega, p2_64]
    have hPP2 : p2 S * p2 (t - 1) = 9223372036854775808 := by rw [← p2_add, show S + (t - 1) = 63 by omega, p2_63]
    have hylo : p2 (t - 1) ≤ y := by unfold p2; omega
    have hyhi : y < p2 t := by unfold p2; omega
    generalize p2 (t - 1) = P1 at *
    have hYlo : 9223372036854775808 ≤ y * p2 S := by
      have := Int.mul_le_mul_of_nonneg_right hylo (Int.le_of_lt hP)
      rw [Int.mul_comm P1] at this; omega
    have hYhi : y * p2 S < 18446744073709551616 := by
      have := Int.mul_lt_mul_of_pos_right hyhi hP
      rw [Int.mul_comm (p2 t)] at this; omega
    rw [sft_left (by omega) (by omega) hYhi]
    have haY : hi * p2 S ≤ y * p2 S - p2 S := by
      have := Int.mul_le_mul_of_nonneg_right (show hi ≤ y - 1 by omega) (Int.le_of_lt hP)
      rw [Int.sub_mul, Int.one_mul] at this; exact this
    have ha0 : 0 ≤ hi * p2 S := Int.mul_nonneg h0 (Int.le_of_lt hP)
    rw [sft_left (by omega) ha0 (by omega), hs2, sft_right (by omega)]
    have hb0 : 0 ≤ lo / p2 t := Int.ediv_nonneg l0 (Int.le_of_lt hPc)
    have hb1 : lo / p2 t < p2 S := by rw [Int.ediv_lt_iff_lt_mul hPc, hPP]; exact l1
    have hor : bor .u64 (hi * p2 S) (lo / p2 t) = hi * p2 S + lo / p2 t := by
      rw [bor_eq ha0 (by omega) hb0 (by omega)]
      have x1 : (hi * p2 S).toNat = 2 ^ S * hi.toNat := by
        obtain ⟨n, hn⟩ := Int.eq_ofNat_of_zero_le h0
        rw [hn]
        show ((n : Int) * ((2 ^ S : Nat) : Int)).toNat = 2 ^ S * ((n : Int)).toNat
        rw [← Int.natCast_mul, Int.toNat_natCast, Int.toNat_natCast, Nat.mul_comm]
      rw [x1, or_add ((Int.toNat_lt hb0).2 hb1), ← x1]
      omega
    rw [hor, sft_left' (by omega)]
    have hdiv : lo * p2 S / 18446744073709551616 = lo / p2 t := by
      rw [← hPP, Int.mul_comm lo, Int.mul_ediv_mul_of_pos _ _ hP]
    have hsum : (hi * p2 S + lo / p2 t) * 18446744073709551616 + lo * p2 S % 18446744073709551616 = (hi * 18446744073709551616 + lo) * p2 S := by
      have := Int.emod_add_mul_ediv (lo * p2 S) 18446744073709551616
      rw [hdiv] at this
      have e3 : hi * 18446744073709551616 * p2 S = hi * p2 S * 18446744073709551616 := Int.mul_right_comm _ _ _
      rw [Int.add_mul, Int.add_mul, e3]; omega
    have hl0 : 0 ≤ lo * p2 S % 18446744073709551616 := Int.emod_nonneg _ (by omega)
    have hl1 : lo * p2 S % 18446744073709551616 < 18446744073709551616 := Int.emod_lt_of_pos _ (by omega)
    generalize hu : hi * p2 S + lo / p2 t = u at *
    generalize lo * p2 S % 18446744073709551616 = v at *
    generalize hY : y * p2 S = Y at *
    have huY : u < Y := by omega
    have hu0 : 0 ≤ u := by omega
    rw [band32 (x := v) hl0 hl1]
    have d1 : 0 ≤ v / 4294967296 ∧ v / 4294967296 < 4294967296 := by omega
    have d0 : 0 ≤ v % 4294967296 ∧ v % 4294967296 < 4294967296 := by omega
    have hv : v = v / 4294967296 * 4294967296 + v % 4294967296 := by omega
    generalize v / 4294967296 = v1 at *
    generalize v % 4294967296 = v0 at *
    have key1 := one_digit (ρ := ρ) hYlo hYhi d1.1 d1.2 hu0 huY (fun q1 =>
      qt (wr .u64 (wr .u64 (wr .u64 (u * 4294967296) + v1) - wr .u64 (q1 * Y))) (Y / 4294967296) fun q0 =>
      kn (Y / 4294967296) (band .u64 Y 4294967295) v0 (fun q0 _ => sft false (wr .u64 (wr .u64 (wr .u64 (wr .u64 (wr .u64 (wr .u64 (u * 4294967296) + v1) - wr .u64 (q1 * Y)) * 4294967296) + v0) - wr .u64 (q0 * Y))) (S : Int) fun r => K (wr .u64 (wr .u64 (q1 * 4294967296) + q0)) r)
        2 q0 (wr .u64 (wr .u64 (wr .u64 (wr .u64 (u * 4294967296) + v1) - wr .u64 (q1 * Y)) - wr .u64 (q0 * (Y / 4294967296))))) 4
    refine Eq.trans key1 ?_
    rw [left_digit (by omega) hYhi]
    have hm1 := Int.emod_add_mul_ediv (u * 4294967296 + v1) Y
    have hr0 := Int.emod_nonneg (u * 4294967296 + v1) (show Y ≠ 0 by omega)
    have hr1 := Int.emod_lt_of_pos (u * 4294967296 + v1) (show 0 < Y by omega)
    have hq1 := digit_lt (y := Y) (u := u) (d := v1) (by omega) d1.2 huY
    have hq10 : 0 ≤ (u * 4294967296 + v1) / Y := Int.ediv_nonneg (by omega) (by omega)
    generalize hu2 : (u * 4294967296 + v1) % Y = u2 at *
    generalize (u * 4294967296 + v1) / Y = Q1 at *
    refine Eq.trans (one_digit (ρ := ρ) hYlo hYhi d0.1 d0.2 hr0 hr1 (fun q0 => sft false (wr .u64 (wr .u64 (wr .u64 (u2 * 4294967296) + v0) - wr .u64 (q0 * Y))) (S : Int) fun r => K (wr .u64 (wr .u64 (Q1 * 4294967296) + q0)) r) 0) ?_
    rw [left_digit (by omega) hYhi, sft_right (by omega)]
    have hm2 := Int.emod_add_mul_ediv (u2 * 4294967296 + v0) Y
    have hr20 := Int.emod_nonneg (u2 * 4294967296 + v0) (show Y ≠ 0 by omega)
    have hr21 := Int.emod_lt_of_pos (u2 * 4294967296 + v0) (show 0 < Y by omega)
    have hq0 := digit_lt (y := Y) (u := u2) (d := v0) (by omega) d0.2 hr1
    have hq00 : 0 ≤ (u2 * 4294967296 + v0) / Y := Int.ediv_nonneg (by omega) (by omega)
    generalize (u2 * 4294967296 + v0) % Y = R at *
    generalize (u2 * 4294967296 + v0) / Y = Q0 at *
    rw [wu64_in (n := Q1 * 4294967296) (by omega) (by omega), wu64_in (by omega) (by omega)]
    -- the whole
    have eQ : Y * (Q1 * 4294967296 + Q0) = Y * Q1 * 4294967296 + Y * Q0 := by rw [Int.mul_add, ← Int.mul_assoc]
    have whole : (hi * 18446744073709551616 + lo) * p2 S = Y * (Q1 * 4294967296 + Q0) + R := by
      rw [← hsum, eQ]; omega
    generalize Q1 * 4294967296 + Q0 = Q at *
    generalize hi * 18446744073709551616 + lo = N at *
    have hR : R = (N - y * Q) * p2 S := by
      rw [Int.sub_mul]
      have : Y * Q = y * Q * p2 S := by rw [← hY, Int.mul_right_comm]
      omega
    have hRd : R / p2 S = N - y * Q := by rw [hR]; exact Int.mul_ediv_cancel _ (by omega)
    have hN0 : 0 ≤ N - y * Q := by rw [← hRd]; exact Int.ediv_nonneg hr20 (by omega)
    have hN1 : N - y * Q < y := by
      rw [← hRd, Int.ediv_lt_iff_lt_mul hP, hY]; exact hr21
    have hNQ : N / y = Q := by
      rw [Int.ediv_eq_iff_of_pos hyp]
      constructor
      · rw [Int.mul_comm]; omega
      · rw [Int.mul_comm Q]; omega
    have hNr : N % y = N - y * Q := by
      have := Int.emod_add_mul_ediv N y
      rw [hNQ] at this; omega
    rw [hRd, hNQ, hNr]

end
end Go.Proofs.YtdojnnlhaiennaaGreat.Fx

/- The contracts of the inner functions of package fixed and of math/bits, as the interpreter finds them. Conditions: none. -/
namespace Go.Proofs.YtdojnnlhaiennaaGreat.Fx
open Go Go.Proofs.YtdojnnlhaiennaaGreat.Ae

abbrev anyArgs : List AV → Bool := fun _ => true

/-! ### size -/
def sz (n : Int) : Int := bif decide (n < 0) then wr .u64 (wr .i64 (0 - n)) else wr .u64 n
def sb (n : Int) : Int := bif decide (n < 0) then 1 else 0
def sizeF (sz sb : Int → Int) : List AV → Option AV
  | [.int .i64 n] => some (.tup [.int .u64 (sz n), .int .u64 (sb n)])
  | _ => none
theorem size_raw (n : Int) : acall Tryz.prog [] 30 175 [.int .i64 n] [] (fun v _ => bif v.noPtr then some v else none) =
    bif decide (n < 0) then some (.tup [.int .u64 (wr .u64 (wr .i64 (0 - n))), .int .u64 1]) else some (.tup [.int .u64 (wr .u64 n), .int .u64 0]) := by kernel_rfl
theorem size_ok : PureOk Tryz.prog 175 anyArgs (sizeF sz sb) := by
  refine pure_of (EnvOk.nil _) 30 _ _ _ ?_
  rintro args v - h
  unfold sizeF at h
  split at h <;> cases h
  rename_i n
  refine ⟨rfl, rfl, ?_⟩
  rw [size_raw, sz, sb]
  cases decide (n < 0) <;> rfl

/-! ### Mul64 -/
def mulF (mh : Int → Int → Int) : List AV → Option AV
  | [.int .u64 x, .int .u64 y] => some (.tup [.int .u64 (mh x y), .int .u64 (wr .u64 (x * y))])
  | _ => none
theorem mul_ok : PureOk Tryz.prog 176 anyArgs (mulF mulHi) := by
  refine pure_of (EnvOk.nil _) 60 _ _ _ ?_
  rintro args v - h
  unfold mulF at h
  split at h <;> cases h
  exact ⟨rfl, rfl, by kernel_rfl⟩

/-! ### Len64 -/
def lzF (lz : Int → Int) : List AV → Option AV
  | [.int .u64 x] => some (.int .i64 (lz x))
  | _ => none
def lenF : List AV → Option AV
  | [.int .u64 x] => some (.int .i64 (lenI x))
  | _ => none
theorem len_raw (x : Int) : acall Tryz.prog [] 60 206 [.int .u64 x] [] (fun v _ => bif v.noPtr then some v else none) =
  let c := decide (x ≥ 4294967296)
  let n := bif c then 32 else 0
  let x := bif c then x / 4294967296 else x
  let c := decide (x ≥ 65536)
  let n := bif c then wr .i64 (n + 16) else n
  let x := bif c then x / 65536 else x
  let c := decide (x ≥ 256)
  let n := bif c then wr .i64 (n + 8) else n
  let x := bif c then x / 256 else x
  let i := wr .u8 x
  bif ltN i 256 then some (.int .i64 (wr .i64 (n + wr .i64 ((lenTab.data.getD i.toNat 0).toNat : Int)))) else none := by kernel_rfl
theorem len_ok : PureOk Tryz.prog 206 anyArgs lenF := by
  refine pure_of (EnvOk.nil _) 60 _ _ _ ?_
  rintro args v - h
  unfold lenF at h
  split at h <;> cases h
  rename_i x
  refine ⟨rfl, rfl, ?_⟩
  rw [len_raw]
  dsimp only
  have h8 : ∀ z : Int, ltN (wr .u8 z) 256 = true := fun z => by
    have : wr .u8 z = z % 256 := by simp only [wr]
    rw [this]
    exact ltN_of (by omega) (by omega)
  rw [h8]
  rfl
theorem lz_ok (hE : EnvOk Tryz.prog [(206, .pure anyArgs lenF)]) : PureOk Tryz.prog 201 anyArgs (lzF lzI) := by
  refine pure_of hE 60 _ _ _ ?_
  rintro args v - h
  unfold lzF at h
  split at h <;> cases h
  exact ⟨rfl, rfl, by kernel_rfl⟩

/-! ### root -/
def envR (mh : Int → Int → Int) : Env := [(176, .pure anyArgs (mulF mh))]
def rootRaw (mh : Int → Int → Int) (high low : Int) : Nat → Int → Int → Int
  | 0, r, _ => r
  | k + 1, r, bit =>
    let t := bor .u64 r bit
    let h := mh t t
    let l := wr .u64 (t * t)
    let c := bif decide (h < high) then true else bif h == high then decide (l ≤ low) else false
    rootRaw mh high low k (bif c then t else r) (bit / 2)
theorem root_raw (mh : Int → Int → Int) (high low : Int) : acall Tryz.prog (envR mh) 120 179 [.int .u64 high, .int .u64 low] [] (fun v _ => bif v.noPtr then some v else none) = some (.int .u64 (rootRaw mh high low 63 0 4611686018427387904)) := by kernel_rfl

end Go.Proofs.YtdojnnlhaiennaaGreat.Fx
