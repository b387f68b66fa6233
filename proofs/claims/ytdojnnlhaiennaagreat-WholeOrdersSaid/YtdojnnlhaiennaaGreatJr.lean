/- What comes: the loop over the frames. Conditions: none. -/
import Derived.Test.YtdojnnlhaiennaaGreatJq
import Derived.Test.YtdojnnlhaiennaaGreatJi
import Derived.Test.YtdojnnlhaiennaaGreatJk
import Derived.Test.YtdojnnlhaiennaaGreatJj
namespace Go.Proofs.YtdojnnlhaiennaaGreat.Ae
open Go
/-- A piece of code; of the heap the first L blocks are told. -/
theorem At.codeKL {P : Program} {env : Env} (hE : EnvOk P env) (fuel : Nat) (ks : List Nat) (L : Nat) {m0 : List Nat} {w0 : World} {n : Nat} {c : Code} {T T' : List (Nat × AV)} {H H' : List AB} {e : Ex}
    (h : acode P env fuel n c T H (Cs.keepL ks L) = some (e, T', H')) {Q : Exit → Act → World → Prop} {a : Act} {w : World} (hs : At m0 w0 n T H a w)
    (hQ : ∀ X a' w', At m0 w0 n T' (H' ++ X) a' w' → Q (exOf e) a' w') : c.wp P Q a w := by
  obtain ⟨⟨m, h1, h2, h3⟩, h4⟩ := hs
  refine (acode_both hE fuel).1 n c T H (Cs.keepL ks L) _ h m a w Q h1 h2 h4 fun e' T2 H2 a' m' w' q1 q2 q3 q4 q5 => ?_
  cases q5
  refine hQ (H2.drop L) a' w' ⟨⟨m', ⟨q1.1, fun i => ?_⟩, by rw [List.take_append_drop]; exact q2, h3.trans q3⟩, q4⟩
  rcases get_keep T2 ks i with h | h
  · rw [h]; simp only [R]
  · rw [h]; exact q1.2 i
end Go.Proofs.YtdojnnlhaiennaaGreat.Ae
namespace Go.Proofs.YtdojnnlhaiennaaGreat.Cs
open Go Go.Proofs.YtdojnnlhaiennaaGreat.Ae Go.Proofs.YtdojnnlhaiennaaGreat.Fx
open Go.Proofs.YtdojnnlhaiennaaGreat.Md (J Pl Sn)
open Go.Proofs.YtdojnnlhaiennaaGreat.Orb (El RO)
open Go.Proofs.YtdojnnlhaiennaaGreat.Se (Rdg)
open Go.Proofs.YtdojnnlhaiennaaGreat.Qx (Ns)
open Go.Proofs.YtdojnnlhaiennaaGreat.Cr (Frm ScR scanP cellsF)

/-! ### The readings, and the map that holds them -/
abbrev Rds := Int → Option Rdg
structure MapRel (es : List (MK × AV)) (rd : Rds) : Prop where
  flat : ∀ e ∈ es, e.2.noPtr = true
  some_ : ∀ k r, rd k = some r → ((k, 0), r.av) ∈ es
  none_ : ∀ k, rd k = none → ∀ e ∈ es, e.1 ≠ (k, 0)
theorem putS_mem {k : MK} {v : AV} {es : List (MK × AV)} (e : MK × AV) : e ∈ putS k v es ↔ e = (k, v) ∨ (e ∈ es ∧ e.1 ≠ k) := by
  unfold putS
  cases hb : es.any (fun e => keqB k e.1) with
  | true =>
    obtain ⟨e0, h0, h1⟩ := any_iff.1 hb
    simp only [cond_true, List.mem_map]
    constructor
    · rintro ⟨a, ha, rfl⟩
      unfold updS
      cases hk : keqB k a.1 with
      | true => left; rfl
      | false =>
        right
        refine ⟨ha, fun h => ?_⟩
        have h : a.1 = k := h
        rw [keq_iff.2 h.symm] at hk; cases hk
    · rintro (rfl | ⟨he, hk⟩)
      · refine ⟨e0, h0, ?_⟩
        unfold updS
        rw [keq_iff.2 h1.symm]; rfl
      · refine ⟨e, he, ?_⟩
        unfold updS
        cases hk' : keqB k e.1 with
        | true => exact absurd (keq_iff.1 hk').symm hk
        | false => rfl
  | false =>
    simp only [cond_false]
    rw [(insS_perm k v es).mem_iff, List.mem_cons]
    constructor
    · rintro (h | h)
      · exact .inl h
      · refine .inr ⟨h, fun hk => ?_⟩
        have := any_iff.2 ⟨e, h, hk⟩
        rw [hb] at this; cases this
    · rintro (h | h)
      · exact .inl h
      · exact .inr h.1
def upd (rd : Rds) (k : Int) (r : Rdg) : Rds := fun j => if j = k then some r else rd j
theorem MapRel.put {es : List (MK × AV)} {rd : Rds} (h : MapRel es rd) (k : Int) (r : Rdg) : MapRel (putS (k, 0) r.av es) (upd rd k r) := by
  refine ⟨fun e he => ?_, fun j r' hj => ?_, fun j hj e he => ?_⟩
  · rcases (putS_mem e).1 he with rfl | ⟨he, _⟩
    · rfl
    · exact h.flat e he
  · unfold upd at hj
    split at hj
    · rename_i hk
      cases hj
      exact (putS_mem _).2 (.inl (by rw [hk]))
    · rename_i hk
      exact (putS_mem _).2 (.inr ⟨h.some_ j r' hj, fun hc => hk (by simpa using hc)⟩)
  · unfold upd at hj
    split at hj
    · cases hj
    · rename_i hk
      rcases (putS_mem e).1 he with rfl | ⟨he, _⟩
      · intro hc
        simp at hc
        exact hk hc.symm
      · exact h.none_ j hj e he
theorem MapRel.nil : MapRel [] (fun _ => none) := by
  refine ⟨?_, ?_, ?_⟩
  · intro e h; cases h
  · intro k r h; cases h
  · intro k _ e h; cases h

/-! ### A frame -/
structure Hst where
  c : Cft
  s : Stp
  rd : Rds
def Hst.reject (h : Hst) : Hst := { h with c := h.c.reject }
def ordP (o : RO) (h : Hst) : Hst :=
  if o.e ≠ 0 then { h with c := (h.c.told o).reject }
  else if o.o.c = 1 ∨ o.o.c = 2 then { h with c := h.c.told o, s := { h.s with sn := { h.s.sn with order := o.o.c } } }
  else if o.o.c = 3 then { h with c := { h.c.told o with el := o.o.el, placed := true } }
  else if o.o.c = 4 then { h with c := { h.c.told o with rej := 0, pl := { h.c.pl with faults := 0 } } }
  else { h with c := h.c.told o }
def sensP (k : Int) (d : ByteArray) (h : Hst) : Hst :=
  if (Se.readS k d).2 = true ∧ Se.freshP (Se.readS k d).1.t h.s.tick = true then { h with rd := upd h.rd k (Se.readS k d).1 } else h.reject
def frmP (h : Hst) (x : Frm) : Hst :=
  if x.1 = 1 ∨ x.1 = 2 ∨ x.1 = 3 then sensP x.1 x.2 h
  else if x.1 = 16 then ordP (Orb.readO x.1 x.2) h
  else h.reject
section
variable (z : AB) (kd : Nat → Int) (dt : Nat → ByteArray) (n : Nat) (i : Int)
/-- What a round leads to. -/
theorem hFrm_eq (h : Hst) (es : List (MK × AV)) (hr : MapRel es h.rd) (k : Int) (d : ByteArray) :
    ∃ es', MapRel es' (frmP h (k, d)).rd ∧ hFrm Se.readS Se.freshP Orb.readO h.c h.s z es kd dt n i k d = hOut z kd dt n i (frmP h (k, d)).c es' (frmP h (k, d)).s := by
  have sens : ∃ es', MapRel es' (sensP k d h).rd ∧ hSens Se.readS Se.freshP h.c h.s z es kd dt n i k d = hOut z kd dt n i (sensP k d h).c es' (sensP k d h).s := by
    unfold hSens sensP
    cases (Se.readS k d).2 with
    | false => exact ⟨es, by rw [if_neg (by simp)]; exact hr, by rw [bf, bf, bf, if_neg (by simp)]; rfl⟩
    | true =>
      cases hf : Se.freshP (Se.readS k d).1.t h.s.tick with
      | true => exact ⟨putS (k, 0) (Se.readS k d).1.av es, by rw [if_pos ⟨rfl, rfl⟩]; exact hr.put k _, by rw [bt, bt, bt, if_pos ⟨rfl, rfl⟩]⟩
      | false => exact ⟨es, by rw [if_neg (by simp)]; exact hr, by rw [bt, bt, bf, if_neg (by simp)]; rfl⟩
  unfold frmP hFrm
  simp only
  by_cases k1 : k = 1
  · rw [if_pos (.inl k1), show (k == 1) = true by rw [k1]; rfl, bt]; exact sens
  rw [show (k == 1) = false from beq_eq_false_iff_ne.2 k1, bf]
  by_cases k2 : k = 2
  · rw [if_pos (.inr (.inl k2)), show (k == 2) = true by rw [k2]; rfl, bt, bt]; exact sens
  rw [show (k == 2) = false from beq_eq_false_iff_ne.2 k2, bf]
  by_cases k3 : k = 3
  · rw [if_pos (.inr (.inr k3)), show (k == 3) = true by rw [k3]; rfl, bt]; exact sens
  rw [show (k == 3) = false from beq_eq_false_iff_ne.2 k3, bf, if_neg (by rintro (h | h | h) <;> contradiction)]
  by_cases k16 : k = 16
  · rw [if_pos k16, show (k == 16) = true by rw [k16]; rfl, bt]
    generalize Orb.readO k d = o
    unfold hOrd ordP
    by_cases he : o.e = 0
    · rw [if_neg (fun h => h he), show (o.e != 0) = false by rw [he]; rfl, bf]
      by_cases c1 : o.o.c = 1
      · rw [if_pos (.inl c1), show (o.o.c == 1) = true by rw [c1]; rfl, bt, bt]; exact ⟨es, hr, rfl⟩
      rw [show (o.o.c == 1) = false from beq_eq_false_iff_ne.2 c1, bf]
      by_cases c2 : o.o.c = 2
      · rw [if_pos (.inr c2), show (o.o.c == 2) = true by rw [c2]; rfl, bt]; exact ⟨es, hr, rfl⟩
      rw [show (o.o.c == 2) = false from beq_eq_false_iff_ne.2 c2, bf, if_neg (by rintro (h | h) <;> contradiction)]
      by_cases c3 : o.o.c = 3
      · rw [if_pos c3, show (o.o.c == 3) = true by rw [c3]; rfl, bt]; exact ⟨es, hr, rfl⟩
      rw [show (o.o.c == 3) = false from beq_eq_false_iff_ne.2 c3, bf, if_neg c3]
      by_cases c4 : o.o.c = 4
      · rw [if_pos c4, show (o.o.c == 4) = true by rw [c4]; rfl, bt]; exact ⟨es, hr, rfl⟩
      · rw [if_neg c4, show (o.o.c == 4) = false from beq_eq_false_iff_ne.2 c4, bf]; exact ⟨es, hr, rfl⟩
    · rw [if_pos he, show (o.e != 0) = true from bne_iff_ne.2 he, bt]; exact ⟨es, hr, rfl⟩
  · rw [if_neg k16, show (k == 16) = false from beq_eq_false_iff_ne.2 k16, bf]
    exact ⟨es, hr, rfl⟩
end
def Cft.zero : Cft := ⟨false, 0, Cr.eS, Pl.zero, false, El.zero, fun _ => 0, fun _ => 0, 0, 0, 0⟩
theorem cav_trunc (L : Nat) (c : Cft) : AV.truncL L c.av = c.av := rfl
theorem sav_trunc (s : Stp) (L : Nat) (h : 3 ≤ L) : AV.truncL L s.av = s.av := by
  obtain ⟨k, rfl⟩ : ∃ k, L = k + 3 := ⟨L - 3, by omega⟩
  rfl
end Go.Proofs.YtdojnnlhaiennaaGreat.Cs

/- Calls that work on the first blocks of a heap: the others stay as they are. Conditions: the contracts that are looked up hold. -/
namespace Go.Proofs.YtdojnnlhaiennaaGreat.Ae
open Go

/-- Blocks that say nothing of blocks from L on. -/
def FirstOk (L : Nat) (H : List AB) : Prop := ∀ i B, H[i]? = some B → B.live = true ∧ B.inL L i ∧ ∀ m b o, capAt m i b o B
theorem FirstOk.nil (L : Nat) : FirstOk L [] := fun i B h => by simp at h
theorem first_cons {P : Nat → AB → Prop} {B : AB} {H : List AB} (hB : P 0 B) (h : ∀ i C, H[i]? = some C → P (i + 1) C) : ∀ i C, (B :: H)[i]? = some C → P i C := by
  intro i C hC
  cases i with
  | zero => simp at hC; subst hC; exact hB
  | succ i => exact h i C (by simpa using hC)
theorem take_get {m : List Nat} {L i b : Nat} (h : (m.take L)[i]? = some b) : m[i]? = some b ∧ i < L := by
  rw [List.getElem?_take] at h
  split at h
  · exact ⟨h, ‹_›⟩
  · cases h
theorem HR.first {m : List Nat} {H1 H2 : List AB} {w : World} (h : HR m (H1 ++ H2) w) (hf : FirstOk H1.length H1) : HR (m.take H1.length) H1 w := by
  have hl := h.len
  rw [List.length_append] at hl
  have htl : (m.take H1.length).length = H1.length := by rw [List.length_take]; omega
  refine ⟨htl, ?_, ?_⟩
  · intro i j b B C h1 h2 h3 h4 h5 h6
    obtain ⟨a1, a2⟩ := take_get h1
    obtain ⟨b1, b2⟩ := take_get h2
    exact h.nodup i j b B C a1 b1 (by rw [List.getElem?_append_left a2]; exact h3) (by rw [List.getElem?_append_left b2]; exact h4) h5 h6
  · intro i B h1 h2
    have hi : i < H1.length := (List.getElem?_eq_some_iff.1 h1).1
    obtain ⟨b, o, g1, g2, g3, g4⟩ := h.all i B (by rw [List.getElem?_append_left hi]; exact h1) h2
    obtain ⟨f1, f2, f3⟩ := hf i B h1
    refine ⟨b, o, by rw [List.getElem?_take, if_pos hi]; exact g1, g2, ?_, f3 _ _ _⟩
    refine RB_cut (y := m.drop H1.length) (i := i) ?_ (by rw [htl]; exact f2)
    rw [List.take_append_drop]
    exact g3
def keepN (L : Nat) (v : AV) (H : List AB) : Option (AV × List AB) := some (v, H.take L)
theorem first_calls {P : Program} {f : FuncId} {args : List AV} {H1 H1' : List AB} {v : AV} {L : Nat} (hL : H1.length = L) (hL' : H1'.length = L)
    (ha : AV.truncL L args = args) (hv : v.trunc L = v) (hf : FirstOk L H1) (hf' : ∀ i B, H1'[i]? = some B → B.inL L i ∧ ∀ m b o, capAt m i b o B)
    {m : List Nat} {H2 : List AB} {w : World} (hH : HR m (H1 ++ H2) w) {Args : Array Value} (hA : RL m args Args.toList)
    (h : ∀ m1 : List Nat, HR m1 H1 w → RL m1 args Args.toList → Calls P f Args w fun e w' => ∃ V m' H', e = .returned V ∧ R m' v V ∧ HR m' H' w' ∧ Ext m1 w m' w' ∧ H'.take L = H1') :
    Calls P f Args w fun e w' => ∃ V m', e = .returned V ∧ R m' v V ∧ HR m' (H1' ++ H2) w' ∧ Ext m w m' w' := by
  have hl := hH.len
  rw [List.length_append, hL] at hl
  have htl : (m.take L).length = L := by rw [List.length_take]; omega
  have hH1 : HR (m.take L) H1 w := by
    have := hH.first (hL ▸ hf)
    rwa [hL] at this
  have hA1 : RL (m.take L) args Args.toList := RL_cut (y := m.drop L) (by rw [List.take_append_drop]; exact hA) (by rw [htl]; exact ha)
  refine (h (m.take L) hH1 hA1).mono fun e w' ⟨V, m', H', e1, e2, e3, e4, e5⟩ => ?_
  subst e5
  obtain ⟨x, hx, hxs⟩ := e4.pre
  subst hx
  have blk : ∀ b, b < w.heap.size → b ∉ m.take L → w'.heap[b]? = w.heap[b]? := fun b h1 h2 => e4.block b h1 h2
  have hRV : R m v V := by
    have h1 : R (m.take L) v V := R_cut (y := x) e2 (by rw [htl]; exact hv)
    have h2 := R_mono (m.drop L) v h1
    rwa [List.take_append_drop] at h2
  refine ⟨V, m, e1, hRV, ⟨by rw [List.length_append, hL', hl], ?_, ?_⟩, ⟨⟨[], by simp, fun b hb => by cases hb⟩, e4.os, e4.tape, e4.output, e4.size, fun k hk hkm => e4.block k hk (fun h => hkm (List.mem_of_mem_take h))⟩⟩
  · have cross : ∀ (i j b : Nat) (B C : AB), i < L → L ≤ j → m[i]? = some b → m[j]? = some b → (H'.take L ++ H2)[j]? = some C → C.live = true → False := by
      intro i j b B C hi hj h1 h2 h3 h4
      have h3' : (H1 ++ H2)[j]? = some C := by
        rw [List.getElem?_append_right (by omega)] at h3 ⊢
        rw [hL] at *
        rw [hL'] at h3
        exact h3
      obtain ⟨B1, hB1⟩ : ∃ B1, H1[i]? = some B1 := ⟨_, List.getElem?_eq_getElem (by omega)⟩
      have := hH.nodup i j b B1 C h1 h2 (by rw [List.getElem?_append_left (by omega)]; exact hB1) h3' (hf i B1 hB1).1 h4
      omega
    intro i j b B C h1 h2 h3 h4 h5 h6
    rcases Nat.lt_or_ge i L with hi | hi <;> rcases Nat.lt_or_ge j L with hj | hj
    · rw [List.getElem?_append_left (by omega)] at h3 h4
      have g1 : (m.take L ++ x)[i]? = some b := get_mono x (by rw [List.getElem?_take, if_pos hi]; exact h1)
      have g2 : (m.take L ++ x)[j]? = some b := get_mono x (by rw [List.getElem?_take, if_pos hj]; exact h2)
      refine e3.nodup i j b B C g1 g2 ?_ ?_ h5 h6
      · rw [List.getElem?_take, if_pos hi] at h3; exact h3
      · rw [List.getElem?_take, if_pos hj] at h4; exact h4
    · exact (cross i j b B C hi hj h1 h2 h4 h6).elim
    · exact (cross j i b C B hj hi h2 h1 h3 h5).elim
    · have h3' : (H1 ++ H2)[i]? = some B := by
        rw [List.getElem?_append_right (by omega)] at h3 ⊢
        rw [hL'] at h3; rw [hL]; exact h3
      have h4' : (H1 ++ H2)[j]? = some C := by
        rw [List.getElem?_append_right (by omega)] at h4 ⊢
        rw [hL'] at h4; rw [hL]; exact h4
      exact hH.nodup i j b B C h1 h2 h3' h4' h5 h6
  · intro i B h1 h2
    rcases Nat.lt_or_ge i L with hi | hi
    · rw [List.getElem?_append_left (by omega)] at h1
      obtain ⟨f1, f2⟩ := hf' i B h1
      rw [List.getElem?_take, if_pos hi] at h1
      obtain ⟨b, o, g1, g2, g3, g4⟩ := e3.all i B h1 h2
      have hm : (m.take L)[i]? = some b := by
        rw [List.getElem?_append_left (by omega)] at g1; exact g1
      refine ⟨b, o, (take_get hm).1, g2, ?_, f2 _ _ _⟩
      have h3 : RB (m.take L) B o := RB_cut g3 (by rw [htl]; exact f1)
      have h4 := RB_mono (m.drop L) h3
      rwa [List.take_append_drop] at h4
    · have h1' : (H1 ++ H2)[i]? = some B := by
        rw [List.getElem?_append_right (by omega)] at h1 ⊢
        rw [hL'] at h1; rw [hL]; exact h1
      obtain ⟨b, o, g1, g2, g3, g4⟩ := hH.all i B h1' h2
      refine ⟨b, o, g1, ?_, g3, g4⟩
      rw [blk b (hH.lt g1 h1' h2) ?_]
      · exact g2
      · intro hb
        obtain ⟨k, hk⟩ := List.mem_iff_getElem?.1 hb
        obtain ⟨hk1, hk2⟩ := take_get hk
        obtain ⟨B1, hB1⟩ : ∃ B1, H1[k]? = some B1 := ⟨_, List.getElem?_eq_getElem (by omega)⟩
        have := hH.nodup k i b B1 B hk1 g1 (by rw [List.getElem?_append_left (by omega)]; exact hB1) h1' (hf k B1 hB1).1 h2
        omega
theorem first_run {P : Program} {env : Env} (hE : EnvOk P env) (fuel : Nat) {f : FuncId} {args : List AV} {H1 H1' : List AB} {v : AV} {L : Nat} (hL : H1.length = L) (hL' : H1'.length = L) (h : acall P env fuel f args H1 (keepN L) = some (v, H1'))
    (ha : AV.truncL L args = args) (hv : v.trunc L = v) (hf : FirstOk L H1) (hf' : ∀ i B, H1'[i]? = some B → B.inL L i ∧ ∀ m b o, capAt m i b o B)
    {m : List Nat} {H2 : List AB} {w : World} (hH : HR m (H1 ++ H2) w) {Args : Array Value} (hA : RL m args Args.toList) :
    Calls P f Args w fun e w' => ∃ V m', e = .returned V ∧ R m' v V ∧ HR m' (H1' ++ H2) w' ∧ Ext m w m' w' :=
  first_calls hL hL' ha hv hf hf' hH hA fun m1 hH1 hA1 => (acall_ok hE h hA1 hH1).mono fun e w' ⟨v', V, m', H', e1, e2, e3, e4, e5⟩ => by
    cases e5
    exact ⟨V, m', H', e1, e2, e3, e4, rfl⟩

/-! ### A call that looks at the first block -/
mutual
theorem noPtr_tr' (L : Nat) : ∀ v : AV, v.noPtr = true → v.trunc L = v
  | .int .., _ => rfl
  | .bool _, _ => rfl
  | .str _, _ => rfl
  | .ptr .., h => by simp [AV.noPtr] at h
  | .nilp, _ => rfl
  | .slice .., h => by simp [AV.noPtr] at h
  | .nils, _ => rfl
  | .own .., h => by simp [AV.noPtr] at h
  | .view .., h => by simp [AV.noPtr] at h
  | .agg l, h => by simp only [AV.noPtr] at h; simp only [AV.trunc, noPtr_trL L l h]
  | .tup l, h => by simp only [AV.noPtr] at h; simp only [AV.trunc, noPtr_trL L l h]
  | .fn .., h => by simp [AV.noPtr] at h
  | .nilfn, _ => rfl
  | .map _, h => by simp [AV.noPtr] at h
  | .strF .., _ => rfl
  | .intF .., _ => rfl
  | .strG .., _ => rfl
  | .any, h => by simp [AV.noPtr] at h
theorem noPtr_trL (L : Nat) : ∀ l : List AV, AV.noPtrL l = true → AV.truncL L l = l
  | [], _ => rfl
  | v :: l, h => by
    simp only [AV.noPtrL, Bool.and_eq_true] at h
    simp only [AV.truncL, noPtr_tr' L v h.1, noPtr_trL L l h.2]
end
theorem noPtr_tr {L : Nat} (v : AV) (h : v.noPtr = true) : v.trunc L = v := noPtr_tr' L v h
def peekF (F : List AV → AB → Option AV) (args : List AV) (H : List AB) : Option (AV × List AB) :=
  match H with
  | B :: _ =>
    match F args B with
    | some v => some (v, H)
    | none => none
  | [] => none
theorem peek_of {P : Program} {f : FuncId} {C : List AV → Bool} {F : List AV → AB → Option AV}
    (h : ∀ args v B, C args = true → F args B = some v → v.noPtr = true ∧ AV.truncL 1 args = args ∧ B.live = true ∧ B.inL 1 0 ∧ (∀ m b o, capAt m 0 b o B) ∧
      ∀ (m1 : List Nat) (Args : Array Value) (w : World), RL m1 args Args.toList → HR m1 [B] w → Calls P f Args w fun e w' => ∃ V m', e = .returned V ∧ R m' v V ∧ HR m' [B] w' ∧ Ext m1 w m' w') : EffOk P f C (peekF F) := by
  intro args H v H' hC hF m Args w hA hH
  unfold peekF at hF
  split at hF
  · rename_i B rest
    split at hF
    · rename_i v0 hF0
      cases hF
      obtain ⟨h1, h2, h3, h4, h5, h6⟩ := h args v B hC hF0
      have h0 : ∀ i C, [B][i]? = some C → C = B ∧ i = 0 := fun i C hi => by
        cases i with
        | zero => simp at hi; exact ⟨hi.symm, rfl⟩
        | succ i => simp at hi
      refine first_calls (L := 1) (H1 := [B]) (H1' := [B]) rfl rfl h2 (noPtr_tr v h1) (fun i C hi => ?_) (fun i C hi => ?_) hH hA fun m1 hH1 hA1 => (h6 m1 Args w hA1 hH1).mono fun e w' ⟨V, m', e1, e2, e3, e4⟩ => ⟨V, m', [B], e1, e2, e3, e4, rfl⟩
      · obtain ⟨rfl, rfl⟩ := h0 i C hi; exact ⟨h3, h4, h5⟩
      · obtain ⟨rfl, rfl⟩ := h0 i C hi; exact ⟨h4, h5⟩
    · cases hF
  · cases hF
/-- .. by its body. -/
theorem peek_at {P : Program} {f : FuncId} {nt : Nat} {res : List ResultVar} (hb : hasBody P f nt res = true) {C : List AV → Bool} {F : List AV → AB → Option AV}
    (h : ∀ args v B, C args = true → F args B = some v → v.noPtr = true ∧ AV.truncL 1 args = args ∧ B.live = true ∧ B.inL 1 0 ∧ (∀ m b o, capAt m 0 b o B) ∧ args.length ≤ nt ∧
      ∀ (m1 : List Nat) (w0 : World) a, m1.length = 1 → At m1 w0 nt (mkT 0 args) [B] a w0 → (bodyOf P f).wp P (fun e a' w' => (e = .normal ∨ e = .ret) ∧ ∃ T' X vs, At m1 w0 nt T' (B :: X) a' w' ∧ ares P T' (B :: X) res = some vs ∧ tupOf vs = v) a w0) : EffOk P f C (peekF F) := by
  obtain ⟨fn, hfn, hbody, rfl, rfl, _⟩ := hasBody_ok hb
  refine peek_of fun args v B hC hF => ?_
  obtain ⟨h1, h2, h3, h4, h5, h6, h7⟩ := h args v B hC hF
  refine ⟨h1, h2, h3, h4, h5, fun m1 Args w hA hH => ?_⟩
  have hm : m1.length = 1 := hH.len
  refine calls_at hfn hbody h6 hA hH fun a ha => wp_mono (h7 m1 w a hm ha) ?_
  rintro e a' w' ⟨g1, T', X, vs, g2, g3, rfl⟩
  refine ⟨g1, T', B :: X, vs, g2, g3, fun V m' hV hH' hE => ⟨V, m1, rfl, R_noPtr _ h1 hV, ?_, ?_⟩⟩
  · have hs : At m1 w fn.ntmps [] [B] a' w' := g2.keep (by rw [hm]; exact Nat.le_refl _) (by simp) trivial ⟨.inr ⟨rfl, h4⟩, trivial⟩
    obtain ⟨⟨m2, _, q2, q3⟩, _⟩ := hs
    obtain ⟨x, hx, _⟩ := q3.pre
    have : x = [] := by
      have := q2.len
      rw [hx, List.length_append, hm] at this
      simpa using this
    rw [hx, this, List.append_nil] at q2
    exact q2
  · obtain ⟨x, hx, hxs⟩ := hE.pre
    exact ⟨⟨[], by simp, fun b hb => by cases hb⟩, hE.os, hE.tape, hE.output, hE.size, hE.block⟩
#print axioms peek_at
end Go.Proofs.YtdojnnlhaiennaaGreat.Ae

/- What comes: a contract. Conditions: none. -/
namespace Go.Proofs.YtdojnnlhaiennaaGreat.Cs
open Go Go.Proofs.YtdojnnlhaiennaaGreat.Ae Go.Proofs.YtdojnnlhaiennaaGreat.Fx
open Go.Proofs.YtdojnnlhaiennaaGreat.Md (J Pl Sn)
open Go.Proofs.YtdojnnlhaiennaaGreat.Orb (El RO)
open Go.Proofs.YtdojnnlhaiennaaGreat.Se (Rdg)
open Go.Proofs.YtdojnnlhaiennaaGreat.Qx (Ns)
open Go.Proofs.YtdojnnlhaiennaaGreat.Cr (Frm ScR scanP cellsF)

theorem sav_trunc2 (s : Stp) (L : Nat) (h : 3 ≤ L) : AV.truncL L s.av = s.av := sav_trunc s L h
section
variable (z0 : Cft) (fs : List Frm)
def kdL (i : Nat) : Int := (fs.getD i (0, Cr.eS)).1
def dtL (i : Nat) : ByteArray := (fs.getD i (0, Cr.eS)).2
abbrev hHf (h : Hst) (es : List (MK × AV)) : List AB := hH (cB z0) (kdL fs) (dtL fs) fs.length h.c es h.s
theorem es_trunc {es : List (MK × AV)} {rd : Rds} (h : MapRel es rd) (L : Nat) : ∀ e ∈ es, e.2.trunc L = e.2 := fun e he => noPtr_tr e.2 (h.flat e he)
theorem hear_keep {m0 : List Nat} {w0 : World} (hm : m0.length = 4) {n : Nat} {T T2 : List (Nat × AV)} {h : Hst} {es : List (MK × AV)} (hr : MapRel es h.rd) {X : List AB} {a : Act} {w : World} (hs : At m0 w0 n T (hHf z0 fs h es ++ X) a w) (hT : okT 6 T T2) : At m0 w0 n T2 (hHf z0 fs h es) a w := by
  refine hs.keep (by rw [hm]; exact Nat.le_of_ble_eq_true rfl) (by simp) hT ⟨.inr ⟨rfl, cav_trunc _ _⟩, .inr ⟨rfl, cav_trunc _ _⟩, .inr ⟨rfl, es_trunc hr 6⟩, .inr ⟨rfl, sav_trunc _ _ (Nat.le_of_ble_eq_true rfl)⟩, .inr ⟨rfl, fun j _ => rfl⟩, .inl rfl, trivial⟩
theorem hear_loop {m0 : List Nat} {w0 : World} (hm : m0.length = 4) (hfs : fs.length ≤ 100000) {Q : Exit → Act → World → Prop} (h0 : Hst) {es0 : List (MK × AV)} (hr0 : MapRel es0 h0.rd)
    (hex : ∀ es a w, MapRel es (fs.foldl frmP h0).rd → At m0 w0 79 (hT fs.length fs.length) (hHf z0 fs (fs.foldl frmP h0) es) a w → Q (.exit 0) a w) {a : Act} {w : World} (hA : At m0 w0 79 (hT fs.length 0) (hHf z0 fs h0 es0) a w) :
    (Code.loop hearB).wp Tryz.prog Q a w := by
  refine At.loop (σ := Nat × List (MK × AV) × Hst) (fun x a w => x.1 ≤ fs.length ∧ MapRel x.2.1 x.2.2.rd ∧ (fs.drop x.1).foldl frmP x.2.2 = fs.foldl frmP h0 ∧ At m0 w0 79 (hT fs.length x.1) (hHf z0 fs x.2.2 x.2.1) a w) (fun x => fs.length - x.1) ?_ (0, es0, h0) ⟨Nat.zero_le _, hr0, rfl, hA⟩
  rintro ⟨i, es, h⟩ a w ⟨hi, hr, hf, hA⟩
  simp only at hi hr hf hA
  have hraw := hear_round Se.readS Se.freshP Orb.readO h.c h.s (cB z0) es (kdL fs) (dtL fs) fs.length i
  have hj : hJ (i : Int) = i := by unfold hJ; rw [Int.toNat_natCast]; omega
  by_cases hlt : i < fs.length
  · have hd : fs.drop i = (kdL fs i, dtL fs i) :: fs.drop (i + 1) := by
      rw [List.drop_eq_getElem_cons hlt]
      unfold kdL dtL
      rw [List.getD_eq_getElem?_getD, List.getElem?_eq_getElem hlt]
      rfl
    obtain ⟨es', hr', he⟩ := hFrm_eq (cB z0) (kdL fs) (dtL fs) fs.length i h es hr (kdL fs i) (dtL fs i)
    rw [hj, he] at hraw
    rw [decide_eq_true (by omega : (i : Int) < fs.length), decide_eq_true (by omega : 0 ≤ (i : Int)), Nat.ble_eq_true_of_le (by omega : i + 1 ≤ fs.length), show Nat.beq ((i : Int).toNat * 2 % 2) 0 = true by rw [Int.toNat_natCast, Nat.mul_mod_left]; rfl] at hraw
    refine At.codeKL ok_H 100 [0, 36, 37, 38] 6 hraw hA fun X a w hs => then_normal ⟨(i + 1, es', frmP h (kdL fs i, dtL fs i)), by simp only; omega, by simp only; omega, hr', ?_, ?_⟩
    · rw [← hf, hd]; rfl
    · refine hear_keep z0 fs hm hr' hs ⟨⟨rfl, rfl⟩, ⟨rfl, rfl⟩, ⟨rfl, rfl⟩, ⟨?_, rfl⟩, trivial⟩
      show J (wr .i64 ((i : Int) + 1)) = J ((i + 1 : Nat) : Int)
      rw [Cr.w_of (by omega)]
      rfl
  · have : i = fs.length := by omega
    subst this
    rw [decide_eq_false (by omega : ¬ (fs.length : Int) < fs.length)] at hraw
    rw [List.drop_length] at hf
    have hf' : h = fs.foldl frmP h0 := hf
    subst hf'
    exact At.codeKL ok_H 100 [0, 36, 37, 38] 6 hraw hA fun X a w hs => then_exit (hex es a w hr (hear_keep z0 fs hm hr hs ⟨⟨rfl, rfl⟩, ⟨rfl, rfl⟩, ⟨rfl, rfl⟩, ⟨rfl, rfl⟩, trivial⟩))
end
#print axioms hear_loop
end Go.Proofs.YtdojnnlhaiennaaGreat.Cs

/- What comes: a contract. Conditions: none. -/
namespace Go.Proofs.YtdojnnlhaiennaaGreat.Cs
open Go Go.Proofs.YtdojnnlhaiennaaGreat.Ae Go.Proofs.YtdojnnlhaiennaaGreat.Fx
open Go.Proofs.YtdojnnlhaiennaaGreat.Md (J Pl Sn)
open Go.Proofs.YtdojnnlhaiennaaGreat.Orb (El RO)
open Go.Proofs.YtdojnnlhaiennaaGreat.Se (Rdg)
open Go.Proofs.YtdojnnlhaiennaaGreat.Qx (Ns)
open Go.Proofs.YtdojnnlhaiennaaGreat.Cr (Frm ScR scanP cellsF)

/-! ### A craft and a step, out of their cells -/
def Cft.of : List AV → Option Cft
  | .bool on :: .int .i64 t :: .str lf :: .int .i64 a :: .int .i64 b :: .int .i64 c :: .int .i64 d :: .int .i64 e :: .int .i64 f :: .bool pb :: .int .i64 o1 :: .int .i64 o2 :: .int .i64 o3 :: .int .i64 o4 :: .int .i64 o5 :: .int .i64 o6 :: .int .i64 o7 :: rest =>
    match Sh.takeL (.flag :: Ns 7) (rest.take 8), Sh.takeL (Ns 43) ((rest.drop 8).take 43), rest.drop 51 with
    | some xs, some ys, [.int .i64 k, .int .i64 r, .int .i64 j] => some ⟨on, t, lf, ⟨a, b, c, d, e, f⟩, pb, ⟨o1, o2, o3, o4, o5, o6, o7⟩, rowf xs, rowf ys, k, r, j⟩
    | _, _, _ => none
  | _ => none
theorem split3 {α : Type} (l : List α) (i j : Nat) : l.take i ++ ((l.drop i).take j ++ l.drop (i + j)) = l := by
  rw [← List.drop_drop, List.take_append_drop, List.take_append_drop]
theorem Cft.of_av {l : List AV} {c : Cft} (h : Cft.of l = some c) : l = c.av := by
  unfold Cft.of at h
  split at h
  · rename_i rest
    split at h
    · rename_i xs ys k r j h1 h2 h3
      cases h
      have e1 := Sh.take_rowL h1
      have e2 := Sh.take_rowL h2
      have e3 := split3 rest 8 43
      unfold Cft.av
      simp only [drA, gsA, e1, e2, ← h3]
      rw [e3]
      rfl
    · cases h
  · cases h
def Stp.of : List AV → Option Stp
  | .ptr 0 0 :: .int .i64 t :: .int .i64 g :: .map 2 :: rest =>
    match Sh.takeL (Ns 6) (rest.take 6), Sh.takeL (Ns 6) ((rest.drop 6).take 6), rest.drop 12 with
    | some xs, some ys, [.bool gp, .bool gy, .bool sl, .bool pr, .bool li, .bool bd, .bool ps, .int .i64 o] => some ⟨t, g, rowf xs, rowf ys, ⟨gp, gy, sl, pr, li, bd, ps, o⟩⟩
    | _, _, _ => none
  | _ => none
theorem Stp.of_av {l : List AV} {s : Stp} (h : Stp.of l = some s) : l = s.av := by
  unfold Stp.of at h
  split at h
  · rename_i rest
    split at h
    · rename_i xs ys gp gy sl pr li bd ps o h1 h2 h3
      cases h
      have e1 := Sh.take_rowL h1
      have e2 := Sh.take_rowL h2
      have e3 := split3 rest 6 6
      unfold Stp.av
      simp only [six, e1, e2]
      rw [show (Sn.av ⟨gp, gy, sl, pr, li, bd, ps, o⟩) = rest.drop 12 from h3.symm, e3]
    · cases h
  · cases h

/-! ### Scan, for one caller -/
def scE (em : ByteArray → Bool) : List AV → Bool
  | [.str s] => Nat.ble s.size 90000 && em s
  | _ => false
def scN (lf : ByteArray → ByteArray) (ov : ByteArray → Int) : List AV → Option (AV × List AB)
  | [.str s] => some (.tup [.nils, .str (lf s), J (ov s)], [])
  | _ => none
def scW (fl : ByteArray → List AV) (ln : ByteArray → Nat) (lf : ByteArray → ByteArray) (ov : ByteArray → Int) : List AV → Option (AV × List AB)
  | [.str s] => some (.tup [.own 0 (ln s), .str (lf s), J (ov s)], [.rowz 2 (fl s) 53, .dead])
  | _ => none
def scF (s : ByteArray) : List Frm := (scanP s [] 0).fs
def lfP (s : ByteArray) : ByteArray := (scanP s [] 0).left
def ovP (s : ByteArray) : Int := ((scanP s [] 0).over : Int)
def envHN (em : ByteArray → Bool) (lf : ByteArray → ByteArray) (ov : ByteArray → Int) : Env := [(67, .eff (scE em) (madeF (scN lf ov))), (68, .text)]
def envHW (em : ByteArray → Bool) (fl : ByteArray → List AV) (ln : ByteArray → Nat) (lf : ByteArray → ByteArray) (ov : ByteArray → Int) : Env := [(67, .eff (scE em) (madeF (scW fl ln lf ov))), (68, .text)]
def emP (s : ByteArray) : Bool := (scF s).isEmpty
theorem scN_ok : EffOk Tryz.prog 67 (scE emP) (madeF (scN lfP ovP)) := by
  intro args H v H' hC hF m Args w hA hH
  unfold scE at hC
  split at hC
  · rename_i s
    simp only [Bool.and_eq_true] at hC
    have he : (scanP s [] 0).fs = [] := by simpa [emP, scF] using hC.2
    refine Cr.pscan_con [.str s] H v H' hC.1 ?_ m Args w hA hH
    rw [← hF]
    unfold madeF Cr.scO scN
    simp only [he]
    rfl
  · cases hC
theorem scW_ok : EffOk Tryz.prog 67 (scE fun s => !emP s) (madeF (scW (fun s => cellsF (scF s)) (fun s => (scF s).length) lfP ovP)) := by
  intro args H v H' hC hF m Args w hA hH
  unfold scE at hC
  split at hC
  · rename_i s
    simp only [Bool.and_eq_true] at hC
    refine Cr.pscan_con [.str s] H v H' hC.1 ?_ m Args w hA hH
    rw [← hF]
    unfold madeF Cr.scO scW
    have he : ∃ f l, (scanP s [] 0).fs = f :: l := by
      have := hC.2
      simp only [emP, scF] at this
      cases hs : (scanP s [] 0).fs with
      | nil => rw [hs] at this; cases this
      | cons f l => exact ⟨f, l, rfl⟩
    obtain ⟨f, l, he⟩ := he
    simp only [scF, lfP, ovP, he]
    rfl
  · cases hC
theorem ok_HN : EnvOk Tryz.prog (envHN emP lfP ovP) := EnvOk.e (EnvOk.t ok_nil (enter_of Tryz.func68 (by kernel_rfl) rfl)) (enter_of Tryz.func67 (by kernel_rfl) rfl) scN_ok
theorem ok_HW : EnvOk Tryz.prog (envHW (fun s => !emP s) (fun s => cellsF (scF s)) (fun s => (scF s).length) lfP ovP) := EnvOk.e (EnvOk.t ok_nil (enter_of Tryz.func68 (by kernel_rfl) rfl)) (enter_of Tryz.func67 (by kernel_rfl) rfl) scW_ok
noncomputable def hB : Code := bodyOf Tryz.prog 31
section
variable (em : ByteArray → Bool) (fl : ByteArray → List AV) (ln : ByteArray → Nat) (lf : ByteArray → ByteArray) (ov : ByteArray → Int) (c z0 : Cft) (s : Stp) (b : ByteArray) (M : AB)
abbrev h4 (c : Cft) : List AB := [cB c, cB z0, M, sB s]
theorem hear_0N : acode Tryz.prog (envHN em lf ov) 100 79 (Code.nav [0] hB) [(0, .ptr 3 0), (1, .str b)] (h4 z0 s M c) (keepK [0, 4, 5, 6]) =
    bif decide (c.left.size + b.size ≤ 4611686018427387904) then bif (Nat.ble (c.left ++ b).size 90000 && em (c.left ++ b)) then some (.normal, [(0, .ptr 3 0), (4, .nils), (5, .str (lf (c.left ++ b))), (6, J (ov (c.left ++ b)))], h4 z0 s M c) else none else none := by kernel_rfl
theorem hear_0W : acode Tryz.prog (envHW em fl ln lf ov) 100 79 (Code.nav [0] hB) [(0, .ptr 3 0), (1, .str b)] (h4 z0 s M c) (keepK [0, 4, 5, 6]) =
    bif decide (c.left.size + b.size ≤ 4611686018427387904) then bif (Nat.ble (c.left ++ b).size 90000 && em (c.left ++ b)) then some (.normal, [(0, .ptr 3 0), (4, .own 4 (ln (c.left ++ b))), (5, .str (lf (c.left ++ b))), (6, J (ov (c.left ++ b)))], h4 z0 s M c ++ [.rowz 2 (fl (c.left ++ b)) 53, .dead]) else none else none := by kernel_rfl
theorem hear_1 (lv : AV) (l : ByteArray) (o : Int) (X : List AB) : acode Tryz.prog (envHN em lf ov) 100 79 (Code.nav [1, 0] hB) [(0, .ptr 3 0), (4, lv), (5, .str l), (6, J o)] (h4 z0 s M c ++ X) (keepK [0, 4, 6]) =
    some (.normal, [(0, .ptr 3 0), (4, lv), (6, J o)], h4 z0 s M { c with left := l } ++ X) := by kernel_rfl
theorem hear_2 (lv : AV) (o : Int) (X : List AB) : acode Tryz.prog (envHN em lf ov) 100 79 (Code.nav [1, 1, 0] hB) [(0, .ptr 3 0), (4, lv), (6, J o)] (h4 z0 s M c ++ X) (keepK [0, 4]) =
    bif decide (o > 0) then some (.normal, [(0, .ptr 3 0), (4, lv)], h4 z0 s M c.reject ++ X) else some (.normal, [(0, .ptr 3 0), (4, lv)], h4 z0 s M c ++ X) := by kernel_rfl
theorem hear_4N : acode Tryz.prog (envHN em lf ov) 100 79 (Code.nav [1, 1, 1] hB) [(0, .ptr 3 0), (4, .nils)] (h4 z0 s M c) (keepK []) = some (.normal, [], h4 z0 s M c) := by kernel_rfl
theorem hear_4W (n : Nat) (X : List AB) : acode Tryz.prog (envHN em lf ov) 100 79 (Code.nav [1, 1, 1, 0] hB) [(0, .ptr 3 0), (4, .own 4 n)] (h4 z0 s M c ++ X) (keepK [0, 36, 37, 38]) = some (.normal, hT n 0, h4 z0 s M c ++ X) := by kernel_rfl
end

/-! ### The contract -/
def rdg (rd : Rds) (k : Int) : Rdg := (rd k).getD Rdg.zero
/-- The five numbers of a reading. -/
def Rdg.num (r : Rdg) : Nat → Int
  | 0 => r.k
  | 1 => r.t
  | 2 => r.v.x
  | 3 => r.v.y
  | _ => r.v.z
def rdB (rd : Rds) : AB := .mapN 5 (fun k => Rdg.num (rdg rd k)) (fun k => (rd k).isSome)
theorem tell_map {es : List (MK × AV)} {rd : Rds} (h : MapRel es rd) {m : List Nat} {o : Obj} (hR : RB m (.map false es) o) : RB m (rdB rd) o := by
  obtain ⟨ess, clock, es', h1, h2, h3, h4, h5⟩ := hR
  refine ⟨es, ess, clock, es', h1, h2, h3, h4, h5 rfl, h.flat, fun k => ⟨fun hk => ?_, fun hk => ?_⟩⟩
  · obtain ⟨r, hr⟩ := Option.isSome_iff_exists.1 hk
    have := h.some_ k r hr
    have e : rdg rd k = r := by unfold rdg; rw [hr]; rfl
    show ((k, 0), AV.agg (numL 5 (Rdg.num (rdg rd k)))) ∈ es
    rw [e]
    exact this
  · exact h.none_ k (by simpa using hk)
def hearP (c : Cft) (s : Stp) (b : ByteArray) : Hst :=
  (scF (c.left ++ b)).foldl frmP ⟨if ovP (c.left ++ b) > 0 then { c with left := lfP (c.left ++ b) }.reject else { c with left := lfP (c.left ++ b) }, s, fun _ => none⟩
def fitP (c : Cft) (b : ByteArray) : Bool := Nat.ble (c.left.size + b.size) 90000
def hearF (ft : Cft → ByteArray → Bool) (hp : Cft → Stp → ByteArray → Hst) (args : List AV) (H : List AB) : Option (AV × List AB) :=
  match args with
  | [.ptr 3 0, .str b] =>
    match H with
    | [.cells l t, .cells z t2, .map false [], .cells l' t'] =>
      match Cft.of l, Cft.of z, Stp.of l' with
      | some c, some z, some s =>
        bif Nat.beq t 44 && Nat.beq t2 44 && Nat.beq t' 104 && ft c b then some (.tup [], [cB (hp c s b).c, cB z, rdB (hp c s b).rd, sB (hp c s b).s]) else none
      | _, _, _ => none
    | _ => none
  | _ => none
theorem fit_size {c : Cft} {b : ByteArray} (h : fitP c b = true) : c.left.size + b.size ≤ 90000 := Nat.le_of_ble_eq_true h
theorem take4 {m0 : List Nat} {w0 : World} (hm : m0.length = 4) {n : Nat} {T : List (Nat × AV)} {c z0 : Cft} {s : Stp} {es : List (MK × AV)} {rd : Rds} (hr : MapRel es rd) {X : List AB} {a : Act} {w : World} (hs : At m0 w0 n T (cB c :: cB z0 :: .map false es :: sB s :: X) a w) :
    At m0 w0 n [] [cB c, cB z0, rdB rd, sB s] a w := by
  have h1 : At m0 w0 n [] [cB c, cB z0, .map false es, sB s] a w := hs.keep (by rw [hm]; exact Nat.le_refl _) (by simp) trivial
    ⟨.inr ⟨rfl, cav_trunc _ _⟩, .inr ⟨rfl, cav_trunc _ _⟩, .inr ⟨rfl, es_trunc hr 4⟩, .inr ⟨rfl, sav_trunc _ _ (Nat.le_of_ble_eq_true rfl)⟩, trivial⟩
  exact h1.tell 2 (.map false es) (rdB rd) rfl rfl (fun m o h => tell_map hr h) (fun _ _ _ => trivial)
theorem tell_tab {fs : List Frm} {m : List Nat} {o : Obj} (hR : RB m (.rowz 2 (cellsF fs) 53) o) : RB m (.tab (fun i => [J (kdL fs i), .str (dtL fs i)]) 2 fs.length 53) o := by
  obtain ⟨Vs, rfl, h0, h1⟩ := hR
  rw [Cr.cellsF_len] at h0 h1
  refine ⟨Vs, (0, 0), rfl, fun i hi => ⟨by omega, rfl, ?_⟩⟩
  have h2 := RL_take 2 (RL_drop (i * 2) h1)
  rw [drop_take_take Vs (by omega)] at h2
  have e : ∀ (fs : List Frm) (i : Nat), i < fs.length → ((cellsF fs).drop (i * 2)).take 2 = [J (kdL fs i), .str (dtL fs i)] := by
    intro fs
    induction fs with
    | nil => intro i hi; exact absurd hi (Nat.not_lt_zero _)
    | cons f l ih =>
      intro i hi
      cases i with
      | zero => rfl
      | succ i =>
        have := ih i (by simpa using hi)
        rw [Nat.succ_mul]
        exact this
  rw [e fs i hi] at h2
  exact h2
theorem scan_len : ∀ (t : ByteArray) (fs : List Frm) (o : Nat), (scanP t fs o).fs.length ≤ fs.length + t.size := by
  have key : ∀ (n : Nat) (t : ByteArray) (fs : List Frm) (o : Nat), t.size ≤ n → (scanP t fs o).fs.length ≤ fs.length + t.size := by
    intro n
    induction n with
    | zero =>
      intro t fs o h
      rw [scanP, if_pos (by omega)]
      exact Nat.le_add_right _ _
    | succ n ih =>
      intro t fs o h
      rw [scanP]
      by_cases h0 : t.size = 0
      · rw [if_pos h0]; exact Nat.le_add_right _ _
      rw [if_neg h0]
      have h1 := Cr.tail_size t 1
      have hf : 5 ≤ Cr.fln t := by unfold Cr.fln; omega
      have h2 := Cr.tail_size t (Cr.fln t)
      have g1 := ih (Cr.tailB t 1) fs (o + 1) (by omega)
      have g2 := ih (Cr.tailB t (Cr.fln t)) (fs ++ [Cr.frm (t.extract 0 (Cr.fln t))]) o (by omega)
      rw [List.length_append, List.length_cons, List.length_nil] at g2
      split
      · omega
      split
      · exact Nat.le_add_right _ _
      split
      · omega
      split
      · exact Nat.le_add_right _ _
      split
      · omega
      · omega
  exact fun t fs o => key t.size t fs o (Nat.le_refl _)
theorem hear_con : EffOk Tryz.prog 31 anyArgs (hearF fitP hearP) := by
  obtain ⟨fn, hfn, hbody, hnt, hres, _⟩ := hasBody_ok (P := Tryz.prog) (f := 31) (nt := 79) (res := []) (by kernel_rfl)
  intro args H v H' hC hF m Args W hA hH
  clear hC
  unfold hearF at hF
  split at hF
  · rename_i b
    split at hF
    · rename_i l t z t2 l' t'
      split at hF
      · rename_i c z0 s hc hz hs
        have e1 := Cft.of_av hc
        have e2 := Cft.of_av hz
        have e3 := Stp.of_av hs
        cases hb : (Nat.beq t 44 && Nat.beq t2 44 && Nat.beq t' 104 && fitP c b) with
        | false => rw [hb] at hF; cases hF
        | true =>
          rw [hb] at hF
          simp only [cond_true, Option.some.injEq, Prod.mk.injEq] at hF
          obtain ⟨rfl, rfl⟩ := hF
          simp only [Bool.and_eq_true] at hb
          obtain ⟨⟨⟨b1, b2⟩, b3⟩, b4⟩ := hb
          obtain rfl := Nat.eq_of_beq_eq_true b1
          obtain rfl := Nat.eq_of_beq_eq_true b2
          obtain rfl := Nat.eq_of_beq_eq_true b3
          subst e1; subst e2; subst e3
          have hm : m.length = 4 := hH.len
          have hfit := fit_size b4
          have hsz : (c.left ++ b).size = c.left.size + b.size := ByteArray.size_append
          refine calls_at (m := m) hfn hbody (by rw [hnt]; exact Nat.le_of_ble_eq_true rfl) hA hH fun a h0 => ?_
          rw [hnt] at h0 ⊢
          rw [hres]
          have h0 : At m W 79 [(0, .ptr 3 0), (1, .str b)] (h4 z0 s (.map false []) c) a W := h0
          have fin : ∀ {e : Exit} {a' : Act} {w' : World} {T : List (Nat × AV)} {X : List AB} {es : List (MK × AV)}, e = .normal ∨ e = .ret → MapRel es (hearP c s b).rd → At m W 79 T (cB (hearP c s b).c :: cB z0 :: .map false es :: sB (hearP c s b).s :: X) a' w' →
              (e = .normal ∨ e = .ret) ∧ ∃ T' H' vs, At m W 79 T' H' a' w' ∧ ares Tryz.prog T' H' [] = some vs ∧ ∀ V m', R m' (tupOf vs) V → HR m' H' w' → Ext m W m' w' → ∃ V_1 m'_1, Ending.returned V = .returned V_1 ∧ R m'_1 (.tup []) V_1 ∧ HR m'_1 [cB (hearP c s b).c, cB z0, rdB (hearP c s b).rd, sB (hearP c s b).s] w' ∧ Ext m W m'_1 w' := by
            intro e a' w' T X es he hr hs
            exact ⟨he, [], _, [], take4 hm hr hs, rfl, fun V m' h1 h2 h3 => ⟨V, m', rfl, h1, h2, h3⟩⟩
          refine wp_as hB rfl ?_
          by_cases hem : emP (c.left ++ b) = true
          · have hfs : scF (c.left ++ b) = [] := by simpa [emP] using hem
            have r0 := hear_0N emP lfP ovP c z0 s b (.map false [])
            rw [decide_eq_true (by omega : c.left.size + b.size ≤ 4611686018427387904), hem, Nat.ble_eq_true_of_le (by omega : (c.left ++ b).size ≤ 90000)] at r0
            refine wp_seqN (by kernel_rfl) (At.codeK ok_HN 100 [0, 4, 5, 6] r0 h0 fun a w hs => then_normal ?_)
            refine wp_seqN (by kernel_rfl) (wp_as (Code.nav [1, 0] hB) (by kernel_rfl) (At.codeK ok_HN 100 [0, 4, 6] (hear_1 emP lfP ovP c z0 s (.map false []) .nils (lfP (c.left ++ b)) (ovP (c.left ++ b)) []) hs fun a w hs => then_normal ?_))
            have r2 := hear_2 emP lfP ovP { c with left := lfP (c.left ++ b) } z0 s (.map false []) .nils (ovP (c.left ++ b)) []
            have last : ∀ (c' : Cft) a w', hearP c s b = ⟨c', s, fun _ => none⟩ → At m W 79 [(0, .ptr 3 0), (4, .nils)] (h4 z0 s (.map false []) c') a w' → (Code.nav [1, 1, 1] hB).wp Tryz.prog (fun e a' w' => (e = .normal ∨ e = .ret) ∧ ∃ T' H' vs, At m W 79 T' H' a' w' ∧ ares Tryz.prog T' H' [] = some vs ∧ ∀ V m', R m' (tupOf vs) V → HR m' H' w' → Ext m W m' w' → ∃ V_1 m'_1, Ending.returned V = .returned V_1 ∧ R m'_1 (.tup []) V_1 ∧ HR m'_1 [cB (hearP c s b).c, cB z0, rdB (hearP c s b).rd, sB (hearP c s b).s] w' ∧ Ext m W m'_1 w') a w' := by
              intro c' a w' he hs
              refine At.codeK ok_HN 100 [] (hear_4N emP lfP ovP c' z0 s (.map false [])) hs fun a w hs => ?_
              have e1 : (hearP c s b).c = c' := by rw [he]
              have e2 : (hearP c s b).s = s := by rw [he]
              have e3 : (hearP c s b).rd = fun _ => none := by rw [he]
              refine fin (T := []) (X := []) (es := []) (.inl rfl) (by rw [e3]; exact MapRel.nil) ?_
              rw [e1, e2]
              exact hs
            by_cases ho : ovP (c.left ++ b) > 0
            · rw [decide_eq_true ho, bt] at r2
              refine wp_seqN (by kernel_rfl) (wp_as (Code.nav [1, 1, 0] hB) (by kernel_rfl) (At.codeK ok_HN 100 [0, 4] r2 hs fun a w hs => then_normal ?_))
              refine wp_as (Code.nav [1, 1, 1] hB) (by kernel_rfl) (last _ a w ?_ hs)
              unfold hearP
              rw [hfs, if_pos ho]
              rfl
            · rw [decide_eq_false ho, bf] at r2
              refine wp_seqN (by kernel_rfl) (wp_as (Code.nav [1, 1, 0] hB) (by kernel_rfl) (At.codeK ok_HN 100 [0, 4] r2 hs fun a w hs => then_normal ?_))
              refine wp_as (Code.nav [1, 1, 1] hB) (by kernel_rfl) (last _ a w ?_ hs)
              unfold hearP
              rw [hfs, if_neg ho]
              rfl
          · have hem : (!emP (c.left ++ b)) = true := by simpa using hem
            have r0 := hear_0W (fun s => !emP s) (fun s => cellsF (scF s)) (fun s => (scF s).length) lfP ovP c z0 s b (.map false [])
            rw [decide_eq_true (by omega : c.left.size + b.size ≤ 4611686018427387904), hem, Nat.ble_eq_true_of_le (by omega : (c.left ++ b).size ≤ 90000)] at r0
            refine wp_seqN (by kernel_rfl) (At.codeK ok_HW 100 [0, 4, 5, 6] r0 h0 fun a w hs => then_normal ?_)
            have hs := hs.tell 4 (.rowz 2 (cellsF (scF (c.left ++ b))) 53) (.tab (fun i => [J (kdL (scF (c.left ++ b)) i), .str (dtL (scF (c.left ++ b)) i)]) 2 (scF (c.left ++ b)).length 53) rfl rfl (fun m o h => tell_tab h) (fun _ _ _ => trivial)
            refine wp_seqN (by kernel_rfl) (wp_as (Code.nav [1, 0] hB) (by kernel_rfl) (At.codeK ok_HN 100 [0, 4, 6] (hear_1 emP lfP ovP c z0 s (.map false []) _ (lfP (c.left ++ b)) (ovP (c.left ++ b)) [_, .dead]) hs fun a w hs => then_normal ?_))
            have r2 := hear_2 emP lfP ovP { c with left := lfP (c.left ++ b) } z0 s (.map false []) (.own 4 (scF (c.left ++ b)).length) (ovP (c.left ++ b)) [.tab (fun i => [J (kdL (scF (c.left ++ b)) i), .str (dtL (scF (c.left ++ b)) i)]) 2 (scF (c.left ++ b)).length 53, .dead]
            have hlen : (scF (c.left ++ b)).length ≤ 100000 := by
              have := scan_len (c.left ++ b) [] 0
              unfold scF
              simp only [List.length_nil] at this
              omega
            have last : ∀ (c' : Cft) a w', hearP c s b = (scF (c.left ++ b)).foldl frmP ⟨c', s, fun _ => none⟩ → At m W 79 [(0, .ptr 3 0), (4, .own 4 (scF (c.left ++ b)).length)] (h4 z0 s (.map false []) c' ++ [.tab (fun i => [J (kdL (scF (c.left ++ b)) i), .str (dtL (scF (c.left ++ b)) i)]) 2 (scF (c.left ++ b)).length 53, .dead]) a w' → (Code.nav [1, 1, 1] hB).wp Tryz.prog (fun e a' w' => (e = .normal ∨ e = .ret) ∧ ∃ T' H' vs, At m W 79 T' H' a' w' ∧ ares Tryz.prog T' H' [] = some vs ∧ ∀ V m', R m' (tupOf vs) V → HR m' H' w' → Ext m W m' w' → ∃ V_1 m'_1, Ending.returned V = .returned V_1 ∧ R m'_1 (.tup []) V_1 ∧ HR m'_1 [cB (hearP c s b).c, cB z0, rdB (hearP c s b).rd, sB (hearP c s b).s] w' ∧ Ext m W m'_1 w') a w' := by
              intro c' a w' he hs
              refine wp_seqN (by kernel_rfl) (wp_as (Code.nav [1, 1, 1, 0] hB) (by kernel_rfl) (At.codeK ok_HN 100 [0, 36, 37, 38] (hear_4W emP lfP ovP c' z0 s (.map false []) _ _) hs fun a w hs => then_normal ?_))
              refine wp_blockN 0 (by kernel_rfl) (wp_as (.loop hearB) (by kernel_rfl) ?_)
              refine hear_loop z0 (scF (c.left ++ b)) hm hlen ⟨c', s, fun _ => none⟩ MapRel.nil (fun es a w hr hs => inBlock_exit ?_) hs
              rw [← he] at hr hs
              exact fin (.inl rfl) hr hs
            by_cases ho : ovP (c.left ++ b) > 0
            · rw [decide_eq_true ho, bt] at r2
              refine wp_seqN (by kernel_rfl) (wp_as (Code.nav [1, 1, 0] hB) (by kernel_rfl) (At.codeK ok_HN 100 [0, 4] r2 hs fun a w hs => then_normal ?_))
              refine wp_as (Code.nav [1, 1, 1] hB) (by kernel_rfl) (last _ a w ?_ hs)
              unfold hearP
              rw [if_pos ho]
            · rw [decide_eq_false ho, bf] at r2
              refine wp_seqN (by kernel_rfl) (wp_as (Code.nav [1, 1, 0] hB) (by kernel_rfl) (At.codeK ok_HN 100 [0, 4] r2 hs fun a w hs => then_normal ?_))
              refine wp_as (Code.nav [1, 1, 1] hB) (by kernel_rfl) (last _ a w ?_ hs)
              unfold hearP
              rw [if_neg ho]
      · cases hF
    · cases hF
  · cases hF
#print axioms hear_con
end Go.Proofs.YtdojnnlhaiennaaGreat.Cs

/- The program's Wrap, of the frame of what is told: a contract. Conditions: none. -/
namespace Go.Proofs.YtdojnnlhaiennaaGreat.Cr
open Go Go.Proofs.YtdojnnlhaiennaaGreat.Ae Go.Proofs.YtdojnnlhaiennaaGreat.Fx

def sumV (cr : ByteArray → Int) : List AV → Option AV
  | [.str s] => some (.int .u16 (cr s))
  | _ => none
def envWr (cr : ByteArray → Int) : Env := [(164, .pure sumC (sumV cr))]
theorem ok_Wr : EnvOk Tryz.prog (envWr crcI) := by
  refine EnvOk.p ok_nil (enter_at (nt := 27) (res := [.tmp 2]) (by kernel_rfl)) ?_
  intro args v hC hv
  unfold sumV at hv
  split at hv
  · rename_i s
    cases hv
    exact sumG_of psum_con [.str s] _ hC rfl
  · cases hv

def tellL (g : Nat → Int) : List Int := wr .u8 32 :: wr .u8 26 :: (List.range 26).map g
def wrF (cr : ByteArray → Int) (g : Nat → Int) : ByteArray := strOf (165 :: (tellL g ++ [wr .u8 (cr (strOf (tellL g)) / p2 8), wr .u8 (cr (strOf (tellL g)))]))
theorem wrap_raw (cr : ByteArray → Int) (s : ByteArray) (g : Nat → Int) : acall Tryz.prog (envWr cr) 200 92 [.agg [.int .i64 32, .strG s 26 g]] [] okK = some (.tup [.str (wrF cr g), .bool true]) := by kernel_rfl
def wr0L : List Int := [wr .u8 0, wr .u8 0]
def wr0F (cr : ByteArray → Int) : ByteArray := strOf (165 :: (wr0L ++ [wr .u8 (cr (strOf wr0L) / p2 8), wr .u8 (cr (strOf wr0L))]))
theorem wrap_raw0 (cr : ByteArray → Int) (s : ByteArray) (g : Nat → Int) : acall Tryz.prog (envWr cr) 200 92 [.agg [.int .i64 0, .strG s 0 g]] [] okK = some (.tup [.str (wr0F cr), .bool true]) := by kernel_rfl
def isTell (k : Int) (s : ByteArray) : Bool := (k == 32 && Nat.beq s.size 26) || (k == 0 && Nat.beq s.size 0)
def wrC (tk : Int → ByteArray → Bool) : List AV → Bool
  | [.agg [.int .i64 k, .str s]] => tk k s
  | _ => false
def wrV (wf : ByteArray → ByteArray) : List AV → Option AV
  | [.agg [.int .i64 _, .str s]] => some (.tup [.str (wf s), .bool true])
  | _ => none
def wrapB26 (s : ByteArray) : ByteArray := wrF crcI (byteI s)
def wrapT (s : ByteArray) : ByteArray := if s.size = 26 then wrapB26 s else wr0F crcI
theorem wrap_con : PureOk Tryz.prog 92 (wrC isTell) (wrV wrapT) := by
  refine pure_of' ok_Wr 200 _ _ _ fun args v hC hv => ?_
  unfold wrV at hv
  split at hv
  · rename_i k s
    cases hv
    have hC : isTell k s = true := hC
    unfold isTell at hC
    simp only [Bool.or_eq_true, Bool.and_eq_true, beq_iff_eq] at hC
    have told : ∀ (n : Nat), s.size = n → ∀ (m : List Nat) (Vs : List Value), RL m [.agg [.int .i64 k, .str s]] Vs → RL m [.agg [.int .i64 k, .strG s n (byteI s)]] Vs := fun n hn m Vs h => by
      obtain ⟨V, Vs', rfl, h1, h2⟩ := RL_cons.1 h
      refine RL.cons ?_ h2
      simp only [R, RL] at h1 ⊢
      obtain ⟨Ws, e1, W1, Ws1, e2, e3, W2, Ws2, e4, e5, e6⟩ := h1
      exact ⟨Ws, e1, W1, Ws1, e2, e3, W2, Ws2, e4, ⟨e5, hn, fun i _ => rfl⟩, e6⟩
    rcases hC with ⟨rfl, h26⟩ | ⟨rfl, h0⟩
    · have h26 := Nat.eq_of_beq_eq_true h26
      refine ⟨rfl, [.agg [.int .i64 32, .strG s 26 (byteI s)]], rfl, told 26 h26, ?_⟩
      have e : wrapT s = wrF crcI (byteI s) := if_pos h26
      rw [e]
      exact wrap_raw crcI s (byteI s)
    · have h0 := Nat.eq_of_beq_eq_true h0
      refine ⟨rfl, [.agg [.int .i64 0, .strG s 0 (byteI s)]], rfl, told 0 h0, ?_⟩
      have e : wrapT s = wr0F crcI := if_neg (by omega)
      rw [e]
      exact wrap_raw0 crcI s (byteI s)
  · cases hv
theorem en_wrap : EnterOk Tryz.prog 92 := enter_of Tryz.func92 (by kernel_rfl) rfl

/-! ### It is opened as that -/
theorem strOf_l (ns : List Int) : (strOf ns).data.toList = ns.map fun n => UInt8.ofNat n.toNat := by
  unfold strOf
  simp
theorem strOf_byte (ns : List Int) (i : Nat) (z : Int) (h : ns[i]? = some z) (hz : 0 ≤ z ∧ z < 256) : byteI (strOf ns) i = z := by
  rw [byteI_at (strOf ns) i (UInt8.ofNat z.toNat) (by rw [strOf_l, List.getElem?_map, h]; rfl), UInt8.toNat_ofNat']
  omega
theorem strOf_size (ns : List Int) : (strOf ns).size = ns.length := by
  have : (strOf ns).data.toList.length = (strOf ns).size := by rw [Array.length_toList]; rfl
  rw [← this, strOf_l, List.length_map]
theorem strOf_ext (ns : List Int) (i j : Nat) : (strOf ns).extract i j = strOf ((ns.drop i).take (j - i)) := by
  refine ba_ext ?_
  rw [ext_l, strOf_l, strOf_l, List.map_take, List.map_drop]
theorem strOf_bytes (s : ByteArray) : strOf ((List.range s.size).map (byteI s)) = s := by
  refine ba_ext ?_
  rw [strOf_l, List.map_map]
  have hl : s.data.toList.length = s.size := by rw [Array.length_toList]; rfl
  refine List.ext_getElem (by simp [hl]) (fun i h1 h2 => ?_)
  simp only [List.getElem_map, List.getElem_range, Function.comp]
  have hi : i < s.size := by rw [← hl]; exact h2
  obtain ⟨b, h3, h4⟩ := byteI_l s i hi
  rw [h4]
  rw [List.getElem?_eq_getElem h2] at h3
  cases h3
  show UInt8.ofNat ((s.data.toList[i].toNat : Int)).toNat = _
  simp
theorem crcI_lt (s : ByteArray) : 0 ≤ crcI s ∧ crcI s < 65536 := by rw [crcI_l]; exact crcL_lt _
theorem open_wrap (s : ByteArray) (h : s.size = 26) : openV (wrapB26 s) = .tup [.agg [.int .i64 32, .str s], .bool true] := by
  have hc := crcI_lt (strOf (tellL (byteI s)))
  generalize hcr : crcI (strOf (tellL (byteI s))) = c at hc
  have hF : wrapB26 s = strOf (165 :: (tellL (byteI s) ++ [wr .u8 (c / p2 8), wr .u8 c])) := by unfold wrapB26 wrF; rw [hcr]
  have hlen : (tellL (byteI s)).length = 28 := by unfold tellL; simp
  have hsz : (wrapB26 s).size = 31 := by rw [hF, strOf_size]; simp [hlen]
  have hx : (wrapB26 s).extract 1 29 = strOf (tellL (byteI s)) := by
    rw [hF, strOf_ext, List.drop_succ_cons, List.drop_zero, List.take_append_of_le_length (by omega), List.take_of_length_le (by omega)]
  have hd : (wrapB26 s).extract 3 29 = s := by
    rw [hF, strOf_ext, List.drop_succ_cons]
    have : ((tellL (byteI s) ++ [wr .u8 (c / p2 8), wr .u8 c]).drop 2).take (29 - 3) = (List.range 26).map (byteI s) := by
      unfold tellL
      rw [List.cons_append, List.cons_append, List.drop_succ_cons, List.drop_succ_cons, List.drop_zero, List.take_append_of_le_length (by simp), List.take_of_length_le (by simp)]
    rw [this, ← h]
    exact strOf_bytes s
  have w1 : wr .u8 (c / p2 8) = c / 256 := by
    rw [show p2 8 = 256 from rfl]
    show c / 256 % 256 = _
    omega
  have w2 : wr .u8 c = c % 256 := rfl
  have g0 : byteI (wrapB26 s) 0 = 165 := by rw [hF]; exact strOf_byte _ 0 165 rfl (by omega)
  have g1 : byteI (wrapB26 s) 1 = 32 := by rw [hF]; exact strOf_byte _ 1 32 rfl (by omega)
  have g2 : byteI (wrapB26 s) 2 = 26 := by rw [hF]; exact strOf_byte _ 2 26 rfl (by omega)
  have g3 : byteI (wrapB26 s) 29 = c / 256 := by
    rw [hF]
    refine strOf_byte _ 29 _ ?_ (by omega)
    rw [List.getElem?_cons_succ, List.getElem?_append_right (by omega), hlen, w1]
    rfl
  have g4 : byteI (wrapB26 s) 30 = c % 256 := by
    rw [hF]
    refine strOf_byte _ 30 _ ?_ (by omega)
    rw [List.getElem?_cons_succ, List.getElem?_append_right (by omega), hlen, w2]
    rfl
  have ho : opens (wrapB26 s) = true := by
    refine decide_eq_true ⟨by omega, g0, by rw [g2, hsz]; rfl, by omega, ?_⟩
    rw [hsz]
    show crcI ((wrapB26 s).extract 1 29) = byteI (wrapB26 s) 29 * 256 + byteI (wrapB26 s) 30
    rw [hx, hcr, g3, g4]
    omega
  unfold openV
  rw [ho, hsz, g1]
  show (bif true then AV.tup [.agg [.int .i64 32, .str ((wrapB26 s).extract 3 29)], .bool true] else noFr) = _
  rw [hd, bt]
#print axioms open_wrap
end Go.Proofs.YtdojnnlhaiennaaGreat.Cr

/- A look at the sky, the filter, the plan, what is told: the functions that are called. Conditions: none. -/
namespace Go.Proofs.YtdojnnlhaiennaaGreat.Cs
open Go Go.Proofs.YtdojnnlhaiennaaGreat.Ae Go.Proofs.YtdojnnlhaiennaaGreat.Fx
open Go.Proofs.YtdojnnlhaiennaaGreat.Md (J Pl Sn)
open Go.Proofs.YtdojnnlhaiennaaGreat.Orb (El RO)
open Go.Proofs.YtdojnnlhaiennaaGreat.Se (Rdg)
open Go.Proofs.YtdojnnlhaiennaaGreat.Ve (V3)
open Go.Proofs.YtdojnnlhaiennaaGreat.Qx (Ns)

abbrev V : Sh := Qx.V
abbrev FT : TypeId := 112
def envLk (nr : Int → Int → Int → Bool → Int × Bool) (pl : El → Int → Bool → V3 × Bool) (di : Int → Bool → V3 × Bool) (sk : V3 → Int → Bool → V3 × Bool) (sh : V3 → V3 → Bool → Bool × Bool) (ap : QF) : Env :=
  [(77, .flow FT (Ve.nrmF nr)), (78, .flow FT (Orb.plcF pl)), (79, .flow FT (Su.tickF di)), (80, .flow FT (Fd.vtF sk)), (81, .flow FT (Su.boolF sh)), (82, .flow FT (shF [V, V] .flag ap))]
noncomputable def envFi (mv me sp : QF) : Env :=
  [(83, .flow FT (shF [Qx.G43, Qx.V, Qx.N1] Qx.G43 mv)), (84, .flow FT (shF [Qx.G43, Qx.V2, Qx.V2] (.tup [Qx.G43, Qx.N1, .flag]) me)), (85, .flow FT (shF [Qx.G43] Qx.N1 sp))]
noncomputable def envPn (om : Int → Bool) (nx : Pl → Sn → Pl) (at_ : QF) (st : QP) : Env :=
  [(86, .pure (Md.nextC om) (Md.nextF nx)), (88, .flow FT (shF [Qx.V2, Qx.V2] Qx.Qs at_)), (87, .pure anyArgs (shP [Qx.Qs] Qx.G43 st))]
noncomputable def envTl (dp : QF) (cn : Int → Int → Int → Int → Int → Int → Int → Te.Seven) (tw : Te.Tell → Te.Fr) (tk : Int → ByteArray → Bool) (wf : ByteArray → ByteArray) : Env :=
  [(89, .flow FT (shF [.agg (.flag :: Ns 7)] Qx.V dp)), (90, .pure anyArgs (Te.countF cn)), (91, .pure anyArgs (Te.writeF tw)), (92, .pure (Cr.wrC tk) (Cr.wrV wf))]
end Go.Proofs.YtdojnnlhaiennaaGreat.Cs

/- A look at the sky: a contract. Conditions: none. -/
namespace Go.Proofs.YtdojnnlhaiennaaGreat.Cs
open Go Go.Proofs.YtdojnnlhaiennaaGreat.Ae Go.Proofs.YtdojnnlhaiennaaGreat.Fx
open Go.Proofs.YtdojnnlhaiennaaGreat.Md (J Pl Sn)
open Go.Proofs.YtdojnnlhaiennaaGreat.Orb (El RO)
open Go.Proofs.YtdojnnlhaiennaaGreat.Se (Rdg)
open Go.Proofs.YtdojnnlhaiennaaGreat.Ve (V3)
open Go.Proofs.YtdojnnlhaiennaaGreat.Qx (Ns)

/-- Two directions, as six numbers. -/
def six2 (a b : V3) : Nat → Int
  | 0 => a.x
  | 1 => a.y
  | 2 => a.z
  | 3 => b.x
  | 4 => b.y
  | _ => b.z
/-- A reading's direction, if it is there. -/
def rvec (G : Int → Nat → Int) (P : Int → Bool) (k : Int) : V3 := ⟨bif P k then G k 2 else 0, bif P k then G k 3 else 0, bif P k then G k 4 else 0⟩
def apX (a b : V3) : List Int := (Sh.takeL [V, V] [a.av, b.av]).getD []
section
variable (nr : Int → Int → Int → Bool → Int × Bool) (pl : El → Int → Bool → V3 × Bool) (di : Int → Bool → V3 × Bool) (sk : V3 → Int → Bool → V3 × Bool) (sh : V3 → V3 → Bool → Bool × Bool) (ap : QF) (placed : Bool) (el : El) (s : Stp) (G : Int → Nat → Int) (P : Int → Bool)
def lkSlow : Bool := decide ((nr (rvec G P 1).x (rvec G P 1).y (rvec G P 1).z false).1 ≤ 54975581388)
def lkPlace : V3 × Bool := pl el s.tick false
def lkSun : V3 × Bool := di s.tick (lkPlace pl el s).2
def lkFld : V3 × Bool := sk (lkPlace pl el s).1 s.tick (lkSun pl di el s).2
def lkSn (sl : Bool) : Sn := { s.sn with gy := P 1, sl := sl }
def lkAp1 : (Nat → Int) × Bool := ap (apX (lkSun pl di el s).1 (lkFld pl di sk el s).1) (lkFld pl di sk el s).2
def lkAp2 : (Nat → Int) × Bool := ap (apX (rvec G P 2) (rvec G P 3)) (lkAp1 pl di sk ap el s).2
def lkA (sl : Bool) : Stp := { s with sn := lkSn s P sl }
def lkB (sl : Bool) : Stp := { s with sky := six2 (lkSun pl di el s).1 (lkFld pl di sk el s).1, sn := lkSn s P sl }
def lkC (sl pr : Bool) : Stp := { s with sky := six2 (lkSun pl di el s).1 (lkFld pl di sk el s).1, body := six2 (rvec G P 2) (rvec G P 3), sn := { lkSn s P sl with li := !(sh (lkPlace pl el s).1 (lkSun pl di el s).1 false).1, pr := pr } }
def lkS (sl : Bool) : Stp :=
  bif !placed then lkA s P sl else bif (lkFld pl di sk el s).2 then lkB pl di sk el s P sl
  else lkC pl di sk sh el s G P sl (P 2 && P 3 && ((lkAp1 pl di sk ap el s).1 0 != 0) && ((lkAp2 pl di sk ap el s G P).1 0 != 0))
def lookS : Stp := lkS pl di sk sh ap placed el s G P (bif P 1 then lkSlow nr G P else s.sn.sl)
end
section
variable (nr : Int → Int → Int → Bool → Int × Bool) (pl : El → Int → Bool → V3 × Bool) (di : Int → Bool → V3 × Bool) (sk : V3 → Int → Bool → V3 × Bool) (sh : V3 → V3 → Bool → Bool × Bool) (ap : QF) (c z : Cft) (s : Stp) (G : Int → Nat → Int) (P : Int → Bool)
def lkOut (s : Stp) : Option (AV × List AB) := some (.tup [], [cB c, cB z, .mapN 5 G P, sB s])
def lkT (sl : Bool) : Option (AV × List AB) :=
  bif !c.placed then lkOut c z G P (lkA s P sl)
  else bif (lkFld pl di sk c.el s).2 then lkOut c z G P (lkB pl di sk c.el s P sl)
  else bif P 2 then
      (bif (bif true then P 3 else false) then
        (bif (bif true then (lkAp1 pl di sk ap c.el s).1 0 != 0 else false) then lkOut c z G P (lkC pl di sk sh c.el s G P sl (bif true then (lkAp2 pl di sk ap c.el s G P).1 0 != 0 else false))
        else lkOut c z G P (lkC pl di sk sh c.el s G P sl false))
      else lkOut c z G P (lkC pl di sk sh c.el s G P sl false))
    else lkOut c z G P (lkC pl di sk sh c.el s G P sl false)
theorem look_raw : acall Tryz.prog (envLk nr pl di sk sh ap) 200 33 [.ptr 3 0] [cB c, cB z, .mapN 5 G P, sB s] (keepN 4) =
    bif P 1 then lkT pl di sk sh ap c z s G P (lkSlow nr G P) else lkT pl di sk sh ap c z s G P s.sn.sl := by kernel_rfl
theorem lkT_eq (sl : Bool) : lkT pl di sk sh ap c z s G P sl = lkOut c z G P (lkS pl di sk sh ap c.placed c.el s G P sl) := by
  unfold lkT lkS
  cases !c.placed with
  | true => rw [bt, bt]
  | false =>
    rw [bf, bf]
    cases (lkFld pl di sk c.el s).2 with
    | true => rw [bt, bt]
    | false =>
      rw [bf, bf]
      simp only [bt]
      generalize ((lkAp1 pl di sk ap c.el s).1 0 != 0) = f1
      generalize ((lkAp2 pl di sk ap c.el s G P).1 0 != 0) = f2
      cases P 2 with
      | false => rw [bf]; simp only [Bool.false_and]
      | true =>
        rw [bt]
        cases P 3 with
        | false => rw [bf]; simp only [Bool.and_false, Bool.false_and]
        | true =>
          rw [bt]
          cases f1 with
          | false => rw [bf]; simp only [Bool.and_false, Bool.false_and]
          | true => rw [bt]; simp only [Bool.and_self, Bool.true_and]
theorem look_eq : acall Tryz.prog (envLk nr pl di sk sh ap) 200 33 [.ptr 3 0] [cB c, cB z, .mapN 5 G P, sB s] (keepN 4) = lkOut c z G P (lookS nr pl di sk sh ap c.placed c.el s G P) := by
  rw [look_raw, lkT_eq, lkT_eq]
  unfold lookS
  cases P 1 with
  | true => rw [bt, bt]
  | false => rw [bf, bf]
end
noncomputable def lookP (c : Cft) (s : Stp) (G : Int → Nat → Int) (P : Int → Bool) : Stp := lookS Fx.norm Orb.placeP Su.dirP Fd.skyP Su.shaP Qx.qtApa c.placed c.el s G P
def lookF (lp : Cft → Stp → (Int → Nat → Int) → (Int → Bool) → Stp) (args : List AV) (H : List AB) : Option (AV × List AB) :=
  match args, H with
  | [.ptr 3 0], .cells l t :: .cells z t2 :: .mapN 5 G P :: .cells l' t' :: rest =>
    match Cft.of l, Cft.of z, Stp.of l' with
    | some c, some z, some s => bif Nat.beq t 44 && Nat.beq t2 44 && Nat.beq t' 104 then some (.tup [], cB c :: cB z :: .mapN 5 G P :: sB (lp c s G P) :: rest) else none
    | _, _, _ => none
  | _, _ => none
theorem first4 (c z : Cft) (n : Nat) (G : Int → Nat → Int) (P : Int → Bool) (s : Stp) : FirstOk 4 [cB c, cB z, .mapN n G P, sB s] :=
  first_cons ⟨rfl, cav_trunc _ _, fun _ _ _ => trivial⟩ (first_cons ⟨rfl, cav_trunc _ _, fun _ _ _ => trivial⟩ (first_cons ⟨rfl, trivial, fun _ _ _ => trivial⟩ (first_cons ⟨rfl, sav_trunc _ _ (Nat.le_of_ble_eq_true rfl), fun _ _ _ => trivial⟩ (fun i B h => by simp at h))))
noncomputable def envLkP : Env := envLk Fx.norm Orb.placeP Su.dirP Fd.skyP Su.shaP Qx.qtApa
theorem ok_Lk : EnvOk Tryz.prog envLkP :=
  EnvOk.f (EnvOk.f (EnvOk.f (EnvOk.f (EnvOk.f (EnvOk.f ok_nil (enter_of Tryz.func82 (by kernel_rfl) rfl) Qx.qtApa_con) (enter_of Tryz.func81 (by kernel_rfl) rfl) Su.sha_con) (enter_of Tryz.func80 (by kernel_rfl) rfl) Fd.sky_con)
    (enter_of Tryz.func79 (by kernel_rfl) rfl) Su.dir_con) (enter_of Tryz.func78 (by kernel_rfl) rfl) Orb.place_con) Ve.en_vNorm Ve.vnorm_con
theorem look_con : EffOk Tryz.prog 33 anyArgs (lookF lookP) := by
  intro args H v H' hC hF m Args w hA hH
  clear hC
  unfold lookF at hF
  split at hF
  · rename_i l t z t2 G P l' t' rest
    split at hF
    · rename_i c z0 s hc hz hs
      have e1 := Cft.of_av hc
      have e2 := Cft.of_av hz
      have e3 := Stp.of_av hs
      cases hb : (Nat.beq t 44 && Nat.beq t2 44 && Nat.beq t' 104) with
      | false => rw [hb] at hF; cases hF
      | true =>
        rw [hb] at hF
        simp only [cond_true, Option.some.injEq, Prod.mk.injEq] at hF
        obtain ⟨rfl, rfl⟩ := hF
        simp only [Bool.and_eq_true] at hb
        obtain rfl := Nat.eq_of_beq_eq_true hb.1.1
        obtain rfl := Nat.eq_of_beq_eq_true hb.1.2
        obtain rfl := Nat.eq_of_beq_eq_true hb.2
        subst e1; subst e2; subst e3
        exact first_run ok_Lk 200 (L := 4) (H1 := [cB c, cB z0, .mapN 5 G P, sB s]) (H1' := [cB c, cB z0, .mapN 5 G P, sB (lookP c s G P)]) rfl rfl (look_eq Fx.norm Orb.placeP Su.dirP Fd.skyP Su.shaP Qx.qtApa c z0 s G P) rfl rfl (first4 c z0 5 G P s) (fun i B h => (first4 c z0 5 G P (lookP c s G P) i B h).2) hH hA
    · cases hF
  · cases hF
#print axioms look_con
end Go.Proofs.YtdojnnlhaiennaaGreat.Cs

/- An attitude of two pairs: a contract of a known shape. Conditions: none. -/
namespace Go.Proofs.YtdojnnlhaiennaaGreat.Qx
open Go Go.Proofs.YtdojnnlhaiennaaGreat.Ae Go.Proofs.YtdojnnlhaiennaaGreat.Fx Go.Proofs.YtdojnnlhaiennaaGreat.Lx
noncomputable def qtAtt_env : Env := [(161, .flow 112 (shF [M9] (Qs) qqFrM)), (127, .flow 112 (int2 mul)), (76, .flow 112 (int2 add)), (160, .flow 112 (shF [V2] (M9) qtFra)), (82, .flow 112 (shF [V, V] (.flag) qtApa)), (123, .text)]
theorem qtAtt_env_ok : EnvOk Tryz.prog qtAtt_env := EnvOk.f (EnvOk.f (EnvOk.f (EnvOk.f (EnvOk.f (EnvOk.t (ok_nil) (enter_of Tryz.func123 (by kernel_rfl) rfl)) (enter_of Tryz.func82 (by kernel_rfl) rfl) qtApa_con) (enter_of Tryz.func160 (by kernel_rfl) rfl) qtFra_con) (enter_of Tryz.func76 (by kernel_rfl) rfl) add_con) (enter_of Tryz.func127 (by kernel_rfl) rfl) mul_con) (enter_of Tryz.func161 (by kernel_rfl) rfl) qqFrM_con
theorem qtAtt_ex : ∃ q : QF, Meth 88 (shF [V2, V2] (Qs) q) := flow_ex qtAtt_env_ok [] 600 _ _ _ _ (fun x b => by kernel_rfl)
noncomputable def qtAtt : QF := Classical.choose qtAtt_ex
theorem qtAtt_con : Meth 88 (shF [V2, V2] (Qs) qtAtt) := Classical.choose_spec qtAtt_ex
end Go.Proofs.YtdojnnlhaiennaaGreat.Qx

/- The filter and the plan: contracts. Conditions: none. -/
namespace Go.Proofs.YtdojnnlhaiennaaGreat.Cs
open Go Go.Proofs.YtdojnnlhaiennaaGreat.Ae Go.Proofs.YtdojnnlhaiennaaGreat.Fx
open Go.Proofs.YtdojnnlhaiennaaGreat.Md (J Pl Sn)
open Go.Proofs.YtdojnnlhaiennaaGreat.Orb (El RO)
open Go.Proofs.YtdojnnlhaiennaaGreat.Se (Rdg)
open Go.Proofs.YtdojnnlhaiennaaGreat.Ve (V3)
open Go.Proofs.YtdojnnlhaiennaaGreat.Qx (Ns)

/-! ### The filter -/
section
variable (mv me sp : QF) (gs : Nat → Int) (s : Stp) (r : V3)
noncomputable def fiMv : (Nat → Int) × Bool := mv ((Sh.takeL [Qx.G43, Qx.V, Qx.N1] [.agg (gsA gs), r.av, J s.gap]).getD []) false
noncomputable def fiMe : (Nat → Int) × Bool := me ((Sh.takeL [Qx.G43, Qx.V2, Qx.V2] [.agg (gsA (fiMv mv gs s r).1), .agg (six s.sky), .agg (six s.body)]).getD []) (fiMv mv gs s r).2
noncomputable def fiBd (g : Nat → Int) (b : Bool) : Bool := bif decide ((sp ((Sh.takeL [Qx.G43] [.agg (gsA g)]).getD []) b).1 0 > 274877906944) then true else (sp ((Sh.takeL [Qx.G43] [.agg (gsA g)]).getD []) b).2
noncomputable def fiG : Nat → Int := bif (s.sn.pr && s.sn.li) then (fiMe mv me gs s r).1 else (fiMv mv gs s r).1
noncomputable def fiS : Sn := bif (s.sn.pr && s.sn.li) then { s.sn with bd := fiBd sp (fiMe mv me gs s r).1 (fiMe mv me gs s r).2, ps := (fiMe mv me gs s r).1 44 != 0 } else { s.sn with bd := fiBd sp (fiMv mv gs s r).1 (fiMv mv gs s r).2 }
end
section
variable (mv me sp : QF) (c z : Cft) (s : Stp) (G : Int → Nat → Int) (P : Int → Bool)
noncomputable def fiOut (g : Nat → Int) (n : Sn) : Option (AV × List AB) := some (.tup [], [cB { c with gs := g }, cB z, .mapN 5 G P, sB { s with sn := n }])
noncomputable def fiT (r : V3) : Option (AV × List AB) :=
  bif (bif s.sn.pr then s.sn.li else false) then fiOut c z s G P (fiMe mv me c.gs s r).1 { s.sn with bd := fiBd sp (fiMe mv me c.gs s r).1 (fiMe mv me c.gs s r).2, ps := (fiMe mv me c.gs s r).1 44 != 0 }
  else fiOut c z s G P (fiMv mv c.gs s r).1 { s.sn with bd := fiBd sp (fiMv mv c.gs s r).1 (fiMv mv c.gs s r).2 }
theorem filt_raw : acall Tryz.prog (envFi mv me sp) 200 34 [.ptr 3 0] [cB c, cB z, .mapN 5 G P, sB s] (keepN 4) =
    bif s.sn.gy then fiT mv me sp c z s G P (rvec G P 1) else fiT mv me sp c z s G P ⟨c.gs 4, c.gs 5, c.gs 6⟩ := by kernel_rfl
noncomputable def fiRate : V3 := bif s.sn.gy then rvec G P 1 else ⟨c.gs 4, c.gs 5, c.gs 6⟩
theorem fiT_eq (r : V3) : fiT mv me sp c z s G P r = fiOut c z s G P (fiG mv me c.gs s r) (fiS mv me sp c.gs s r) := by
  unfold fiT fiG fiS
  cases s.sn.pr with
  | true =>
    rw [bt]
    cases s.sn.li with
    | true => simp only [Bool.and_self]; rw [bt, bt, bt]
    | false => simp only [Bool.and_false]; rw [bf, bf, bf]
  | false => simp only [Bool.false_and]; rw [bf, bf, bf, bf]
theorem filt_eq : acall Tryz.prog (envFi mv me sp) 200 34 [.ptr 3 0] [cB c, cB z, .mapN 5 G P, sB s] (keepN 4) = fiOut c z s G P (fiG mv me c.gs s (fiRate c s G P)) (fiS mv me sp c.gs s (fiRate c s G P)) := by
  rw [filt_raw, fiT_eq, fiT_eq]
  unfold fiRate
  cases s.sn.gy with
  | true => rw [bt, bt]
  | false => rw [bf, bf]
end
noncomputable def filtC (c : Cft) (s : Stp) (G : Int → Nat → Int) (P : Int → Bool) : Cft := { c with gs := fiG Qx.qfMov Qx.qfMee c.gs s (fiRate c s G P) }
noncomputable def filtS (c : Cft) (s : Stp) (G : Int → Nat → Int) (P : Int → Bool) : Stp := { s with sn := fiS Qx.qfMov Qx.qfMee Qx.qfSpr c.gs s (fiRate c s G P) }
def filtF (fc : Cft → Stp → (Int → Nat → Int) → (Int → Bool) → Cft) (fs : Cft → Stp → (Int → Nat → Int) → (Int → Bool) → Stp) (args : List AV) (H : List AB) : Option (AV × List AB) :=
  match args, H with
  | [.ptr 3 0], .cells l t :: .cells z t2 :: .mapN 5 G P :: .cells l' t' :: rest =>
    match Cft.of l, Cft.of z, Stp.of l' with
    | some c, some z, some s => bif Nat.beq t 44 && Nat.beq t2 44 && Nat.beq t' 104 then some (.tup [], cB (fc c s G P) :: cB z :: .mapN 5 G P :: sB (fs c s G P) :: rest) else none
    | _, _, _ => none
  | _, _ => none
theorem ok_Fi : EnvOk Tryz.prog (envFi Qx.qfMov Qx.qfMee Qx.qfSpr) :=
  EnvOk.f (EnvOk.f (EnvOk.f ok_nil (enter_of Tryz.func85 (by kernel_rfl) rfl) Qx.qfSpr_con) (enter_of Tryz.func84 (by kernel_rfl) rfl) Qx.qfMee_con) (enter_of Tryz.func83 (by kernel_rfl) rfl) Qx.qfMov_con
theorem filt_con : EffOk Tryz.prog 34 anyArgs (filtF filtC filtS) := by
  intro args H v H' hC hF m Args w hA hH
  clear hC
  unfold filtF at hF
  split at hF
  · rename_i l t z t2 G P l' t' rest
    split at hF
    · rename_i c z0 s hc hz hs
      have e1 := Cft.of_av hc
      have e2 := Cft.of_av hz
      have e3 := Stp.of_av hs
      cases hb : (Nat.beq t 44 && Nat.beq t2 44 && Nat.beq t' 104) with
      | false => rw [hb] at hF; cases hF
      | true =>
        rw [hb] at hF
        simp only [cond_true, Option.some.injEq, Prod.mk.injEq] at hF
        obtain ⟨rfl, rfl⟩ := hF
        simp only [Bool.and_eq_true] at hb
        obtain rfl := Nat.eq_of_beq_eq_true hb.1.1
        obtain rfl := Nat.eq_of_beq_eq_true hb.1.2
        obtain rfl := Nat.eq_of_beq_eq_true hb.2
        subst e1; subst e2; subst e3
        exact first_run ok_Fi 200 (L := 4) (H1 := [cB c, cB z0, .mapN 5 G P, sB s]) (H1' := [cB (filtC c s G P), cB z0, .mapN 5 G P, sB (filtS c s G P)]) rfl rfl (filt_eq Qx.qfMov Qx.qfMee Qx.qfSpr c z0 s G P) rfl rfl (first4 c z0 5 G P s) (fun i B h => (first4 (filtC c s G P) z0 5 G P (filtS c s G P) i B h).2) hH hA
    · cases hF
  · cases hF
#print axioms filt_con
/-! ### The plan -/
section
variable (om : Int → Bool) (nx : Pl → Sn → Pl) (at_ : QF) (st : QP) (c z : Cft) (s : Stp) (G : Int → Nat → Int) (P : Int → Bool)
noncomputable def plAt : (Nat → Int) × Bool := at_ ((Sh.takeL [Qx.V2, Qx.V2] [.agg (six s.sky), .agg (six s.body)]).getD []) false
noncomputable def plSt : Nat → Int := st ((Sh.takeL [Qx.Qs] [Qx.Qs.of (plAt at_ s).1 0]).getD [])
def zer : Nat → Int := fun _ => 0
noncomputable def plOut (c : Cft) : Option (AV × List AB) := some (.tup [], [cB c, cB z, .mapN 5 G P, sB s])
noncomputable def plT (n : Pl) : Option (AV × List AB) :=
  bif (bif n.mode == 2 then c.pl.mode != 2 else false) then
    (bif (plAt at_ s).2 then plOut z s G P { c with pl := ⟨1, 0, 0, 0, 0, bor .i64 n.faults 4⟩, gs := zer }
    else bif n.mode != 2 then plOut z s G P { c with pl := n, gs := zer } else plOut z s G P { c with pl := n, gs := plSt at_ st s })
  else bif n.mode != 2 then plOut z s G P { c with pl := n, gs := zer } else plOut z s G P { c with pl := n }
theorem plan_raw : acall Tryz.prog (envPn om nx at_ st) 200 35 [.ptr 3 0] [cB c, cB z, .mapN 5 G P, sB s] (keepN 4) =
    bif om c.pl.mode then plT at_ st c z s G P (nx c.pl s.sn) else none := by kernel_rfl
noncomputable def plC (n : Pl) : Cft :=
  if n.mode = 2 then
    (if c.pl.mode = 2 then { c with pl := n } else if (plAt at_ s).2 = true then { c with pl := ⟨1, 0, 0, 0, 0, bor .i64 n.faults 4⟩, gs := zer } else { c with pl := n, gs := plSt at_ st s })
  else { c with pl := n, gs := zer }
theorem plT_eq (n : Pl) : plT at_ st c z s G P n = plOut z s G P (plC at_ st c s n) := by
  unfold plT plC
  by_cases h2 : n.mode = 2
  · rw [if_pos h2, show (n.mode == 2) = true by rw [h2]; rfl, show (n.mode != 2) = false by rw [h2]; rfl, bt]
    by_cases h3 : c.pl.mode = 2
    · rw [if_pos h3, show (c.pl.mode != 2) = false by rw [h3]; rfl, bf, bf]
    · rw [if_neg h3, show (c.pl.mode != 2) = true from bne_iff_ne.2 h3, bt]
      cases (plAt at_ s).2 with
      | true => rw [bt, if_pos rfl]
      | false => rw [bf, bf, if_neg (by simp)]
  · rw [if_neg h2, show (n.mode == 2) = false from beq_eq_false_iff_ne.2 h2, show (n.mode != 2) = true from bne_iff_ne.2 h2, bf, bf, bt]
end
noncomputable def planP (c : Cft) (s : Stp) : Cft := plC Qx.qtAtt Qx.qfSta c s (Md.nextP c.pl s.sn)
def planF (om : Int → Bool) (pp : Cft → Stp → Cft) (args : List AV) (H : List AB) : Option (AV × List AB) :=
  match args, H with
  | [.ptr 3 0], .cells l t :: .cells z t2 :: .mapN 5 G P :: .cells l' t' :: rest =>
    match Cft.of l, Cft.of z, Stp.of l' with
    | some c, some z, some s => bif Nat.beq t 44 && Nat.beq t2 44 && Nat.beq t' 104 && om c.pl.mode then some (.tup [], cB (pp c s) :: cB z :: .mapN 5 G P :: sB s :: rest) else none
    | _, _, _ => none
  | _, _ => none
theorem ok_Pn : EnvOk Tryz.prog (envPn Md.modeOk Md.nextP Qx.qtAtt Qx.qfSta) :=
  EnvOk.p (EnvOk.f (EnvOk.p ok_nil (enter_of Tryz.func87 (by kernel_rfl) rfl) Qx.qfSta_con) (enter_of Tryz.func88 (by kernel_rfl) rfl) Qx.qtAtt_con) (enter_of Tryz.func86 (by kernel_rfl) rfl) Md.next_con
theorem plan_con : EffOk Tryz.prog 35 anyArgs (planF Md.modeOk planP) := by
  intro args H v H' hC hF m Args w hA hH
  clear hC
  unfold planF at hF
  split at hF
  · rename_i l t z t2 G P l' t' rest
    split at hF
    · rename_i c z0 s hc hz hs
      have e1 := Cft.of_av hc
      have e2 := Cft.of_av hz
      have e3 := Stp.of_av hs
      cases hb : (Nat.beq t 44 && Nat.beq t2 44 && Nat.beq t' 104 && Md.modeOk c.pl.mode) with
      | false => rw [hb] at hF; cases hF
      | true =>
        rw [hb] at hF
        simp only [cond_true, Option.some.injEq, Prod.mk.injEq] at hF
        obtain ⟨rfl, rfl⟩ := hF
        simp only [Bool.and_eq_true] at hb
        obtain rfl := Nat.eq_of_beq_eq_true hb.1.1.1
        obtain rfl := Nat.eq_of_beq_eq_true hb.1.1.2
        obtain rfl := Nat.eq_of_beq_eq_true hb.1.2
        subst e1; subst e2; subst e3
        refine first_run ok_Pn 200 (L := 4) (H1 := [cB c, cB z0, .mapN 5 G P, sB s]) (H1' := [cB (planP c s), cB z0, .mapN 5 G P, sB s]) rfl rfl ?_ rfl rfl (first4 c z0 5 G P s) (fun i B h => (first4 (planP c s) z0 5 G P s i B h).2) hH hA
        rw [plan_raw, hb.2, bt, plT_eq]
        rfl
    · cases hF
  · cases hF
#print axioms plan_con
end Go.Proofs.YtdojnnlhaiennaaGreat.Cs

/- What is told: a contract. Conditions: none. -/
namespace Go.Proofs.YtdojnnlhaiennaaGreat.Cs
open Go Go.Proofs.YtdojnnlhaiennaaGreat.Ae Go.Proofs.YtdojnnlhaiennaaGreat.Fx
open Go.Proofs.YtdojnnlhaiennaaGreat.Md (J Pl Sn)
open Go.Proofs.YtdojnnlhaiennaaGreat.Ve (V3)
open Go.Proofs.YtdojnnlhaiennaaGreat.Qx (Ns)

section
variable (dp : QF) (cn : Int → Int → Int → Int → Int → Int → Int → Te.Seven) (tw : Te.Tell → Te.Fr) (tk : Int → ByteArray → Bool) (wf : ByteArray → ByteArray) (c z : Cft) (s : Stp) (M : AB)
noncomputable def tlDp : Nat → Int := (dp ((Sh.takeL [.agg (.flag :: Ns 7)] [.agg (drA c.dr)]).getD []) false).1
def tlSv (m : V3) : Te.Seven := cn (c.gs 0) (c.gs 1) (c.gs 2) (c.gs 3) m.x m.y m.z
def tlTl (m : V3) : Te.Tell := ⟨s.tick, c.pl.mode, c.pl.faults, c.ack, c.err, c.rej, (tlSv cn c m).p0, (tlSv cn c m).p1, (tlSv cn c m).p2, (tlSv cn c m).p3, (tlSv cn c m).e0, (tlSv cn c m).e1, (tlSv cn c m).e2⟩
def tlT (m : V3) : Option (AV × List AB) :=
  bif tk (tw (tlTl cn c s m)).k (tw (tlTl cn c s m)).s then some (.str (wf (tw (tlTl cn c s m)).s), [cB c, cB z, M, sB s]) else none
theorem tell_raw : acall Tryz.prog (envTl dp cn tw tk wf) 200 36 [.ptr 3 0] [cB c, cB z, M, sB s] (keepN 4) =
    bif c.pl.mode == 0 then tlT cn tw tk wf c z s M ⟨tlDp dp c 0, tlDp dp c 1, tlDp dp c 2⟩ else tlT cn tw tk wf c z s M ⟨0, 0, 0⟩ := by kernel_rfl
end
noncomputable def tlM (c : Cft) : V3 := if c.pl.mode = 0 then ⟨tlDp Qx.qbDip c 0, tlDp Qx.qbDip c 1, tlDp Qx.qbDip c 2⟩ else ⟨0, 0, 0⟩
noncomputable def tellT (c : Cft) (s : Stp) : Te.Tell := tlTl Te.cntsP c s (tlM c)
noncomputable def tellP (c : Cft) (s : Stp) : ByteArray := Cr.wrapT (Te.writeP (tellT c s)).s
def tellF (tl : Cft → Stp → ByteArray) (args : List AV) (H : List AB) : Option (AV × AB) :=
  match args, H with
  | [.ptr 3 0], .cells l t :: .cells z t2 :: .mapN 5 _ _ :: .cells l' t' :: _ =>
    match Cft.of l, Cft.of z, Stp.of l' with
    | some c, some _, some s => bif Nat.beq t 44 && Nat.beq t2 44 && Nat.beq t' 104 then some (.str (tl c s), sB s) else none
    | _, _, _ => none
  | _, _ => none
theorem write_told (t : Te.Tell) : Cr.isTell (Te.writeP t).k (Te.writeP t).s = true := by
  unfold Te.writeP
  by_cases h : Te.rightP t = true
  · rw [if_pos h]
    have e : (strOf (Te.wBytes t)).size = 26 := by rw [Cr.strOf_size]; rfl
    unfold Cr.isTell
    simp only [e]
    rfl
  · rw [if_neg h]; rfl
theorem ok_Tl : EnvOk Tryz.prog (envTl Qx.qbDip Te.cntsP Te.writeP Cr.isTell Cr.wrapT) :=
  EnvOk.f (EnvOk.p (EnvOk.p (EnvOk.p ok_nil Cr.en_wrap Cr.wrap_con) (enter_of Tryz.func91 (by kernel_rfl) rfl) Te.write_con) (enter_of Tryz.func90 (by kernel_rfl) rfl) Te.counts_con) (enter_of Tryz.func89 (by kernel_rfl) rfl) Qx.qbDip_con
theorem tell_con : EffOk Tryz.prog 36 anyArgs (seeSpec (tellF tellP)) := by
  intro args H v H' hC hF m Args w hA hH
  clear hC
  unfold seeSpec at hF
  split at hF
  · split at hF
    · split at hF
      · rename_i v0 B hF0
        unfold tellF at hF0
        split at hF0
        · rename_i l t z t2 G P l' t' rest heq1 heq2
          split at hF0
          · rename_i c z0 s hc hz hs
            have e1 := Cft.of_av hc
            have e2 := Cft.of_av hz
            have e3 := Stp.of_av hs
            cases hb : (Nat.beq t 44 && Nat.beq t2 44 && Nat.beq t' 104) with
            | false => rw [hb] at hF0; cases hF0
            | true =>
              rw [hb] at hF0
              simp only [cond_true, Option.some.injEq, Prod.mk.injEq] at hF0
              obtain ⟨rfl, rfl⟩ := hF0
              simp only [Bool.and_eq_true] at hb
              obtain rfl := Nat.eq_of_beq_eq_true hb.1.1
              obtain rfl := Nat.eq_of_beq_eq_true hb.1.2
              obtain rfl := Nat.eq_of_beq_eq_true hb.2
              subst e1; subst e2; subst e3
              cases heq1
              have hv : v = .str (tellP c s) ∧ H' = cB c :: cB z0 :: .mapN 5 G P :: sB s :: rest := by
                simp only [AV.noPtr, cond_true, Option.some.injEq, Prod.mk.injEq] at hF
                exact ⟨hF.1.symm, hF.2.symm⟩
              obtain ⟨rfl, rfl⟩ := hv
              refine first_run ok_Tl 200 (L := 4) (H1 := [cB c, cB z0, .mapN 5 G P, sB s]) (H1' := [cB c, cB z0, .mapN 5 G P, sB s]) rfl rfl ?_ rfl rfl (first4 c z0 5 G P s) (fun i B h => (first4 c z0 5 G P s i B h).2) hH hA
              rw [tell_raw]
              unfold tlT tellP tellT tlM
              by_cases hm : c.pl.mode = 0
              · rw [if_pos hm]
                rw [show (c.pl.mode == 0) = true by rw [hm]; rfl, bt, write_told, bt]
              · rw [if_neg hm]
                rw [show (c.pl.mode == 0) = false from beq_eq_false_iff_ne.2 hm, bf, write_told, bt]
          · cases hF0
        · cases hF0
      · cases hF
    · cases hF
  · cases hF
#print axioms tell_con
/-! ### A step -/
noncomputable def envSt (ft : Cft → ByteArray → Bool) (hp : Cft → Stp → ByteArray → Hst) (ds : QF) (lp : Cft → Stp → (Int → Nat → Int) → (Int → Bool) → Stp) (fc : Cft → Stp → (Int → Nat → Int) → (Int → Bool) → Cft) (fs : Cft → Stp → (Int → Nat → Int) → (Int → Bool) → Stp) (om : Int → Bool) (pp : Cft → Stp → Cft) (tl : Cft → Stp → ByteArray) : Env :=
  [(30, .text), (31, .eff anyArgs (hearF ft hp)), (32, .flow FT (shF [.agg (.flag :: Ns 7), Qx.V, Qx.N1] (.agg (.flag :: Ns 7)) ds)), (33, .eff anyArgs (lookF lp)), (34, .eff anyArgs (filtF fc fs)), (35, .eff anyArgs (planF om pp)), (36, .see (tellF tl))]
end Go.Proofs.YtdojnnlhaiennaaGreat.Cs

/- A step, piece by piece. Conditions: none. -/
namespace Go.Proofs.YtdojnnlhaiennaaGreat.Cs
open Go Go.Proofs.YtdojnnlhaiennaaGreat.Ae Go.Proofs.YtdojnnlhaiennaaGreat.Fx
open Go.Proofs.YtdojnnlhaiennaaGreat.Md (J Pl Sn)
open Go.Proofs.YtdojnnlhaiennaaGreat.Orb (El RO)
open Go.Proofs.YtdojnnlhaiennaaGreat.Ve (V3)
open Go.Proofs.YtdojnnlhaiennaaGreat.Qx (Ns)

noncomputable def stB : Code := bodyOf Tryz.prog 13
def nm (c : Cft) : Cft := (Cft.of c.av).getD Cft.zero
def st0 (t : Int) : Stp := ⟨t, 0, zer, zer, ⟨false, false, false, false, false, false, false, 0⟩⟩
def nms (s : Stp) : Stp := (Stp.of s.av).getD (st0 0)
theorem nm_of (c : Cft) : Cft.of c.av = some (nm c) := by
  have h : (Cft.of c.av).isSome = true := by kernel_rfl
  obtain ⟨d, hd⟩ := Option.isSome_iff_exists.1 h
  unfold nm
  rw [hd]; rfl
theorem nm_av (c : Cft) : (nm c).av = c.av := (Cft.of_av (nm_of c)).symm
theorem nms_of (s : Stp) : Stp.of s.av = some (nms s) := by
  have h : (Stp.of s.av).isSome = true := by kernel_rfl
  obtain ⟨d, hd⟩ := Option.isSome_iff_exists.1 h
  unfold nms
  rw [hd]; rfl
theorem nms_av (s : Stp) : (nms s).av = s.av := (Stp.of_av (nms_of s)).symm
def isTick (t : Int) : Bool := bif decide (0 ≤ t) then decide (t ≤ 157766400000) else false
def idle (c : Cft) (t : Int) : Bool := bif !isTick t then true else bif c.on then decide (t ≤ c.tick) else false
def gapD (c : Cft) (t : Int) : Int := wr .u64 (wr .u64 t - wr .u64 c.tick)
def gapB (c : Cft) (t : Int) : Bool := bif (bif c.on then decide (gapD c t ≥ 10) else false) then decide (gapD c t ≤ 10000) else false
def envS0 : Env := [(30, .text)]
theorem ok_S0 : EnvOk Tryz.prog envS0 := EnvOk.t ok_nil (enter_of Tryz.func30 (by kernel_rfl) rfl)
section
variable (c z : Cft) (t : Int) (b : ByteArray) (s : Stp) (G : Int → Nat → Int) (P : Int → Bool)
abbrev sT : List (Nat × AV) := [(1, J t), (2, .str b), (3, .ptr 0 0), (6, .ptr 1 0)]
abbrev sU : List (Nat × AV) := [(1, J t), (2, .str b), (3, .ptr 0 0), (6, .ptr 1 0), (8, .ptr 3 0)]
abbrev s4 (M : AB) : List AB := [cB c, cB z, M, sB s]
theorem st_0 : acode Tryz.prog [] 100 106 (Code.nav [0] stB) [(0, .agg c.av), (1, J t), (2, .str b)] [] (keepK [1, 2, 3, 6]) = some (.normal, sT t b, [cB c, cB Cft.zero]) := by kernel_rfl
theorem st_1 : acode Tryz.prog envS0 100 106 (Code.nav [1, 0] stB) (sT t b) [cB c, cB z] (keepK [1, 2, 3, 6, 7]) =
    bif idle c t then some (.ret, [(1, J t), (2, .str b), (3, .ptr 0 0), (6, .ptr 1 0), (7, .str Cr.eS)], [cB c, cB c]) else some (.normal, [(1, J t), (2, .str b), (3, .ptr 0 0), (6, .ptr 1 0), (7, .any)], [cB c, cB z]) := by kernel_rfl
theorem st_3 : acode Tryz.prog [] 100 106 (Code.nav [1, 1, 0] stB) (sT t b) [cB c, cB z] (keepK [1, 2, 3, 6, 8]) = some (.normal, sU t b, s4 c z (st0 t) (.map false [])) := by kernel_rfl
theorem st_4 : acode Tryz.prog [] 100 106 (Code.nav [1, 1, 1, 0] stB) (sU t b) (s4 c z (st0 t) (.map false [])) (keepK [1, 2, 3, 6, 8]) =
    some (.normal, sU t b, [cB c, cB z, .map false [], .cells (mergeL (gapB c t) { st0 t with gap := wr .i64 (gapD c t) }.av (st0 t).av) 104]) := by kernel_rfl
theorem st_7 (M : AB) : acode Tryz.prog [] 100 106 (Code.nav [1, 1, 1, 1, 0] stB) (sU t b) (s4 c z s M) (keepK [1, 2, 3, 6, 8]) =
    some (.normal, sU t b, s4 c z { s with sn := { s.sn with gp := s.gap == 0 } } M) := by kernel_rfl
theorem st_8 (F : List AV → List AB → Option (AV × List AB)) (M : AB) : acode Tryz.prog [(31, .eff anyArgs F)] 100 106 (Code.nav [1, 1, 1, 1, 1, 0] stB) (sU t b) (s4 c z s M) (keepK [1, 2, 3, 6, 8]) =
    match F [.ptr 3 0, .str b] (s4 c z s M) with
    | some (_, H') => some (.normal, sU t b, H')
    | none => none := by kernel_rfl
def stDs (ds : QF) : Nat → Int := (ds ((Sh.takeL [.agg (.flag :: Ns 7), Qx.V, Qx.N1] [.agg (drA c.dr), (rvec G P 3).av, J (bif P 3 then G 3 1 else 0)]).getD []) false).1
theorem st_9 (ds : QF) : acode Tryz.prog [(32, .flow FT (shF [.agg (.flag :: Ns 7), Qx.V, Qx.N1] (.agg (.flag :: Ns 7)) ds))] 100 106 (Code.nav [1, 1, 1, 1, 1, 1, 0] stB) (sU t b) (s4 c z s (.mapN 5 G P)) (keepL [1, 2, 3, 6, 8] 4) =
    bif P 3 then some (.normal, sU t b, s4 { c with dr := stDs c G P ds } z s (.mapN 5 G P)) else some (.normal, sU t b, s4 c z s (.mapN 5 G P)) := by kernel_rfl
theorem st_12 (F : List AV → List AB → Option (AV × List AB)) (M : AB) : acode Tryz.prog [(33, .eff anyArgs F)] 100 106 (Code.nav [1, 1, 1, 1, 1, 1, 1, 0] stB) (sU t b) (s4 c z s M) (keepK [1, 2, 3, 6, 8]) =
    match F [.ptr 3 0] (s4 c z s M) with
    | some (_, H') => some (.normal, sU t b, H')
    | none => none := by kernel_rfl
theorem st_13 (F : List AV → List AB → Option (AV × List AB)) (M : AB) : acode Tryz.prog [(34, .eff anyArgs F)] 100 106 (Code.nav [1, 1, 1, 1, 1, 1, 1, 1, 0] stB) (sU t b) (s4 c z s M) (keepK [1, 2, 3, 6, 8]) =
    bif (bif c.pl.mode == 2 then !s.sn.gp else false) then
      (match F [.ptr 3 0] (s4 c z s M) with
      | some (_, H') => some (.normal, sU t b, H')
      | none => none)
    else some (.normal, sU t b, s4 c z s M) := by kernel_rfl
theorem st_15 (F : List AV → List AB → Option (AV × List AB)) (M : AB) : acode Tryz.prog [(35, .eff anyArgs F)] 100 106 (Code.nav [1, 1, 1, 1, 1, 1, 1, 1, 1, 0] stB) (sU t b) (s4 c z s M) (keepK [1, 2, 3, 6, 8]) =
    match F [.ptr 3 0] (s4 c z s M) with
    | some (_, H') => some (.normal, sU t b, H')
    | none => none := by kernel_rfl
theorem st_16 (M : AB) : acode Tryz.prog [] 100 106 (Code.nav [1, 1, 1, 1, 1, 1, 1, 1, 1, 1, 0] stB) (sU t b) (s4 c z s M) (keepK [3, 6, 8]) =
    some (.normal, [(3, .ptr 0 0), (6, .ptr 1 0), (8, .ptr 3 0)], s4 { c with on := true, tick := t } z s M) := by kernel_rfl
theorem st_17 (tl : Cft → Stp → ByteArray) : acode Tryz.prog [(36, .see (tellF tl))] 100 106 (Code.nav [1, 1, 1, 1, 1, 1, 1, 1, 1, 1, 1] stB) [(3, .ptr 0 0), (6, .ptr 1 0), (8, .ptr 3 0)] (s4 c z s (.mapN 5 G P)) (keepK [6, 7]) =
    some (.ret, [(6, .ptr 1 0), (7, .str (tl (nm c) (nms s)))], s4 c c (nms s) (.mapN 5 G P)) := by kernel_rfl
end
end Go.Proofs.YtdojnnlhaiennaaGreat.Cs

/- A step: a contract. Conditions: none. -/
namespace Go.Proofs.YtdojnnlhaiennaaGreat.Cs
open Go Go.Proofs.YtdojnnlhaiennaaGreat.Ae Go.Proofs.YtdojnnlhaiennaaGreat.Fx
open Go.Proofs.YtdojnnlhaiennaaGreat.Md (J Pl Sn)
open Go.Proofs.YtdojnnlhaiennaaGreat.Orb (El RO)
open Go.Proofs.YtdojnnlhaiennaaGreat.Ve (V3)
open Go.Proofs.YtdojnnlhaiennaaGreat.Qx (Ns)

section
variable (c z : Cft) (s : Stp) (G : Int → Nat → Int) (P : Int → Bool) (b : ByteArray)
theorem nm_cB : cB (nm c) = cB c := by unfold cB; rw [nm_av]
theorem nms_sB : sB (nms s) = sB s := by unfold sB; rw [nms_av]
theorem hearF_at (ft : Cft → ByteArray → Bool) (hp : Cft → Stp → ByteArray → Hst) : hearF ft hp [.ptr 3 0, .str b] (s4 c z s (.map false [])) =
    bif ft (nm c) b then some (.tup [], [cB (hp (nm c) (nms s) b).c, cB z, rdB (hp (nm c) (nms s) b).rd, sB (hp (nm c) (nms s) b).s]) else none := by
  unfold hearF
  simp only [nm_of, nms_of, nm_cB]
  rfl
theorem lookF_at (lp : Cft → Stp → (Int → Nat → Int) → (Int → Bool) → Stp) : lookF lp [.ptr 3 0] (s4 c z s (.mapN 5 G P)) = some (.tup [], s4 c z (lp (nm c) (nms s) G P) (.mapN 5 G P)) := by
  unfold lookF
  simp only [nm_of, nms_of, nm_cB]
  rfl
theorem filtF_at (fc : Cft → Stp → (Int → Nat → Int) → (Int → Bool) → Cft) (fs : Cft → Stp → (Int → Nat → Int) → (Int → Bool) → Stp) : filtF fc fs [.ptr 3 0] (s4 c z s (.mapN 5 G P)) = some (.tup [], s4 (fc (nm c) (nms s) G P) z (fs (nm c) (nms s) G P) (.mapN 5 G P)) := by
  unfold filtF
  simp only [nm_of, nms_of, nm_cB]
  rfl
theorem planF_at (om : Int → Bool) (pp : Cft → Stp → Cft) : planF om pp [.ptr 3 0] (s4 c z s (.mapN 5 G P)) = bif om c.pl.mode then some (.tup [], s4 (pp (nm c) (nms s)) z s (.mapN 5 G P)) else none := by
  unfold planF
  simp only [nm_of, nms_of, nm_cB, nms_sB]
  rfl
end

/-! ### What a step is -/
noncomputable section
def gapV (c : Cft) (t : Int) : Int := if gapB c t = true then wr .i64 (gapD c t) else 0
def st1 (c : Cft) (t : Int) : Stp := { st0 t with gap := gapV c t, sn := { (st0 t).sn with gp := gapV c t == 0 } }
def stH (c : Cft) (t : Int) (b : ByteArray) : Hst := hearP (nm c) (nms (st1 c t)) b
def rdG (rd : Rds) : Int → Nat → Int := fun k => Rdg.num (rdg rd k)
def rdP (rd : Rds) : Int → Bool := fun k => (rd k).isSome
def driftP (h : Hst) : Cft := if rdP h.rd 3 = true then { h.c with dr := stDs h.c (rdG h.rd) (rdP h.rd) Qx.qbSte } else h.c
/-- What stands before the plan: the craft, the step. -/
def seenP (h : Hst) : Stp := lookP (nm (driftP h)) (nms h.s) (rdG h.rd) (rdP h.rd)
def goes (c : Cft) (s : Stp) : Bool := bif c.pl.mode == 2 then !s.sn.gp else false
def guessP (h : Hst) : Cft := if goes (driftP h) (seenP h) = true then filtC (nm (driftP h)) (nms (seenP h)) (rdG h.rd) (rdP h.rd) else driftP h
def sawP (h : Hst) : Stp := if goes (driftP h) (seenP h) = true then filtS (nm (driftP h)) (nms (seenP h)) (rdG h.rd) (rdP h.rd) else seenP h
def nextP (h : Hst) (t : Int) : Cft := { planP (nm (guessP h)) (nms (sawP h)) with on := true, tick := t }
def outP (h : Hst) (t : Int) : ByteArray := tellP (nm (nextP h t)) (nms (sawP h))
structure Sres where
  c : Cft
  out : ByteArray
def stepP (c : Cft) (t : Int) (b : ByteArray) : Sres := if idle c t = true then ⟨c, Cr.eS⟩ else ⟨nextP (stH c t b) t, outP (stH c t b) t⟩
def stepC (c : Cft) (b : ByteArray) : Bool := fitP c b && Md.modeOk c.pl.mode
def stepF (sc : Cft → ByteArray → Bool) (sp : Cft → Int → ByteArray → Sres) : List AV → Option AV
  | [.agg l, .int .i64 t, .str b] =>
    match Cft.of l with
    | some c => bif sc c b then some (.tup [.agg (sp c t b).c.av, .str (sp c t b).out]) else none
    | none => none
  | _ => none
end
theorem hear_mode (c : Cft) (s : Stp) (b : ByteArray) : (hearP c s b).c.pl.mode = c.pl.mode := by
  have step : ∀ (h : Hst) x, (frmP h x).c.pl.mode = h.c.pl.mode := by
    intro h x
    unfold frmP
    repeat' split
    all_goals (try unfold sensP) <;> (try unfold ordP) <;> (try (repeat' split)) <;> rfl
  have all : ∀ (l : List Cr.Frm) (h : Hst), (l.foldl frmP h).c.pl.mode = h.c.pl.mode := by
    intro l
    induction l with
    | nil => intro h; rfl
    | cons x l ih => intro h; rw [List.foldl_cons, ih, step]
  unfold hearP
  rw [all]
  split <;> rfl
theorem nm_mode (c : Cft) : (nm c).pl.mode = c.pl.mode := by kernel_rfl
theorem guess_mode (h : Hst) : (guessP h).pl.mode = h.c.pl.mode := by
  have e : (driftP h).pl.mode = h.c.pl.mode := by unfold driftP; split <;> rfl
  unfold guessP
  split
  · show (nm (driftP h)).pl.mode = _
    rw [nm_mode, e]
  · exact e
theorem st1_eq (c z : Cft) (t : Int) : [cB c, cB z, .map false [], .cells (mergeL (gapB c t) { st0 t with gap := wr .i64 (gapD c t) }.av (st0 t).av) 104] = s4 c z { st0 t with gap := gapV c t } (.map false []) := by
  unfold gapV
  cases gapB c t with
  | true => rw [if_pos rfl]; rfl
  | false => rw [if_neg (by simp)]; rfl
theorem cav_noPtr (c : Cft) : AV.noPtrL c.av = true := by kernel_rfl
theorem st_res (c d : Cft) (o : ByteArray) (l : List (Nat × AV)) (X : List AB) : ares Tryz.prog ((6, .ptr 1 0) :: (7, .str o) :: l) (cB d :: cB c :: X) [.cell 6 44, .tmp 7] = some [.agg c.av, .str o] := by kernel_rfl
theorem st_res0 (c d : Cft) (t : Int) (b o : ByteArray) : ares Tryz.prog [(1, J t), (2, .str b), (3, .ptr 0 0), (6, .ptr 1 0), (7, .str o)] [cB d, cB c] [.cell 6 44, .tmp 7] = some [.agg c.av, .str o] := by kernel_rfl
theorem ok1 {f : FuncId} {F : List AV → List AB → Option (AV × List AB)} (he : EnterOk Tryz.prog f) (h : EffOk Tryz.prog f anyArgs F) : EnvOk Tryz.prog [(f, .eff anyArgs F)] := EnvOk.cons ⟨he, h⟩ (EnvOk.nil _)
theorem ok1s {f : FuncId} {F : List AV → List AB → Option (AV × AB)} (he : EnterOk Tryz.prog f) (h : EffOk Tryz.prog f anyArgs (seeSpec F)) : EnvOk Tryz.prog [(f, .see F)] := EnvOk.cons ⟨he, h⟩ (EnvOk.nil _)
theorem step_con : PureOk Tryz.prog 13 anyArgs (stepF stepC stepP) := by
  refine pure_at (nt := 106) (res := [.cell 6 44, .tmp 7]) (by kernel_rfl) fun args v hF => ?_
  unfold stepF at hF
  split at hF
  · rename_i l t b
    split at hF
    · rename_i c hc
      have hl := Cft.of_av hc
      subst hl
      cases hb : stepC c b with
      | false => rw [hb] at hF; cases hF
      | true =>
        rw [hb] at hF
        simp only [cond_true, Option.some.injEq] at hF
        subst hF
        unfold stepC at hb
        simp only [Bool.and_eq_true] at hb
        obtain ⟨hfit, hmode⟩ := hb
        refine ⟨?_, ?_, Nat.le_of_ble_eq_true rfl, fun w0 a h0 => ?_⟩
        · show (AV.noPtrL (stepP c t b).c.av && true) = true
          rw [cav_noPtr]; rfl
        · show (AV.noPtrL c.av && true) = true
          rw [cav_noPtr]; rfl
        · have h0 : At [] w0 106 [(0, .agg c.av), (1, J t), (2, .str b)] [] a w0 := h0
          refine wp_as stB rfl ?_
          refine wp_seqN (by kernel_rfl) (wp_as (Code.nav [0] stB) (by kernel_rfl) (At.codeK ok_nil 100 [1, 2, 3, 6] (st_0 c t b) h0 fun a w hs => then_normal ?_))
          have r1 := st_1 c Cft.zero t b
          by_cases hi : idle c t = true
          · rw [hi, bt] at r1
            refine wp_seqN (by kernel_rfl) (wp_as (Code.nav [1, 0] stB) (by kernel_rfl) (At.codeK ok_S0 100 [1, 2, 3, 6, 7] r1 hs fun a w hs => then_ret ?_))
            refine ⟨.inr rfl, _, _, _, hs, st_res0 c c t b Cr.eS, ?_⟩
            unfold stepP
            rw [if_pos hi]
            rfl
          · have hif : idle c t = false := by simpa using hi
            rw [hif, bf] at r1
            refine wp_seqN (by kernel_rfl) (wp_as (Code.nav [1, 0] stB) (by kernel_rfl) (At.codeK ok_S0 100 [1, 2, 3, 6, 7] r1 hs fun a w hs => then_normal ?_))
            have hs : At [] w0 106 (sT t b) [cB c, cB Cft.zero] a w := hs.keep (Nat.zero_le _) (Nat.le_refl _) ⟨⟨rfl, rfl⟩, ⟨rfl, rfl⟩, ⟨rfl, rfl⟩, ⟨rfl, rfl⟩, trivial⟩ ⟨.inr ⟨rfl, cav_trunc _ _⟩, .inr ⟨rfl, cav_trunc _ _⟩, trivial⟩
            refine wp_seqN (by kernel_rfl) (wp_as (Code.nav [1, 1, 0] stB) (by kernel_rfl) (At.codeK ok_nil 100 [1, 2, 3, 6, 8] (st_3 c Cft.zero t b) hs fun a w hs => then_normal ?_))
            refine wp_seqN (by kernel_rfl) (wp_as (Code.nav [1, 1, 1, 0] stB) (by kernel_rfl) (At.codeK ok_nil 100 [1, 2, 3, 6, 8] (st_4 c Cft.zero t b) hs fun a w hs => then_normal ?_))
            rw [st1_eq] at hs
            refine wp_seqN (by kernel_rfl) (wp_as (Code.nav [1, 1, 1, 1, 0] stB) (by kernel_rfl) (At.codeK ok_nil 100 [1, 2, 3, 6, 8] (st_7 c Cft.zero t b { st0 t with gap := gapV c t } (.map false [])) hs fun a w hs => then_normal ?_))
            have hs : At [] w0 106 (sU t b) (s4 c Cft.zero (st1 c t) (.map false [])) a w := hs
            have r8 := st_8 c Cft.zero t b (st1 c t) (hearF fitP hearP) (.map false [])
            rw [hearF_at, show fitP (nm c) b = true from hfit, bt] at r8
            refine wp_seqN (by kernel_rfl) (wp_as (Code.nav [1, 1, 1, 1, 1, 0] stB) (by kernel_rfl) (At.codeK (ok1 (enter_at (nt := 79) (res := []) (by kernel_rfl)) hear_con) 100 [1, 2, 3, 6, 8] r8 hs fun a w hs => then_normal ?_))
            have hs : At [] w0 106 (sU t b) (s4 (stH c t b).c Cft.zero (stH c t b).s (rdB (stH c t b).rd)) a w := hs
            have ho : stepP c t b = ⟨nextP (stH c t b) t, outP (stH c t b) t⟩ := by unfold stepP; rw [if_neg hi]
            have hm : (stH c t b).c.pl.mode = c.pl.mode := by unfold stH; rw [hear_mode, nm_mode]
            rw [← hm] at hmode
            rw [ho]
            generalize stH c t b = h at hs hmode
            clear ho hm r8 r1 hfit hi hif hc
            have r9 := st_9 h.c Cft.zero t b h.s (rdG h.rd) (rdP h.rd) Qx.qbSte
            have r9' : acode Tryz.prog [(32, .flow FT (shF [.agg (.flag :: Ns 7), Qx.V, Qx.N1] (.agg (.flag :: Ns 7)) Qx.qbSte))] 100 106 (Code.nav [1, 1, 1, 1, 1, 1, 0] stB) (sU t b) (s4 h.c Cft.zero h.s (.mapN 5 (rdG h.rd) (rdP h.rd))) (keepL [1, 2, 3, 6, 8] 4) =
                some (.normal, sU t b, s4 (driftP h) Cft.zero h.s (.mapN 5 (rdG h.rd) (rdP h.rd))) := by
              rw [r9]
              unfold driftP
              cases rdP h.rd 3 with
              | true => rw [bt, if_pos rfl]
              | false => rw [bf, if_neg (by simp)]
            refine wp_seqN (by kernel_rfl) (wp_as (Code.nav [1, 1, 1, 1, 1, 1, 0] stB) (by kernel_rfl) (At.codeKL (EnvOk.f ok_nil (enter_of Tryz.func32 (by kernel_rfl) rfl) Qx.qbSte_con) 100 [1, 2, 3, 6, 8] 4 r9' hs fun X a w hs => then_normal ?_))
            have hs : At [] w0 106 (sU t b) (s4 (driftP h) Cft.zero h.s (.mapN 5 (rdG h.rd) (rdP h.rd))) a w := hs.keep (Nat.zero_le _) (by rw [List.length_append]; exact Nat.le_add_right _ _) ⟨⟨rfl, rfl⟩, ⟨rfl, rfl⟩, ⟨rfl, rfl⟩, ⟨rfl, rfl⟩, ⟨rfl, rfl⟩, trivial⟩ ⟨.inr ⟨rfl, cav_trunc _ _⟩, .inr ⟨rfl, cav_trunc _ _⟩, .inr ⟨rfl, trivial⟩, .inr ⟨rfl, sav_trunc _ _ (Nat.le_of_ble_eq_true rfl)⟩, trivial⟩
            have r12 := st_12 (driftP h) Cft.zero t b h.s (lookF lookP) (.mapN 5 (rdG h.rd) (rdP h.rd))
            rw [lookF_at] at r12
            refine wp_seqN (by kernel_rfl) (wp_as (Code.nav [1, 1, 1, 1, 1, 1, 1, 0] stB) (by kernel_rfl) (At.codeK (ok1 (enter_of Tryz.func33 (by kernel_rfl) rfl) look_con) 100 [1, 2, 3, 6, 8] r12 hs fun a w hs => then_normal ?_))
            have hs : At [] w0 106 (sU t b) (s4 (driftP h) Cft.zero (seenP h) (.mapN 5 (rdG h.rd) (rdP h.rd))) a w := hs
            have r13 := st_13 (driftP h) Cft.zero t b (seenP h) (filtF filtC filtS) (.mapN 5 (rdG h.rd) (rdP h.rd))
            rw [filtF_at] at r13
            have r13' : acode Tryz.prog [(34, .eff anyArgs (filtF filtC filtS))] 100 106 (Code.nav [1, 1, 1, 1, 1, 1, 1, 1, 0] stB) (sU t b) (s4 (driftP h) Cft.zero (seenP h) (.mapN 5 (rdG h.rd) (rdP h.rd))) (keepK [1, 2, 3, 6, 8]) =
                some (.normal, sU t b, s4 (guessP h) Cft.zero (sawP h) (.mapN 5 (rdG h.rd) (rdP h.rd))) := by
              rw [r13]
              unfold guessP sawP
              show (bif goes (driftP h) (seenP h) then _ else _) = _
              cases goes (driftP h) (seenP h) with
              | true => rw [bt, if_pos rfl, if_pos rfl]
              | false => rw [bf, if_neg (by simp), if_neg (by simp)]
            refine wp_seqN (by kernel_rfl) (wp_as (Code.nav [1, 1, 1, 1, 1, 1, 1, 1, 0] stB) (by kernel_rfl) (At.codeK (ok1 (enter_of Tryz.func34 (by kernel_rfl) rfl) filt_con) 100 [1, 2, 3, 6, 8] r13' hs fun a w hs => then_normal ?_))
            have r15 := st_15 (guessP h) Cft.zero t b (sawP h) (planF Md.modeOk planP) (.mapN 5 (rdG h.rd) (rdP h.rd))
            rw [planF_at, guess_mode, hmode, bt] at r15
            refine wp_seqN (by kernel_rfl) (wp_as (Code.nav [1, 1, 1, 1, 1, 1, 1, 1, 1, 0] stB) (by kernel_rfl) (At.codeK (ok1 (enter_of Tryz.func35 (by kernel_rfl) rfl) plan_con) 100 [1, 2, 3, 6, 8] r15 hs fun a w hs => then_normal ?_))
            refine wp_seqN (by kernel_rfl) (wp_as (Code.nav [1, 1, 1, 1, 1, 1, 1, 1, 1, 1, 0] stB) (by kernel_rfl) (At.codeK ok_nil 100 [3, 6, 8] (st_16 (planP (nm (guessP h)) (nms (sawP h))) Cft.zero t b (sawP h) (.mapN 5 (rdG h.rd) (rdP h.rd))) hs fun a w hs => then_normal ?_))
            have hs : At [] w0 106 [(3, .ptr 0 0), (6, .ptr 1 0), (8, .ptr 3 0)] (s4 (nextP h t) Cft.zero (sawP h) (.mapN 5 (rdG h.rd) (rdP h.rd))) a w := hs
            refine wp_as (Code.nav [1, 1, 1, 1, 1, 1, 1, 1, 1, 1, 1] stB) (by kernel_rfl) (At.codeK (ok1s (enter_of Tryz.func36 (by kernel_rfl) rfl) tell_con) 100 [6, 7] (st_17 (nextP h t) Cft.zero (sawP h) (rdG h.rd) (rdP h.rd) tellP) hs fun a w hs => ?_)
            exact ⟨.inr rfl, _, _, _, hs, st_res (nextP h t) (nextP h t) _ _ _, rfl⟩
    · cases hF
  · cases hF
/-! ### The same, its guard told apart -/
def stpK (sc : Cft → ByteArray → Bool) : List AV → Bool
  | [.agg l, .int .i64 _, .str b] =>
    match Cft.of l with
    | some c => sc c b
    | none => false
  | _ => false
def stpG (sp : Cft → Int → ByteArray → Sres) : List AV → Option AV
  | [.agg l, .int .i64 t, .str b] =>
    match Cft.of l with
    | some c => some (.tup [.agg (sp c t b).c.av, .str (sp c t b).out])
    | none => none
  | _ => none
theorem step_conK : PureOk Tryz.prog 13 (stpK stepC) (stpG stepP) := by
  intro args v hC hv
  refine step_con args v rfl ?_
  unfold stpG at hv
  split at hv
  · rename_i l t b
    have hC : (match Cft.of l with | some c => stepC c b | none => false) = true := hC
    show (match Cft.of l with | some c => bif stepC c b then some (AV.tup [.agg (stepP c t b).c.av, .str (stepP c t b).out]) else none | none => none) = some v
    cases hc : Cft.of l with
    | none => rw [hc] at hv; cases hv
    | some c =>
      rw [hc] at hv hC
      have hC : stepC c b = true := hC
      have hv : some (AV.tup [.agg (stepP c t b).c.av, .str (stepP c t b).out]) = some v := hv
      show (bif stepC c b then some (AV.tup [.agg (stepP c t b).c.av, .str (stepP c t b).out]) else none) = some v
      rw [hC]
      exact hv
  · cases hv
#print axioms step_conK
end Go.Proofs.YtdojnnlhaiennaaGreat.Cs

/- What is written is read as that, and what is read is written as that; the laws of layer 16. Conditions: none. -/
namespace Go.Proofs.YtdojnnlhaiennaaGreat.Orb
open Go Go.Proofs.YtdojnnlhaiennaaGreat.Ae Go.Proofs.YtdojnnlhaiennaaGreat.Fx Go.Proofs.YtdojnnlhaiennaaGreat.Lx Go.Proofs.YtdojnnlhaiennaaGreat.Tx Go.Proofs.YtdojnnlhaiennaaGreat.Te Go.Proofs.YtdojnnlhaiennaaGreat.Rx Go.Proofs.YtdojnnlhaiennaaGreat.Row

/-! ### Eight bytes -/
theorem tk_gen {t b : Int} (hb : 0 ≤ b ∧ b < 256) : tk t b = wr .i64 (t * 256 + b) := by
  unfold tk
  rw [p2_8, w64_in (n := b) (by omega) (by omega)]
  have h : bor .i64 (wr .i64 (t * 256)) b = wr .i64 ((BitVec.ofInt 64 (wr .i64 (t * 256)) ||| BitVec.ofInt 64 b).toNat : Int) := by unfold bor; rw [wr_eq]; rfl
  have e64 : ((2 ^ 64 : Nat) : Int) = 18446744073709551616 := by kernel_rfl
  have h1 : (BitVec.ofInt 64 (wr .i64 (t * 256))).toNat = 256 * (t % 72057594037927936).toNat := by
    rw [BitVec.toNat_ofInt, e64, wr_i64]
    omega
  have h2 : (BitVec.ofInt 64 b).toNat = b.toNat := ofInt_toNat (by omega) (by omega)
  rw [h, BitVec.toNat_or, h1, h2, or_small (by omega), wr_i64, wr_i64]
  omega
theorem wr_step (X b : Int) : wr .i64 (wr .i64 X * 256 + b) = wr .i64 (X * 256 + b) := by
  simp only [wr_i64]; omega
def sum8 (g : Nat → Int) (i : Nat) : Int := ((((((g (i + 0) * 256 + g (i + 1)) * 256 + g (i + 2)) * 256 + g (i + 3)) * 256 + g (i + 4)) * 256 + g (i + 5)) * 256 + g (i + 6)) * 256 + g (i + 7)
theorem num_eq {g : Nat → Int} (hg : B g) (i : Nat) : num g i = wr .i64 (sum8 g i) := by
  unfold num sum8
  rw [tk_gen (hg (i + 0)), tk_gen (hg (i + 1)), tk_gen (hg (i + 2)), tk_gen (hg (i + 3)), tk_gen (hg (i + 4)), tk_gen (hg (i + 5)), tk_gen (hg (i + 6)), tk_gen (hg (i + 7))]
  simp only [wr_step, Int.zero_mul, Int.zero_add]
theorem sum_back {n : Int} (h : -9223372036854775808 ≤ n ∧ n < 9223372036854775808) :
    wr .i64 (((((((n / 72057594037927936 % 256 * 256 + n / 281474976710656 % 256) * 256 + n / 1099511627776 % 256) * 256 + n / 4294967296 % 256) * 256 + n / 16777216 % 256) * 256 + n / 65536 % 256) * 256 + n / 256 % 256) * 256 + n / 1 % 256) = n := by
  rw [wr_i64]; omega
/-- The bytes of a number, read. -/
theorem num_pb {g : Nat → Int} (hg : B g) {i : Nat} {n : Int} (h : -9223372036854775808 ≤ n ∧ n < 9223372036854775808)
    (e : g (i + 0) = n / p2 56 % 256 ∧ g (i + 1) = n / p2 48 % 256 ∧ g (i + 2) = n / p2 40 % 256 ∧ g (i + 3) = n / p2 32 % 256 ∧ g (i + 4) = n / p2 24 % 256 ∧ g (i + 5) = n / p2 16 % 256 ∧ g (i + 6) = n / p2 8 % 256 ∧ g (i + 7) = n / p2 0 % 256) : num g i = n := by
  obtain ⟨p1, p2', p3, p4, p5, p6, p7, p8⟩ := pnums
  obtain ⟨e0, e1, e2, e3, e4, e5, e6, e7⟩ := e
  rw [num_eq hg]
  unfold sum8
  rw [e0, e1, e2, e3, e4, e5, e6, e7, p1, p2', p3, p4, p5, p6, p7, p8]
  exact sum_back h
/-- .. and the other way. -/
theorem pb_num {g : Nat → Int} (hg : B g) (i : Nat) : pb (num g i) = [g (i + 0), g (i + 1), g (i + 2), g (i + 3), g (i + 4), g (i + 5), g (i + 6), g (i + 7)] := by
  obtain ⟨p1, p2', p3, p4, p5, p6, p7, p8⟩ := pnums
  rw [num_eq hg]
  unfold pb sum8
  simp only [u8_eq, p1, p2', p3, p4, p5, p6, p7, p8]
  have h0 := hg (i + 0); have h1 := hg (i + 1); have h2 := hg (i + 2); have h3 := hg (i + 3); have h4 := hg (i + 4); have h5 := hg (i + 5); have h6 := hg (i + 6); have h7 := hg (i + 7)
  generalize g (i + 0) = b0 at *
  generalize g (i + 1) = b1 at *
  generalize g (i + 2) = b2 at *
  generalize g (i + 3) = b3 at *
  generalize g (i + 4) = b4 at *
  generalize g (i + 5) = b5 at *
  generalize g (i + 6) = b6 at *
  generalize g (i + 7) = b7 at *
  rw [wr_i64]
  have hV : ((((((b0 * 256 + b1) * 256 + b2) * 256 + b3) * 256 + b4) * 256 + b5) * 256 + b6) * 256 + b7 = b0 * 72057594037927936 + b1 * 281474976710656 + b2 * 1099511627776 + b3 * 4294967296 + b4 * 16777216 + b5 * 65536 + b6 * 256 + b7 := by omega
  rw [hV]
  generalize hX : (b0 * 72057594037927936 + b1 * 281474976710656 + b2 * 1099511627776 + b3 * 4294967296 + b4 * 16777216 + b5 * 65536 + b6 * 256 + b7 + 9223372036854775808) % 18446744073709551616 - 9223372036854775808 = X
  have hc : X = b0 * 72057594037927936 + b1 * 281474976710656 + b2 * 1099511627776 + b3 * 4294967296 + b4 * 16777216 + b5 * 65536 + b6 * 256 + b7 ∨ X = b0 * 72057594037927936 + b1 * 281474976710656 + b2 * 1099511627776 + b3 * 4294967296 + b4 * 16777216 + b5 * 65536 + b6 * 256 + b7 - 18446744073709551616 := by omega
  have e0 : X / 72057594037927936 % 256 = b0 := by omega
  have e1 : X / 281474976710656 % 256 = b1 := by omega
  have e2 : X / 1099511627776 % 256 = b2 := by omega
  have e3 : X / 4294967296 % 256 = b3 := by omega
  have e4 : X / 16777216 % 256 = b4 := by omega
  have e5 : X / 65536 % 256 = b5 := by omega
  have e6 : X / 256 % 256 = b6 := by omega
  have e7 : X / 1 % 256 = b7 := by omega
  rw [e0, e1, e2, e3, e4, e5, e6, e7]

/-! ### The laws' shapes -/
def elEq (x y : El) : Bool := (x.a == y.a) && ((x.e == y.e) && ((x.i == y.i) && ((x.node == y.node) && ((x.peri == y.peri) && ((x.m == y.m) && ((x.t == y.t) && true))))))
def ordEq (x y : Ord) : Bool := (x.q == y.q) && ((x.c == y.c) && (elEq x.el y.el && true))
section
variable (wf rwf : Ord → Fr) (rd : Int → ByteArray → RO)
end

/-! ### They are true -/
def in64 (n : Int) : Prop := -9223372036854775808 ≤ n ∧ n < 9223372036854775808
structure El.In (o : El) : Prop where
  a : in64 o.a
  e : in64 o.e
  i : in64 o.i
  node : in64 o.node
  peri : in64 o.peri
  m : in64 o.m
  t : in64 o.t
theorem rdEl_oBytes {o : Ord} (h : o.el.In) : rdEl (gOf (strOf (oBytes o))) = o.el := by
  have G : ∀ (i : Nat) (n : Int), (oBytes o)[i]? = some (wr .u8 n) → gOf (strOf (oBytes o)) i = n % 256 := fun i n h => gOf_strOf _ (n := n % 256) h (by omega)
  have hB := gOf_B (strOf (oBytes o))
  unfold rdEl
  rw [num_pb hB (i := 2) h.a ⟨G 2 _ rfl, G 3 _ rfl, G 4 _ rfl, G 5 _ rfl, G 6 _ rfl, G 7 _ rfl, G 8 _ rfl, G 9 _ rfl⟩,
    num_pb hB (i := 10) h.e ⟨G 10 _ rfl, G 11 _ rfl, G 12 _ rfl, G 13 _ rfl, G 14 _ rfl, G 15 _ rfl, G 16 _ rfl, G 17 _ rfl⟩,
    num_pb hB (i := 18) h.i ⟨G 18 _ rfl, G 19 _ rfl, G 20 _ rfl, G 21 _ rfl, G 22 _ rfl, G 23 _ rfl, G 24 _ rfl, G 25 _ rfl⟩,
    num_pb hB (i := 26) h.node ⟨G 26 _ rfl, G 27 _ rfl, G 28 _ rfl, G 29 _ rfl, G 30 _ rfl, G 31 _ rfl, G 32 _ rfl, G 33 _ rfl⟩,
    num_pb hB (i := 34) h.peri ⟨G 34 _ rfl, G 35 _ rfl, G 36 _ rfl, G 37 _ rfl, G 38 _ rfl, G 39 _ rfl, G 40 _ rfl, G 41 _ rfl⟩,
    num_pb hB (i := 42) h.m ⟨G 42 _ rfl, G 43 _ rfl, G 44 _ rfl, G 45 _ rfl, G 46 _ rfl, G 47 _ rfl, G 48 _ rfl, G 49 _ rfl⟩,
    num_pb hB (i := 50) h.t ⟨G 50 _ rfl, G 51 _ rfl, G 52 _ rfl, G 53 _ rfl, G 54 _ rfl, G 55 _ rfl, G 56 _ rfl, G 57 _ rfl⟩]
theorem elEq_refl (x : El) : elEq x x = true := by unfold elEq; simp
theorem ordEq_refl (x : Ord) : ordEq x x = true := by unfold ordEq; simp [elEq_refl]
/-- What a written order is read as. -/
theorem readO_writeO {o : Ord} (h : o.el.In) (hok : (writeO o).ok = true) : readO (writeO o).k (writeO o).s = ⟨⟨o.q, o.c, if o.c = 3 then o.el else El.zero⟩, 0⟩ := by
  unfold writeO at hok ⊢
  by_cases hq : 0 ≤ o.q ∧ o.q ≤ 255
  · rw [if_pos hq] at hok ⊢
    have eq : o.q % 256 = o.q := by omega
    by_cases h124 : o.c = 1 ∨ o.c = 2 ∨ o.c = 4
    · rw [if_pos h124]
      have ec : o.c % 256 = o.c := by omega
      have g0 : gOf (strOf [wr .u8 o.q, wr .u8 o.c]) 0 = o.q := (gOf_strOf _ (n := o.q % 256) rfl (by omega)).trans eq
      have g1 : gOf (strOf [wr .u8 o.q, wr .u8 o.c]) 1 = o.c := (gOf_strOf _ (n := o.c % 256) rfl (by omega)).trans ec
      have hs : (strOf [wr .u8 o.q, wr .u8 o.c]).size = 2 := by rw [strOf_size]; rfl
      unfold readO
      simp only [g0, g1, hs]
      rw [if_pos ⟨trivial, by omega⟩, if_pos h124, if_pos trivial, if_neg (by omega)]
    · rw [if_neg h124] at hok ⊢
      by_cases h3 : o.c = 3 ∧ rightO o.el = true
      · rw [if_pos h3]
        obtain ⟨c3, hr⟩ := h3
        have g0 : gOf (strOf (oBytes o)) 0 = o.q := (gOf_strOf _ (n := o.q % 256) rfl (by omega)).trans eq
        have g1 : gOf (strOf (oBytes o)) 1 = 3 := (gOf_strOf _ (n := o.c % 256) rfl (by omega)).trans (by omega)
        have hs : (strOf (oBytes o)).size = 58 := by rw [strOf_size]; rfl
        unfold readO
        simp only [g0, g1, hs, rdEl_oBytes h, hr, if_true]
        rw [if_pos ⟨trivial, by omega⟩, if_neg (by omega), if_pos c3, c3]
      · rw [if_neg h3] at hok; cases hok
  · rw [if_neg hq] at hok; cases hok
theorem owrites_plain {o : Ord} (h : o.el.In) :
    (let x := writeO o
    let y := writeO o
    bif oor (!(fEq x.k y.k x.s y.s)) (x.ok != y.ok) then some false else bif !x.ok then some true else
    let p := readO x.k x.s
    bif o.c != 3 then some (an (p.e == 0) (ordEq p.o ⟨o.q, o.c, El.zero⟩)) else some (an (p.e == 0) (ordEq p.o o))) = some true := by
  dsimp only
  rw [fEq_refl]
  cases hok : (writeO o).ok
  · rfl
  · rw [readO_writeO h hok]
    by_cases h3 : o.c = 3
    · rw [ne_f h3, if_pos h3]
      simp only [bf]
      have : (⟨o.q, o.c, o.el⟩ : Ord) = o := rfl
      rw [this, ordEq_refl]; rfl
    · rw [ne_t h3, if_neg h3]
      simp only [bt]
      rw [ordEq_refl]; rfl
theorem oBytes_back {s : ByteArray} (hs : s.size = 58) : strOf (oBytes ⟨gOf s 0, gOf s 1, rdEl (gOf s)⟩) = s := by
  have hg := gOf_B s
  refine strOf_gOf (by rw [hs]; rfl) (fun i hi => ?_)
  rw [hs] at hi
  generalize gOf s = g at *
  have h0 := hg 0
  have h1 := hg 1
  have e0 : g 0 % 256 = g 0 := by omega
  have e1 : g 1 % 256 = g 1 := by omega
  have key : oBytes ⟨g 0, g 1, rdEl g⟩ = (List.range 58).map g := by
    unfold oBytes rdEl
    simp only [pb_num hg, u8_eq, e0, e1]
    rfl
  rw [key]
  simp [hi]
theorem two_back {s : ByteArray} (hs : s.size = 2) : strOf [wr .u8 (gOf s 0), wr .u8 (gOf s 1)] = s := by
  have hg := gOf_B s
  refine strOf_gOf (by rw [hs]; rfl) (fun i hi => ?_)
  rw [hs] at hi
  have h0 := hg 0
  have h1 := hg 1
  have e0 : wr .u8 (gOf s 0) = gOf s 0 := by rw [u8_eq]; omega
  have e1 : wr .u8 (gOf s 1) = gOf s 1 := by rw [u8_eq]; omega
  rw [e0, e1]
  match i, hi with
  | 0, _ => rfl
  | 1, _ => rfl
  | n + 2, h => exact absurd h (by omega)
theorem oback_plain (k : Int) (s : ByteArray) :
    (let r := readO k s
    bif r.e != 0 then (bif r.o.c == 0 then some (an true (elEq r.o.el El.zero)) else some false) else
    let y := writeO r.o
    some (an y.ok (fEq k y.k s y.s))) = some true := by
  dsimp only
  have bad : ∀ (q e : Int), e ≠ 0 → (bif (RO.mk ⟨q, 0, El.zero⟩ e).e != 0 then some (an ((RO.mk ⟨q, 0, El.zero⟩ e).o.c == 0) (elEq (RO.mk ⟨q, 0, El.zero⟩ e).o.el El.zero)) else
      some (an (writeO (RO.mk ⟨q, 0, El.zero⟩ e).o).ok (fEq k (writeO (RO.mk ⟨q, 0, El.zero⟩ e).o).k s (writeO (RO.mk ⟨q, 0, El.zero⟩ e).o).s))) = some true := fun q e he => by
    dsimp only
    rw [ne_t he, bt]
    rfl
  have hg0 := gOf_B s 0
  unfold readO
  by_cases hk : k = 16 ∧ 2 ≤ s.size
  · rw [if_pos hk]
    obtain ⟨rfl, _⟩ := hk
    by_cases c124 : gOf s 1 = 1 ∨ gOf s 1 = 2 ∨ gOf s 1 = 4
    · rw [if_pos c124]
      by_cases hs : s.size = 2
      · rw [if_pos hs]
        unfold writeO
        dsimp only
        rw [ne_f rfl, bf, if_pos (by omega), if_pos c124]
        dsimp only
        rw [two_back hs, fEq_refl]; rfl
      · rw [if_neg hs]; exact bad _ 1 (by decide)
    · rw [if_neg c124]
      by_cases c3 : gOf s 1 = 3
      · rw [if_pos c3]
        by_cases hs : s.size = 58
        · rw [if_pos hs]
          by_cases hr : rightO (rdEl (gOf s)) = true
          · rw [if_pos hr]
            unfold writeO
            dsimp only
            rw [ne_f rfl, bf, if_pos (by omega), if_neg (by omega), if_pos ⟨rfl, hr⟩]
            dsimp only
            rw [← c3, oBytes_back hs, fEq_refl]; rfl
          · rw [if_neg hr]; exact bad _ 3 (by decide)
        · rw [if_neg hs]; exact bad _ 1 (by decide)
      · rw [if_neg c3]; exact bad _ 2 (by decide)
  · rw [if_neg hk]; exact bad _ 1 (by decide)
theorem wf_in {n : Int} (h : (Lit.int .i64 n).wf = true) : in64 n := by
  simp [Lit.wf, IntKind.min, IntKind.max, IntKind.signed, IntKind.bits] at h
  unfold in64; omega
end Go.Proofs.YtdojnnlhaiennaaGreat.Orb

/- The reference's reading of an order is the program's. Conditions: none. -/
namespace Go.Proofs.YtdojnnlhaiennaaGreat.Orb
open Go Go.Proofs.YtdojnnlhaiennaaGreat.Ae Go.Proofs.YtdojnnlhaiennaaGreat.Fx Go.Proofs.YtdojnnlhaiennaaGreat.Lx Go.Proofs.YtdojnnlhaiennaaGreat.Tx Go.Proofs.YtdojnnlhaiennaaGreat.Te Go.Proofs.YtdojnnlhaiennaaGreat.Rx Go.Proofs.YtdojnnlhaiennaaGreat.Row

def rtk (n b : Int) : Int := wr .u64 (wr .u64 (n * 256) + wr .u64 b)
def rnum (g : Nat → Int) (i : Nat) : Int := wr .i64 (rtk (rtk (rtk (rtk (rtk (rtk (rtk (rtk 0 (g (i + 0))) (g (i + 1))) (g (i + 2))) (g (i + 3))) (g (i + 4))) (g (i + 5))) (g (i + 6))) (g (i + 7)))
def rrdEl (g : Nat → Int) : El := ⟨rnum g 2, rnum g 10, rnum g 18, rnum g 26, rnum g 34, rnum g 42, rnum g 50⟩
theorem rtk_eq {n m b : Int} (h : n = wr .u64 m) (hb : 0 ≤ b ∧ b < 256) : rtk n b = wr .u64 (m * 256 + b) := by
  unfold rtk; subst h; simp only [wr_u64]; omega
theorem rnum_eq {g : Nat → Int} (hg : B g) (i : Nat) : rnum g i = num g i := by
  rw [num_eq hg]
  unfold rnum sum8
  rw [rtk_eq (rtk_eq (rtk_eq (rtk_eq (rtk_eq (rtk_eq (rtk_eq (rtk_eq (m := 0) (by rw [wr_u64]; rfl) (hg (i + 0))) (hg (i + 1))) (hg (i + 2))) (hg (i + 3))) (hg (i + 4))) (hg (i + 5))) (hg (i + 6))) (hg (i + 7))]
  simp only [wr_u64, wr_i64, Int.zero_mul, Int.zero_add]
  omega
theorem rrdEl_eq {g : Nat → Int} (hg : B g) : rrdEl g = rdEl g := by
  unfold rrdEl rdEl
  simp only [rnum_eq hg]
section
variable (rt : El → Bool) (k : Int) (s : ByteArray) (g : Nat → Int)
def envRR : Env := [(28, .pure anyArgs (elF rt)), (27, .text)]
def rLong (c : Int) : Int := bif c == 3 then 58 else 2
def rTail (q c : Int) (b : Bool) (x3 : Option AV) : Option AV := bif (bif decide (c < 1) then true else decide (c > 4)) then ro q 0 El.zero 2 else bif b then ro q 0 El.zero 1 else bif c == 3 then x3 else ro q c El.zero 0
theorem rread0_raw : acall Tryz.prog (envRR rt) 120 11 [.agg [I k, .strG s 0 g]] [] pK = bif (bif k != 16 then true else true) then ro 0 0 El.zero 1 else none := by kernel_rfl
theorem rread1_raw : acall Tryz.prog (envRR rt) 120 11 [.agg [I k, .strG s 1 g]] [] pK = bif (bif k != 16 then true else true) then ro 0 0 El.zero 1 else none := by kernel_rfl
theorem rread2_raw : acall Tryz.prog (envRR rt) 120 11 [.agg [I k, .strG s 2 g]] [] pK =
    bif (bif k != 16 then true else false) then ro 0 0 El.zero 1 else rTail (wr .i64 (g 0)) (wr .i64 (g 1)) (2 != rLong (wr .i64 (g 1))) none := by kernel_rfl
theorem rread58_raw : acall Tryz.prog (envRR rt) 120 11 [.agg [I k, .strG s 58 g]] [] pK =
    bif (bif k != 16 then true else false) then ro 0 0 El.zero 1 else rTail (wr .i64 (g 0)) (wr .i64 (g 1)) (58 != rLong (wr .i64 (g 1))) (bif !(rt (rrdEl g)) then ro (wr .i64 (g 0)) 0 El.zero 3 else ro (wr .i64 (g 0)) (wr .i64 (g 1)) (rrdEl g) 0) := by kernel_rfl
theorem rreadF_raw : acall Tryz.prog (envRR rt) 120 11 [.agg [I k, .strF s 2 g [2, 58]]] [] pK =
    bif (bif k != 16 then true else false) then ro 0 0 El.zero 1 else
    bif (bif decide (wr .i64 (g 1) < 1) then true else decide (wr .i64 (g 1) > 4)) then ro (wr .i64 (g 0)) 0 El.zero 2 else
    bif ([2, 58].any fun c => c == rLong (wr .i64 (g 1))) then ro (wr .i64 (g 0)) 0 El.zero 1 else
    bif ((s.size : Int) != rLong (wr .i64 (g 1))) then ro (wr .i64 (g 0)) 0 El.zero 1 else
    bif wr .i64 (g 1) == 3 then none else ro (wr .i64 (g 0)) (wr .i64 (g 1)) El.zero 0 := by kernel_rfl
end
theorem envRR_ok : EnvOk Tryz.prog (envRR rightO) := EnvOk.p (EnvOk.t ok_nil (enter_of Tryz.func27 (by kernel_rfl) rfl)) (enter_of Tryz.func28 (by kernel_rfl) rfl) roright_con
/-- The reference's tree, by its parts. -/
theorem rTail_eq {q c : Int} {b : Bool} {x3 n1 n2 : Option AV} (h1 : c = 1 ∨ c = 2 ∨ c = 4 → (if b = true then ro q 0 El.zero 1 else ro q c El.zero 0) = n1) (h3 : c = 3 → (if b = true then ro q 0 El.zero 1 else x3) = n2) :
    rTail q c b x3 = if c = 1 ∨ c = 2 ∨ c = 4 then n1 else if c = 3 then n2 else ro q 0 El.zero 2 := by
  unfold rTail
  by_cases h0 : c < 1
  · rw [decide_eq_true h0, bt, bt, if_neg (by omega), if_neg (by omega)]
  rw [decide_eq_false h0, bf]
  by_cases h4 : c > 4
  · rw [decide_eq_true h4, bt, if_neg (by omega), if_neg (by omega)]
  rw [decide_eq_false h4, bf]
  by_cases c3 : c = 3
  · rw [if_neg (by omega), if_pos c3, ← h3 c3, eq_t c3, bt]
    cases b <;> rfl
  · have h := h1 (by omega)
    rw [if_pos (by omega), ← h, eq_f c3, bf]
    cases b <;> rfl
theorem rLong_3 {c : Int} (h : c = 3) : rLong c = 58 := by unfold rLong; rw [eq_t h, bt]
theorem rLong_n {c : Int} (h : ¬ c = 3) : rLong c = 2 := by unfold rLong; rw [eq_f h, bf]
theorem rread_con : PureOk Tryz.prog 11 anyArgs (oreadF readO) := by
  refine pure_of' envRR_ok 120 _ _ _ ?_
  rintro args v - h
  obtain ⟨k, s, rfl, rfl⟩ := oreadF_some h
  refine ⟨rfl, ?_⟩
  have strG : ∀ n, s.size = n → ∀ m Vs, RL m [.agg [I k, .str s]] Vs → RL m [.agg [I k, .strG s n (gOf s)]] Vs := fun n hn m Vs hv => RL_frame (fun V hV => by rw [← hn]; exact R_strG m s hV) hv
  have none1 : ¬ (k = 16 ∧ 2 ≤ s.size) → some (readO k s).av = ro 0 0 El.zero 1 := fun hn => by unfold readO; rw [if_neg hn]; rfl
  have kind : ∀ (X : Option AV), (k = 16 → X = some (readO k s).av) → 2 ≤ s.size → (bif (bif k != 16 then true else false) then ro 0 0 El.zero 1 else X) = some (readO k s).av := fun X hX h2 => by
    by_cases hk : k = 16
    · rw [ne_f hk, bf, bf, hX hk]
    · rw [ne_t hk, bt, bt, none1 (fun h => hk h.1)]
  rcases Nat.lt_or_ge s.size 2 with hlt | hge
  · rcases (show s.size = 0 ∨ s.size = 1 by omega) with hs | hs
    · exact ⟨_, rfl, strG 0 hs, (rread0_raw rightO k s (gOf s)).trans (by rw [none1 (fun h => by omega)]; cases (k != 16) <;> rfl)⟩
    · exact ⟨_, rfl, strG 1 hs, (rread1_raw rightO k s (gOf s)).trans (by rw [none1 (fun h => by omega)]; cases (k != 16) <;> rfl)⟩
  · have rd : ∀ (hk : k = 16), some (readO k s).av = if gOf s 1 = 1 ∨ gOf s 1 = 2 ∨ gOf s 1 = 4 then (if s.size = 2 then ro (gOf s 0) (gOf s 1) El.zero 0 else ro (gOf s 0) 0 El.zero 1) else if gOf s 1 = 3 then
        (if s.size = 58 then (if rightO (rdEl (gOf s)) then ro (gOf s 0) 3 (rdEl (gOf s)) 0 else ro (gOf s 0) 0 El.zero 3) else ro (gOf s 0) 0 El.zero 1) else ro (gOf s 0) 0 El.zero 2 := fun hk => by
      unfold readO
      rw [if_pos ⟨hk, hge⟩]
      repeat' split
      all_goals first | rfl | contradiction
    by_cases hs : s.size = 2
    · refine ⟨_, rfl, strG 2 hs, (rread2_raw rightO k s (gOf s)).trans (kind _ (fun hk => ?_) hge)⟩
      rw [rd hk, if_pos hs, if_neg (show ¬ s.size = 58 by omega), gw, gw]
      exact rTail_eq (fun e => by rw [rLong_n (by omega)]; rfl) (fun e => by rw [rLong_3 e]; rfl)
    · by_cases hs' : s.size = 58
      · refine ⟨_, rfl, strG 58 hs', (rread58_raw rightO k s (gOf s)).trans (kind _ (fun hk => ?_) hge)⟩
        rw [rd hk, if_neg hs, if_pos hs', gw, gw, rrdEl_eq (gOf_B s)]
        refine rTail_eq (fun e => by rw [rLong_n (by omega)]; rfl) (fun e => ?_)
        rw [rLong_3 e, e]
        cases rightO (rdEl (gOf s)) <;> rfl
      · refine ⟨[.agg [I k, .strF s 2 (gOf s) [2, 58]]], rfl, fun m Vs hv => RL_frame (fun V hV => R_strF m s 2 [2, 58] hge (by simp; omega) hV) hv, (rreadF_raw rightO k s (gOf s)).trans (kind _ (fun hk => ?_) hge)⟩
        rw [rd hk, if_neg hs, if_neg hs', gw, gw]
        refine Eq.trans ?_ (rTail_eq (q := gOf s 0) (c := gOf s 1) (b := true) (x3 := none) (fun _ => rfl) (fun _ => rfl))
        unfold rTail
        have e : ([2, 58].any fun c => c == rLong (gOf s 1)) = true := by
          by_cases h3 : gOf s 1 = 3
          · rw [rLong_3 h3]; rfl
          · rw [rLong_n h3]; rfl
        rw [e, bt, bt]
#print axioms rread_con
end Go.Proofs.YtdojnnlhaiennaaGreat.Orb

/- What a step's bytes tell: a contract. Conditions: none. -/
namespace Go.Proofs.YtdojnnlhaiennaaGreat.Tp
open Go Go.Proofs.YtdojnnlhaiennaaGreat.Ae Go.Proofs.YtdojnnlhaiennaaGreat.Fx Go.Proofs.YtdojnnlhaiennaaGreat.Te Go.Proofs.YtdojnnlhaiennaaGreat.Cs
open Go.Proofs.YtdojnnlhaiennaaGreat.Cr (opC opG kdI dtI opens opG_r)
open Go.Proofs.YtdojnnlhaiennaaGreat.Md (Pl Sn)
open Go.Proofs.YtdojnnlhaiennaaGreat.Orb (El RO)

def toldC (tc : ByteArray → Bool) : List AV → Bool
  | [.str s] => tc s
  | _ => false
def toldF (td : ByteArray → Rd) : List AV → Option AV
  | [.str s] => some (td s).av
  | _ => none
def envTd (kd : ByteArray → Int) (dt : ByteArray → ByteArray) (ok : ByteArray → Bool) (rd : Int → ByteArray → Rd) : Env := [(26, .pure (opC 90000) (opG kd dt ok)), (64, .pure anyArgs (readF rd))]
theorem told_raw (kd : ByteArray → Int) (dt : ByteArray → ByteArray) (ok : ByteArray → Bool) (rd : Int → ByteArray → Rd) (s : ByteArray) : acall Tryz.prog (envTd kd dt ok rd) 60 25 [.str s] [] pK =
    bif (Nat.ble 3 s.size && Nat.ble s.size 90000) then some (.tup [.agg (rd (kd s) (dt s)).t.av, .bool (bif ok s then (rd (kd s) (dt s)).ok else false)]) else none := by kernel_rfl
def szOk (s : ByteArray) : Bool := Nat.ble 3 s.size && Nat.ble s.size 90000
def toldP (s : ByteArray) : Rd := ⟨(readP (kdI s) (dtI s)).t, bif opens s then (readP (kdI s) (dtI s)).ok else false⟩
theorem ok_Td : EnvOk Tryz.prog (envTd kdI dtI opens readP) := EnvOk.p (EnvOk.p ok_nil (enter_of Tryz.func64 (by kernel_rfl) rfl) Te.rread_con) (enter_at (nt := 34) (res := [.cell 2 53, .tmp 3]) (by kernel_rfl)) opG_r
theorem told_con : PureOk Tryz.prog 25 (toldC szOk) (toldF toldP) := by
  refine pure_of' ok_Td 60 _ _ _ fun args v hC hv => ?_
  unfold toldF at hv
  split at hv
  · rename_i s
    cases hv
    have hC : szOk s = true := hC
    refine ⟨rfl, [.str s], rfl, fun m Vs h => h, (told_raw kdI dtI opens readP s).trans ?_⟩
    unfold szOk at hC
    rw [hC, bt]
    rfl
  · cases hv
theorem told_wrap (t : Tell) (h : rightP t = true) : szOk (Cr.wrapT (writeP t).s) = true ∧ toldP (Cr.wrapT (writeP t).s) = ⟨t, true⟩ := by
  have hw : writeP t = ⟨32, strOf (wBytes t), true⟩ := by unfold writeP; rw [if_pos h]
  have h26 : (strOf (wBytes t)).size = 26 := by rw [Cr.strOf_size]; rfl
  have hk : (writeP t).k = 32 := by rw [hw]
  have hs : (writeP t).s.size = 26 := by rw [hw]; exact h26
  have e : Cr.wrapT (writeP t).s = Cr.wrapB26 (writeP t).s := if_pos hs
  have ho := Cr.open_wrap (writeP t).s hs
  rw [Cr.openV_parts] at ho
  simp only [AV.tup.injEq, List.cons.injEq, AV.agg.injEq, AV.int.injEq, AV.str.injEq, AV.bool.injEq, true_and, and_true] at ho
  obtain ⟨⟨h1, h2⟩, h3⟩ := ho
  rw [e]
  refine ⟨?_, ?_⟩
  · have : (Cr.wrapB26 (writeP t).s).size = 31 := by
      unfold Cr.wrapB26 Cr.wrF
      rw [Cr.strOf_size]
      unfold Cr.tellL
      simp
    unfold szOk
    rw [this]; rfl
  · unfold toldP
    rw [h1, h2, h3, bt]
    have := readP_writeP t
    rw [hk, h, if_pos rfl] at this
    rw [this]
#print axioms told_con
/-! ### A first step -/
def envLi (sc : Cft → ByteArray → Bool) (sp : Cft → Int → ByteArray → Sres) (tc : ByteArray → Bool) (td : ByteArray → Rd) : Env := [(13, .pure (stpK sc) (stpG sp)), (25, .pure (toldC tc) (toldF td))]
def lightsT (sc : Bool) (tc : Bool) (on : Bool) (t : Rd) : Option AV := bif sc then (bif tc then some (.bool (bif (bif (bif on then t.ok else false) then t.t.m == 0 else false) then t.t.t == 5 else false)) else none) else none
theorem lights_raw (sc : Cft → ByteArray → Bool) (sp : Cft → Int → ByteArray → Sres) (tc : ByteArray → Bool) (td : ByteArray → Rd) : acall Tryz.prog (envLi sc sp tc td) 60 6 [] [] pK =
    lightsT (sc (nm Cft.zero) Cr.eS) (tc (sp (nm Cft.zero) 5 Cr.eS).out) (sp (nm Cft.zero) 5 Cr.eS).c.on (td (sp (nm Cft.zero) 5 Cr.eS).out) := by kernel_rfl
end Go.Proofs.YtdojnnlhaiennaaGreat.Tp

/- What stays so of crafts, and what an order does. Conditions: none. -/
namespace Go.Proofs.YtdojnnlhaiennaaGreat.Tp
open Go Go.Proofs.YtdojnnlhaiennaaGreat.Ae Go.Proofs.YtdojnnlhaiennaaGreat.Fx Go.Proofs.YtdojnnlhaiennaaGreat.Cs
open Go.Proofs.YtdojnnlhaiennaaGreat.Te (Rd Tell rightP RightX rightX readP writeP i16 cutP_right Seven)
open Go.Proofs.YtdojnnlhaiennaaGreat.Cr (Frm scanP kdI dtI opens)
open Go.Proofs.YtdojnnlhaiennaaGreat.Md (Pl Sn)
open Go.Proofs.YtdojnnlhaiennaaGreat.Orb (El RO readO)

/-! ### Fields of what is parsed -/
theorem nm_on (c : Cft) : (nm c).on = c.on := by kernel_rfl
theorem nm_tick (c : Cft) : (nm c).tick = c.tick := by kernel_rfl
theorem nm_left (c : Cft) : (nm c).left = c.left := by kernel_rfl
theorem nm_pl (c : Cft) : (nm c).pl = c.pl := by kernel_rfl
theorem nm_placed (c : Cft) : (nm c).placed = c.placed := by kernel_rfl
theorem nm_el (c : Cft) : (nm c).el = c.el := by kernel_rfl
theorem nm_ack (c : Cft) : (nm c).ack = c.ack := by kernel_rfl
theorem nm_err (c : Cft) : (nm c).err = c.err := by kernel_rfl
theorem nm_rej (c : Cft) : (nm c).rej = c.rej := by kernel_rfl
theorem nms_tick (s : Stp) : (nms s).tick = s.tick := by kernel_rfl
theorem nms_sn (s : Stp) : (nms s).sn = s.sn := by kernel_rfl

/-! ### What an order does -/
structure Orr where
  ack : Int
  err : Int
  placed : Bool
  el : El
  order : Int
def ordR (o : RO) (r : Orr) : Orr := ⟨o.o.q, o.e, if o.o.c = 3 then true else r.placed, if o.o.c = 3 then o.o.el else r.el, if o.o.c = 1 ∨ o.o.c = 2 then o.o.c else r.order⟩
def frmR (r : Orr) (x : Frm) : Orr := if x.1 = 16 then ordR (readO x.1 x.2) r else r
def orrOf (c : Cft) (n : Int) : Orr := ⟨c.ack, c.err, c.placed, c.el, n⟩
theorem readO_err (k : Int) (s : ByteArray) : ((readO k s).e ≠ 0 → (readO k s).o.c = 0) ∧ (0 ≤ (readO k s).o.q ∧ (readO k s).o.q ≤ 255) ∧ (0 ≤ (readO k s).e ∧ (readO k s).e ≤ 255) := by
  have h0 := Te.gOf_B s 0
  unfold readO
  repeat' split
  all_goals exact ⟨by simp, by dsimp only; omega, by dsimp only; omega⟩
theorem frm_orr (h : Hst) (x : Frm) : orrOf (frmP h x).c (frmP h x).s.sn.order = frmR (orrOf h.c h.s.sn.order) x := by
  have rej : ∀ (h : Hst), orrOf h.reject.c h.reject.s.sn.order = orrOf h.c h.s.sn.order := fun h => rfl
  unfold frmP frmR
  by_cases h3 : x.1 = 1 ∨ x.1 = 2 ∨ x.1 = 3
  · rw [if_pos h3, if_neg (by omega)]
    unfold sensP
    split <;> rfl
  rw [if_neg h3]
  by_cases h16 : x.1 = 16
  · rw [if_pos h16, if_pos h16]
    have he := (readO_err x.1 x.2).1
    generalize readO x.1 x.2 = o at *
    unfold ordP ordR
    by_cases e0 : o.e ≠ 0
    · rw [if_pos e0]
      have hc := he e0
      rw [if_neg (by omega), if_neg (by omega), if_neg (by omega)]
      rfl
    rw [if_neg e0]
    by_cases c12 : o.o.c = 1 ∨ o.o.c = 2
    · rw [if_pos c12, if_neg (by omega), if_neg (by omega), if_pos c12]; rfl
    rw [if_neg c12, if_neg c12]
    by_cases c3 : o.o.c = 3
    · rw [if_pos c3, if_pos c3, if_pos c3]; rfl
    rw [if_neg c3, if_neg c3, if_neg c3]
    split <;> rfl
  · rw [if_neg h16, if_neg h16]; rfl
theorem frms_orr : ∀ (l : List Frm) (h : Hst), orrOf (l.foldl frmP h).c (l.foldl frmP h).s.sn.order = l.foldl frmR (orrOf h.c h.s.sn.order)
  | [], h => rfl
  | x :: l, h => by rw [List.foldl_cons, List.foldl_cons, frms_orr l, frm_orr]
theorem hear_orr (c : Cft) (s : Stp) (b : ByteArray) : orrOf (hearP c s b).c (hearP c s b).s.sn.order = (scF (c.left ++ b)).foldl frmR (orrOf c s.sn.order) := by
  unfold hearP
  rw [frms_orr]
  congr 1
  split <;> rfl
theorem frm_left (h : Hst) (x : Frm) : (frmP h x).c.left = h.c.left ∧ (frmP h x).s.tick = h.s.tick := by
  unfold frmP
  repeat' split
  all_goals (try unfold sensP) <;> (try unfold ordP) <;> (try (repeat' split)) <;> exact ⟨rfl, rfl⟩
theorem frms_left : ∀ (l : List Frm) (h : Hst), (l.foldl frmP h).c.left = h.c.left ∧ (l.foldl frmP h).s.tick = h.s.tick
  | [], h => ⟨rfl, rfl⟩
  | x :: l, h => by rw [List.foldl_cons]; exact ⟨(frms_left l _).1.trans (frm_left h x).1, (frms_left l _).2.trans (frm_left h x).2⟩
theorem hear_left (c : Cft) (s : Stp) (b : ByteArray) : (hearP c s b).c.left = lfP (c.left ++ b) ∧ (hearP c s b).s.tick = s.tick := by
  unfold hearP
  refine ⟨(frms_left _ _).1.trans ?_, (frms_left _ _).2⟩
  split <;> rfl

/-! ### What stays so -/
structure Inv (c : Cft) : Prop where
  mode : Md.modeOk c.pl.mode = true
  faults : 0 ≤ c.pl.faults ∧ c.pl.faults ≤ 15
  ack : 0 ≤ c.ack ∧ c.ack ≤ 255
  err : 0 ≤ c.err ∧ c.err ≤ 255
  rej : 0 ≤ c.rej ∧ c.rej ≤ 65535
theorem rjct_in {r : Int} (h : 0 ≤ r ∧ r ≤ 65535) : rjct r = (if 65534 < r then 65535 else r + 1) ∧ 0 ≤ rjct r ∧ rjct r ≤ 65535 := by
  unfold rjct
  rw [wr_i64]
  by_cases h1 : (65534 : Int) < r
  · rw [if_pos h1, if_pos h1]; omega
  · rw [if_neg h1, if_neg h1]; omega
theorem Inv.reject {c : Cft} (h : Inv c) : Inv c.reject := ⟨h.mode, h.faults, h.ack, h.err, (rjct_in h.rej).2⟩
theorem Inv.frm {h : Hst} (hi : Inv h.c) (x : Frm) : Inv (frmP h x).c := by
  unfold frmP
  split
  · unfold sensP
    split
    · exact hi
    · exact hi.reject
  split
  · obtain ⟨h1, h2, h3⟩ := readO_err x.1 x.2
    generalize readO x.1 x.2 = o at *
    have ht : Inv (h.c.told o) := ⟨hi.mode, hi.faults, h2, h3, hi.rej⟩
    unfold ordP
    split
    · exact ht.reject
    split
    · exact ht
    split
    · exact ⟨ht.mode, ht.faults, ht.ack, ht.err, ht.rej⟩
    split
    · exact ⟨ht.mode, ⟨Int.le_refl 0, (by decide : (0 : Int) ≤ 15)⟩, ht.ack, ht.err, ⟨Int.le_refl 0, (by decide : (0 : Int) ≤ 65535)⟩⟩
    · exact ht
  · exact hi.reject
theorem Inv.frms : ∀ (l : List Frm) {h : Hst} (_ : Inv h.c), Inv (l.foldl frmP h).c
  | [], h, hi => hi
  | x :: l, h, hi => by rw [List.foldl_cons]; exact Inv.frms l (hi.frm x)
theorem Inv.hear {c : Cft} (h : Inv c) (s : Stp) (b : ByteArray) : Inv (hearP c s b).c := by
  unfold hearP
  refine Inv.frms _ ?_
  have h1 : Inv { c with left := lfP (c.left ++ b) } := ⟨h.mode, h.faults, h.ack, h.err, h.rej⟩
  show Inv (if ovP (c.left ++ b) > 0 then { c with left := lfP (c.left ++ b) }.reject else { c with left := lfP (c.left ++ b) })
  split
  · exact h1.reject
  · exact h1
theorem Inv.nm {c : Cft} (h : Inv c) : Inv (nm c) := ⟨by rw [nm_pl]; exact h.mode, by rw [nm_pl]; exact h.faults, by rw [nm_ack]; exact h.ack, by rw [nm_err]; exact h.err, by rw [nm_rej]; exact h.rej⟩
/-- What is not touched on the way to the plan. -/
structure Like (c d : Cft) : Prop where
  left : d.left = c.left
  pl : d.pl = c.pl
  placed : d.placed = c.placed
  el : d.el = c.el
  ack : d.ack = c.ack
  err : d.err = c.err
  rej : d.rej = c.rej
theorem Like.trans {a b c : Cft} (h : Like a b) (k : Like b c) : Like a c := ⟨k.left.trans h.left, k.pl.trans h.pl, k.placed.trans h.placed, k.el.trans h.el, k.ack.trans h.ack, k.err.trans h.err, k.rej.trans h.rej⟩
theorem Like.refl (c : Cft) : Like c c := ⟨rfl, rfl, rfl, rfl, rfl, rfl, rfl⟩
theorem Like.nm (c : Cft) : Like c (nm c) := ⟨nm_left c, nm_pl c, nm_placed c, nm_el c, nm_ack c, nm_err c, nm_rej c⟩
theorem Inv.like {c d : Cft} (h : Inv c) (k : Like c d) : Inv d := ⟨by rw [k.pl]; exact h.mode, by rw [k.pl]; exact h.faults, by rw [k.ack]; exact h.ack, by rw [k.err]; exact h.err, by rw [k.rej]; exact h.rej⟩
theorem drift_like (h : Hst) : Like h.c (driftP h) := by
  unfold driftP
  split
  · exact ⟨rfl, rfl, rfl, rfl, rfl, rfl, rfl⟩
  · exact Like.refl _
theorem guess_like (h : Hst) : Like h.c (guessP h) := by
  refine (drift_like h).trans ?_
  unfold guessP
  split
  · refine (Like.nm _).trans ?_
    exact ⟨rfl, rfl, rfl, rfl, rfl, rfl, rfl⟩
  · exact Like.refl _
theorem look_keeps (c : Cft) (s : Stp) (G : Int → Nat → Int) (P : Int → Bool) : (lookP c s G P).tick = s.tick ∧ (lookP c s G P).sn.order = s.sn.order ∧ (lookP c s G P).sn.gp = s.sn.gp ∧ (lookP c s G P).sn.gy = P 1 := by
  unfold lookP Cs.lookS lkS
  generalize lkSlow _ G P = a
  generalize (bif P 1 then a else s.sn.sl) = sl
  cases !c.placed with
  | true => exact ⟨rfl, rfl, rfl, rfl⟩
  | false =>
    simp only [cond_false]
    cases (lkFld Orb.placeP Su.dirP Fd.skyP c.el s).2 <;> exact ⟨rfl, rfl, rfl, rfl⟩
theorem seen_keeps (h : Hst) : (seenP h).tick = h.s.tick ∧ (seenP h).sn.order = h.s.sn.order ∧ (seenP h).sn.gp = h.s.sn.gp ∧ (seenP h).sn.gy = rdP h.rd 1 := by
  unfold seenP
  have := look_keeps (nm (driftP h)) (nms h.s) (rdG h.rd) (rdP h.rd)
  rw [nms_tick, nms_sn] at this
  exact this
theorem filt_keeps (c : Cft) (s : Stp) (G : Int → Nat → Int) (P : Int → Bool) : (filtS c s G P).tick = s.tick ∧ (filtS c s G P).sn.order = s.sn.order ∧ (filtS c s G P).sn.gp = s.sn.gp ∧ (filtS c s G P).sn.gy = s.sn.gy := by
  unfold filtS fiS
  cases (s.sn.pr && s.sn.li) <;> exact ⟨rfl, rfl, rfl, rfl⟩
theorem saw_keeps (h : Hst) : (sawP h).tick = h.s.tick ∧ (sawP h).sn.order = h.s.sn.order ∧ (sawP h).sn.gp = h.s.sn.gp ∧ (sawP h).sn.gy = rdP h.rd 1 := by
  have hs := seen_keeps h
  unfold sawP
  split
  · have hf := filt_keeps (nm (driftP h)) (nms (seenP h)) (rdG h.rd) (rdP h.rd)
    rw [nms_tick, nms_sn] at hf
    exact ⟨hf.1.trans hs.1, hf.2.1.trans hs.2.1, hf.2.2.1.trans hs.2.2.1, hf.2.2.2.trans hs.2.2.2⟩
  · exact hs
/-- What the plan leaves. -/
theorem plan_keeps (c : Cft) (s : Stp) : (planP c s).left = c.left ∧ (planP c s).placed = c.placed ∧ (planP c s).el = c.el ∧ (planP c s).ack = c.ack ∧ (planP c s).err = c.err ∧ (planP c s).rej = c.rej := by
  unfold planP plC
  repeat' split
  all_goals exact ⟨rfl, rfl, rfl, rfl, rfl, rfl⟩
theorem plan_pl (c : Cft) (s : Stp) : (planP c s).pl = Md.nextP c.pl s.sn ∨ ((Md.nextP c.pl s.sn).mode = 2 ∧ (planP c s).pl = ⟨1, 0, 0, 0, 0, bor .i64 (Md.nextP c.pl s.sn).faults 4⟩) := by
  unfold planP plC
  repeat' split
  all_goals first
    | exact .inl rfl
    | exact .inr ⟨by assumption, rfl⟩
theorem Inv.plan {c : Cft} (h : Inv c) (s : Stp) : Inv (planP c s) := by
  obtain ⟨_, _, _, h4, h5, h6⟩ := plan_keeps c s
  have hf := Md.next_faults c.pl s.sn h.faults
  have hm : Md.modeOk (planP c s).pl.mode = true ∧ (0 ≤ (planP c s).pl.faults ∧ (planP c s).pl.faults ≤ 15) := by
    rcases plan_pl c s with e | ⟨_, e⟩
    · rw [e]; exact ⟨Md.next_mode c.pl s.sn h.mode, hf⟩
    · rw [e]; exact ⟨rfl, Md.bor_in hf (.inr (.inr (.inl rfl)))⟩
  exact ⟨hm.1, hm.2, by rw [h4]; exact h.ack, by rw [h5]; exact h.err, by rw [h6]; exact h.rej⟩
theorem plan_safe (c : Cft) (s : Stp) (h : s.sn.order = 1) : (planP c s).pl.mode = 3 := by
  have hn := Md.next_safe c.pl s.sn h
  rcases plan_pl c s with e | ⟨h2, _⟩
  · rw [e]; exact hn
  · rw [hn] at h2; cases h2
/-- The craft behind a step. -/
theorem next_keeps (h : Hst) (t : Int) : (nextP h t).left = h.c.left ∧ (nextP h t).placed = h.c.placed ∧ (nextP h t).el = h.c.el ∧ (nextP h t).ack = h.c.ack ∧ (nextP h t).err = h.c.err ∧ (nextP h t).rej = h.c.rej := by
  have k := plan_keeps (nm (guessP h)) (nms (sawP h))
  have l := (guess_like h).trans (Like.nm (guessP h))
  exact ⟨k.1.trans l.left, k.2.1.trans l.placed, k.2.2.1.trans l.el, k.2.2.2.1.trans l.ack, k.2.2.2.2.1.trans l.err, k.2.2.2.2.2.trans l.rej⟩
theorem Inv.next {h : Hst} (hi : Inv h.c) (t : Int) : Inv (nextP h t) := by
  have k := (hi.like ((guess_like h).trans (Like.nm (guessP h)))).plan (nms (sawP h))
  exact ⟨k.mode, k.faults, k.ack, k.err, k.rej⟩
theorem next_safe (h : Hst) (t : Int) (ho : h.s.sn.order = 1) : (nextP h t).pl.mode = 3 := by
  refine plan_safe (nm (guessP h)) (nms (sawP h)) ?_
  rw [nms_sn, (saw_keeps h).2.1]
  exact ho

/-! ### What is told -/
theorem tell_right (c : Cft) (s : Stp) (hi : Inv c) (ht : isTick s.tick = true) : rightP (tellT c s) = true := by
  have hc := cutP_right (Te.seven Fx.part (c.gs 0) (c.gs 1) (c.gs 2) (c.gs 3) (tlM c).x (tlM c).y (tlM c).z)
  obtain ⟨_, _, _, _, _, _, q0, q1, q2, q3, d0, d1, d2⟩ := rightX hc
  have h0 : 0 ≤ s.tick ∧ s.tick ≤ 157766400000 := by
    unfold isTick at ht
    by_cases h : 0 ≤ s.tick
    · rw [decide_eq_true h, bt] at ht
      exact ⟨h, of_decide_eq_true ht⟩
    · rw [decide_eq_false h, bf] at ht; cases ht
  have hm : 0 ≤ c.pl.mode ∧ c.pl.mode ≤ 3 := by
    have := of_decide_eq_true hi.mode
    omega
  show Te.rightP ⟨s.tick, c.pl.mode, c.pl.faults, c.ack, c.err, c.rej, _, _, _, _, _, _, _⟩ = true
  unfold Te.rightP Te.i16
  simp only [Bool.and_eq_true, decide_eq_true_eq]
  exact ⟨⟨⟨⟨⟨⟨⟨⟨⟨⟨⟨⟨h0, hm⟩, hi.faults⟩, hi.ack⟩, hi.err⟩, hi.rej⟩, q0⟩, q1⟩, q2⟩, q3⟩, d0⟩, d1⟩, d2⟩
theorem not_idle {c : Cft} {t : Int} (h : idle c t = false) : isTick t = true ∧ (c.on = true → c.tick < t) := by
  unfold idle at h
  cases ht : isTick t with
  | false => rw [ht] at h; cases h
  | true =>
    rw [ht] at h
    refine ⟨rfl, fun ho => ?_⟩
    rw [ho] at h
    have h : decide (t ≤ c.tick) = false := h
    have := of_decide_eq_false h
    omega
/-- A step that tells something: what is told is right, and is read as that. -/
theorem step_told {c : Cft} {t : Int} (b : ByteArray) (hi : Inv c) (h : idle c t = false) :
    stepP c t b = ⟨nextP (stH c t b) t, outP (stH c t b) t⟩ ∧ Inv (stH c t b).c ∧ szOk (outP (stH c t b) t) = true ∧ toldP (outP (stH c t b) t) = ⟨tellT (nm (nextP (stH c t b) t)) (nms (sawP (stH c t b))), true⟩ ∧ (sawP (stH c t b)).tick = t := by
  have hh : Inv (stH c t b).c := hi.nm.hear _ b
  have hst : (stH c t b).s.tick = t := by
    unfold stH
    rw [(hear_left _ _ b).2, nms_tick]; rfl
  have htk : (sawP (stH c t b)).tick = t := (saw_keeps _).1.trans hst
  have hr := tell_right (nm (nextP (stH c t b) t)) (nms (sawP (stH c t b))) (hh.next t).nm (by rw [nms_tick, htk]; exact (not_idle h).1)
  obtain ⟨h1, h2⟩ := told_wrap _ hr
  refine ⟨?_, hh, h1, h2, htk⟩
  unfold stepP
  rw [if_neg (by rw [h]; simp)]
theorem szOk_ne {s : ByteArray} (h : szOk s = true) : s ≠ Cr.eS := by
  rintro rfl
  cases h
#print axioms step_told
end Go.Proofs.YtdojnnlhaiennaaGreat.Tp
