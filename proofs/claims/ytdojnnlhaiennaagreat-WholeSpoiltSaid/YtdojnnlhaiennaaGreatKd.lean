/- Regions that draw their order and make more than one block: the blocks are numbered by the text's order, whatever order is drawn. Conditions: the contracts that are looked up hold. -/
import Derived.Test.YtdojnnlhaiennaaGreatKc
namespace Go.Proofs.YtdojnnlhaiennaaGreat.Ae
open Go

section
variable {P : Program} {env : Env} {ops : Array Oper} {n : Nat} {A : List Va}

theorem devirt_after (n : Nat) (o : Oper) : (devirt n o).after = o.after ∧ (devirt n o).dst = o.dst ∧ (devirt n o).guard = o.guard := by
  unfold devirt
  split
  · rename_i h1 h2; exact ⟨rfl, by simp [h2], rfl⟩
  · exact ⟨rfl, rfl, rfl⟩
theorem devirt_not {o : Oper} (n : Nat) (h : isAllocB o.op = false) : devirt n o = o := by
  unfold devirt
  split
  · rename_i h1 h2; rw [h1] at h; cases h
  · rfl
theorem devirt_get (i : Nat) : (ops.map (devirt n))[i]? = (ops[i]?).map (devirt n) := by simp
theorem ready_devirt {listed : Array Bool} {i : Nat} : i ∈ Region.ready .any (ops.map (devirt n)) listed ↔ i ∈ Region.ready .any ops listed := by
  rw [mem_ready, mem_ready, devirt_get]
  constructor
  · rintro ⟨h0, o, ho, h⟩
    obtain ⟨o', ho', rfl⟩ := Option.map_eq_some_iff.1 ho
    rw [(devirt_after n o').1] at h
    exact ⟨h0, o', ho', h⟩
  · rintro ⟨h0, o, ho, h⟩
    exact ⟨h0, devirt n o, by rw [ho]; rfl, by rw [(devirt_after n o).1]; exact h⟩
theorem ready_devirt_nil {listed : Array Bool} (h : Region.ready .any ops listed = []) : Region.ready .any (ops.map (devirt n)) listed = [] := by
  rw [List.eq_nil_iff_forall_not_mem] at h ⊢
  exact fun i hi => h i (ready_devirt.1 hi)

/-- What is known of the region's operations. -/
structure VOk (P : Program) (ops : Array Oper) (n L : Nat) (A : List Va) (F : Foots) : Prop where
  dist : ∀ (i j : Nat) (a b : Va), A[i]? = some a → A[j]? = some b → a.d = b.d → i = j
  mem : ∀ a ∈ A, ∃ o, ops[a.i]? = some o ∧ o.op = .alloc a.t ∧ o.dst = some a.d ∧ (zeroA P a.t).bind cellsOf? = some a.l ∧ a.d < n ∧ AV.noPtrL a.l = true
  grd : ∀ (i : Nat) (o : Oper), ops[i]? = some o → o.guard = none
  all : ∀ (i : Nat) (o : Oper), ops[i]? = some o → isAllocB o.op = true → (∃ a ∈ A, a.i = i) ∧ ∀ e, e ∉ o.after
  oth : ∀ (i : Nat) (o : Oper) (f : Foot), ops[i]? = some o → F[i]? = some f → isAllocB o.op = false → (∀ d, o.dst = some d → d < n ∧ ∀ a ∈ A, a.d ≠ d) ∧ (∀ t ∈ o.looksAt ops, t < n) ∧
    ((∀ a ∈ A, ∃ e ∈ o.after, Region.binds .any e = true ∧ e.on = a.i) ∨ ((∀ t ∈ o.looksAt ops, ∀ a ∈ A, a.d ≠ t) ∧ lowF L f = true))

theorem slotIn_iff {t : Nat} : slotIn A t = true ↔ ∃ a ∈ A, a.d = t := by
  unfold slotIn
  simp only [List.any_eq_true]
  exact ⟨fun ⟨a, h, e⟩ => ⟨a, h, Nat.eq_of_beq_eq_true e⟩, fun ⟨a, h, e⟩ => ⟨a, h, by rw [e]; exact Nat.beq_refl _⟩⟩
theorem slotIn_not {t : Nat} (h : slotIn A t = false) : ∀ a ∈ A, a.d ≠ t := fun a ha e => by
  rw [slotIn_iff.2 ⟨a, ha, e⟩] at h; cases h
theorem distB_ok : ∀ {A : List Va}, distB A = true → ∀ (i j : Nat) (a b : Va), A[i]? = some a → A[j]? = some b → a.d = b.d → i = j
  | [], _, i, j, a, b, h, _, _ => by simp at h
  | c :: A, h, i, j, a, b, h1, h2, e => by
    simp only [distB, Bool.and_eq_true, Bool.not_eq_true'] at h
    rcases i with _ | i <;> rcases j with _ | j
    · rfl
    · simp at h1 h2; subst h1
      exact absurd e.symm (slotIn_not h.1 b (List.mem_of_getElem? h2))
    · simp at h1 h2; subst h2
      exact absurd e (slotIn_not h.1 a (List.mem_of_getElem? h1))
    · simp at h1 h2
      rw [distB_ok h.2 i j a b h1 h2 e]
theorem vasOf_mem : ∀ (l : List Oper) (k : Nat), (∀ j, l[j]? = ops[k + j]?) → ∀ a ∈ vasOf P k l, ∃ o, ops[a.i]? = some o ∧ o.op = .alloc a.t ∧ o.dst = some a.d ∧ (zeroA P a.t).bind cellsOf? = some a.l
  | [], k, _, a, h => by simp [vasOf] at h
  | o :: l, k, hl, a, h => by
    have h0 : ops[k]? = some o := by simpa using (hl 0).symm
    have hl' : ∀ j, l[j]? = ops[k + 1 + j]? := fun j => by have := hl (j + 1); simpa [Nat.add_assoc, Nat.add_comm 1 j] using this
    unfold vasOf at h
    split at h
    · rename_i t d h1 h2
      split at h
      · rename_i c hc
        rcases List.mem_cons.1 h with rfl | h
        · exact ⟨o, h0, h1, h2, hc⟩
        · exact vasOf_mem l (k + 1) hl' a h
      · exact vasOf_mem l (k + 1) hl' a h
    · exact vasOf_mem l (k + 1) hl' a h
theorem chkAll_get {L : Nat} : ∀ (l : List Oper) (F : Foots) (k : Nat), chkAll A ops n L k l F = true → ∀ j o, l[j]? = some o → (∃ f, F[j]? = some f) ∧ ∀ f, F[j]? = some f → chkOp A ops n L (k + j) o f = true
  | [], F, k, _, j, o, h => by simp at h
  | _ :: _, [], k, h, j, o, _ => by simp [chkAll] at h
  | o' :: l, f' :: F, k, h, j, o, ho => by
    simp only [chkAll, Bool.and_eq_true] at h
    rcases j with _ | j
    · simp at ho
      subst ho
      exact ⟨⟨f', rfl⟩, fun f hf => by simp at hf; subst hf; exact h.1⟩
    · simp at ho
      obtain ⟨h1, h2⟩ := chkAll_get l F (k + 1) h.2 j o ho
      refine ⟨by simpa using h1, fun f hf => ?_⟩
      have := h2 f (by simpa using hf)
      rw [show k + (j + 1) = k + 1 + j from by omega]; exact this
theorem vok_of {L : Nat} {F : Foots} (h1 : distB (vasOf P 0 ops.toList) = true) (h2 : (vasOf P 0 ops.toList).all (fun a => Nat.ble (a.d + 1) n && AV.noPtrL a.l) = true) (h3 : chkAll (vasOf P 0 ops.toList) ops n L 0 ops.toList F = true) : VOk P ops n L (vasOf P 0 ops.toList) F := by
  have hm := vasOf_mem (P := P) (ops := ops) ops.toList 0 (by simp)
  generalize vasOf P 0 ops.toList = A at *
  have hc : ∀ (i : Nat) (o : Oper), ops[i]? = some o → (∃ f, F[i]? = some f) ∧ ∀ f, F[i]? = some f → chkOp A ops n L i o f = true := fun i o ho => by
    have := chkAll_get ops.toList F 0 h3 i o (by simpa using ho)
    rw [Nat.zero_add] at this; exact this
  refine ⟨distB_ok h1, fun a ha => ?_, fun i o ho => ?_, fun i o ho hal => ?_, fun i o f ho hf hal => ?_⟩
  · obtain ⟨o, e1, e2, e3, e4⟩ := hm a ha
    have := List.all_eq_true.1 h2 a ha
    simp only [Bool.and_eq_true] at this
    exact ⟨o, e1, e2, e3, e4, Nat.le_of_ble_eq_true this.1, this.2⟩
  · obtain ⟨⟨f, hf⟩, h⟩ := hc i o ho
    have := h f hf
    simp only [chkOp, Bool.and_eq_true] at this
    simpa using this.1
  · obtain ⟨⟨f, hf⟩, h⟩ := hc i o ho
    have := h f hf
    simp only [chkOp, Bool.and_eq_true, hal, cond_true, List.any_eq_true] at this
    obtain ⟨-, ⟨a, ha, e⟩, he⟩ := this
    exact ⟨⟨a, ha, Nat.eq_of_beq_eq_true e⟩, fun e h => by simp at he; rw [he] at h; simp at h⟩
  · have := (hc i o ho).2 f hf
    simp only [chkOp, Bool.and_eq_true, hal, cond_false, Bool.or_eq_true, List.all_eq_true] at this
    obtain ⟨-, ⟨h4, h5⟩, h6⟩ := this
    refine ⟨fun d hd => ?_, fun t ht => Nat.le_of_ble_eq_true (h5 t ht), ?_⟩
    · rw [hd] at h4
      simp only [Bool.and_eq_true, Bool.not_eq_true'] at h4
      exact ⟨Nat.le_of_ble_eq_true h4.1, slotIn_not h4.2⟩
    · rcases h6 with h6 | ⟨h6, h7⟩
      · refine .inl fun a ha => ?_
        unfold aftAll at h6
        have := List.all_eq_true.1 h6 a ha
        simp only [List.any_eq_true, Bool.and_eq_true] at this
        obtain ⟨e, he, hb, hn⟩ := this
        exact ⟨e, by simpa using he, hb, Nat.eq_of_beq_eq_true hn⟩
      · refine .inr ⟨fun t ht => slotIn_not (by simpa using h6 t ht), h7⟩

/-! ### Masks -/
theorem get_map_any {g : Va → Nat} (T : Tab) (i : Nat) : ∀ A : List Va, get (A.map (fun a => (g a, AV.any)) ++ T) i = if (∃ a ∈ A, g a = i) then .any else get T i
  | [] => by simp
  | a :: A => by
    by_cases h : g a = i
    · subst h
      rw [if_pos ⟨a, List.mem_cons_self .., rfl⟩]
      simp [get]
    · rw [List.map_cons, List.cons_append, get_cons_ne h, get_map_any T i A]
      by_cases h' : ∃ b ∈ A, g b = i
      · obtain ⟨b, hb, e⟩ := h'
        rw [if_pos ⟨b, hb, e⟩, if_pos ⟨b, List.mem_cons_of_mem _ hb, e⟩]
      · rw [if_neg h', if_neg (by
          rintro ⟨b, hb, e⟩
          rcases List.mem_cons.1 hb with rfl | hb
          · exact h e
          · exact h' ⟨b, hb, e⟩)]
def maskA (n : Nat) (A : List Va) (T : Tab) : Tab := A.map (fun a => (a.d, AV.any)) ++ maskF n A T
theorem get_maskF (T : Tab) (i : Nat) : get (maskF n A T) i = if (∃ a ∈ A, n + a.d = i) then .any else get T i := get_map_any (g := fun a => n + a.d) T i A
theorem get_maskA (T : Tab) (i : Nat) : get (maskA n A T) i = if (∃ a ∈ A, a.d = i) then .any else if (∃ a ∈ A, n + a.d = i) then .any else get T i := by
  unfold maskA
  rw [get_map_any (g := fun a => a.d), get_maskF]
theorem maskF_lt {T : Tab} {i : Nat} (h : i < n) : get (maskF n A T) i = get T i := by
  rw [get_maskF, if_neg (by rintro ⟨a, _, e⟩; omega)]
theorem mask_put {M : Tab → Tab} {S : Nat → Prop} [DecidablePred S] (hM : ∀ T i, get (M T) i = if S i then .any else get T i) {d : Option Tmp} {v : AV} {T T1 : Tab} (ht : Teq T1 (putT d v T)) (hd : ∀ e, d = some e → ¬ S e) : Teq (M T1) (putT d v (M T)) := by
  intro i
  rw [hM, get_putT, hM]
  by_cases hS : S i
  · rw [if_pos hS, if_neg (fun e => hd i e hS), if_pos hS]
  · rw [if_neg hS, if_neg hS, ht i, get_putT]

/-- What an operation does where its slots are alike. -/
theorem LS.same {o : Oper} {T T2 : Tab} {H H1 : List AB} {v : AV} {f : Foot} (h : LS P env ops o T H v H1 f) (hg : o.guard = none) (ha : Agree ops o T T2) : aexecD P env o T2 H = some (v, H1) := by
  have ex : ∀ {T2 : Tab} {H H1 : List AB} {f : Foot}, LS P env ops o T2 H v H1 f → aexecD P env o T2 H = some (v, H1) := by
    rintro T2 H H1 f (⟨_, _, hx⟩ | ⟨hw, _⟩)
    · exact hx
    · simp [wantedA, hg] at hw
  have hl := h.loc
  cases f with
  | all => exact ex (hl T2 ha)
  | none => obtain ⟨rfl, hl⟩ := hl; exact ex (hl T2 _ ha)
  | rd b => obtain ⟨rfl, hl⟩ := hl; exact ex (hl T2 _ ha rfl)
  | wt b => obtain ⟨B, rfl, _, hl⟩ := hl; exact ex (hl T2 _ ha rfl)
  | al k => obtain ⟨rfl, B, rfl, hl⟩ := hl; exact ex (hl T2 _ ha rfl)
  | rw r b => obtain ⟨B, rfl, _, _, hl⟩ := hl; exact ex (hl T2 _ ha rfl rfl)
  | put b k => obtain ⟨two, es, u, e1, rfl, hl⟩ := hl; exact ex (hl T2 _ es ha e1)
  | see w => exact ex (hl.2 T2 ha)
/-- .. without the blocks that stand behind. -/
theorem LS.less {o : Oper} {T T2 : Tab} {H Bs H1 : List AB} {v : AV} {f : Foot} (h : LS P env ops o T (H ++ Bs) v H1 f) (hg : o.guard = none) (ha : Agree ops o T T2) (hf : lowF H.length f = true) :
    ∃ H2, aexecD P env o T2 H = some (v, H2) ∧ H1 = H2 ++ Bs ∧ H2.length = H.length := by
  have ex : ∀ {T2 : Tab} {H H1 : List AB} {f : Foot}, LS P env ops o T2 H v H1 f → aexecD P env o T2 H = some (v, H1) := by
    rintro T2 H H1 f (⟨_, _, hx⟩ | ⟨hw, _⟩)
    · exact hx
    · simp [wantedA, hg] at hw
  have hl := h.loc
  cases f with
  | all => cases hf
  | see w => cases hf
  | none => obtain ⟨rfl, hl⟩ := hl; exact ⟨H, ex (hl T2 H ha), rfl, rfl⟩
  | rd b =>
    obtain ⟨rfl, hl⟩ := hl
    have hb : b < H.length := Nat.le_of_ble_eq_true hf
    exact ⟨H, ex (hl T2 H ha (by rw [List.getElem?_append_left hb])), rfl, rfl⟩
  | wt b =>
    obtain ⟨B, rfl, _, hl⟩ := hl
    have hb : b < H.length := Nat.le_of_ble_eq_true hf
    exact ⟨_, ex (hl T2 H ha (by rw [List.getElem?_append_left hb])), by rw [List.set_append_left _ _ hb], by simp⟩
  | al k => cases hf
  | rw r b =>
    obtain ⟨B, rfl, _, _, hl⟩ := hl
    simp only [lowF, Bool.and_eq_true] at hf
    have hr : r < H.length := Nat.le_of_ble_eq_true hf.1
    have hb : b < H.length := Nat.le_of_ble_eq_true hf.2
    exact ⟨_, ex (hl T2 H ha (by rw [List.getElem?_append_left hr]) (by rw [List.getElem?_append_left hb])), by rw [List.set_append_left _ _ hb], by simp⟩
  | put b k =>
    obtain ⟨two, es, u, e1, rfl, hl⟩ := hl
    have hb : b < H.length := Nat.le_of_ble_eq_true hf
    rw [List.getElem?_append_left hb] at e1
    exact ⟨_, ex (hl T2 H es ha e1), by rw [List.set_append_left _ _ hb], by simp⟩

theorem looksAt_devirt {o : Oper} (hg : ∀ (i : Nat) (o : Oper), ops[i]? = some o → o.guard = none) (ho : o.guard = none) : o.looksAt (ops.map (devirt n)) = o.looksAt ops := by
  unfold Oper.looksAt
  rw [ho]

/-- All blocks are made: the rest. -/
theorem v2_sound (hE : EnvOk P env) {L : Nat} {F : Foots} (hV : VOk P ops n L A F) (hF : F.length = ops.size) {Fin : Tab → List AB → Prop} {Q : Exit → Act → World → Prop} : ∀ (fuel : Nat) (listed : Array Bool) (T : Tab) (H : List AB) (m : List Nat) (a : Act) (w : World),
    AnyA P env (ops.map (devirt n)) n F Fin fuel listed T H → (∀ b ∈ A, listed.getD b.i false = true) → TR m n (maskF n A T) a.tmps → HR m H w →
    (∀ T' H' a' m' w', TR m' n (maskF n A T') a'.tmps → HR m' H' w' → Ext m w m' w' → a'.defers = a.defers → Fin T' H' → Q .normal a' w') → wpAny P .any ops Q fuel listed a w
  | 0, listed, T, H, m, a, w, h, _, hT, hH, hQ => by
    refine ⟨?_, hQ T H a m w hT hH (Ext.refl m w) rfl h.2⟩
    rw [List.eq_nil_iff_forall_not_mem]
    intro i hi
    have h1 := (ready_devirt (n := n)).2 hi
    rw [h.1] at h1
    cases h1
  | fuel + 1, listed, T, H, m, a, w, h, hls, hT, hH, hQ => by
    refine ⟨fun h0 => hQ T H a m w hT hH (Ext.refl m w) rfl (h.1 (ready_devirt_nil h0)), fun i hi => ?_⟩
    obtain ⟨T', H', ⟨o', f, v, e1, e2, hd, hl, ht⟩, hA⟩ := h.2 i (ready_devirt.2 hi)
    obtain ⟨hun, o, ho, haft⟩ := mem_ready.1 hi
    have hal : isAllocB o.op = false := by
      cases hal : isAllocB o.op with
      | false => rfl
      | true =>
        obtain ⟨⟨b, hb, rfl⟩, -⟩ := hV.all i o ho hal
        have h1 := hls b hb
        rw [getD_both' hun] at h1; cases h1
    rw [devirt_get, ho] at e1
    simp only [Option.map_some, Option.some.injEq] at e1
    rw [devirt_not n hal] at e1
    subst e1
    have hg := hV.grd i o ho
    obtain ⟨hdst, hlk, -⟩ := hV.oth i o f ho e2 hal
    have hag : Agree (ops.map (devirt n)) o T (maskF n A T) := fun t ht' => by
      rw [looksAt_devirt hV.grd hg] at ht'
      rw [maskF_lt (hlk t ht')]
    have hx := hl.same hg hag
    unfold wpOp
    simp only [ho]
    rw [if_pos (by simp [Region.wanted, hg])]
    refine .inl (aexec_ok (dcD_DC hE) hT hH hx fun v' H'' V m' w' hv hH' hEx hK => ?_)
    cases hK
    have hT1 : TR m' n (maskF n A T) a.tmps := by obtain ⟨x, hx, _⟩ := hEx.pre; rw [hx]; exact hT.mono x
    have hmt : Teq (maskF n A T') (putT o.dst v (maskF n A T)) := by
      haveI : DecidablePred fun i => ∃ a ∈ A, n + a.d = i := fun i => Classical.propDecidable _
      refine mask_put (M := maskF n A) (S := fun i => ∃ a ∈ A, n + a.d = i) (fun T i => by rw [get_maskF]; congr) ht fun e he => ?_
      rintro ⟨b, _, e3⟩
      have h5 : e < n := (hdst e he).1
      have h6 : n ≤ e := by rw [← e3]; exact Nat.le_add_right n b.d
      exact absurd h5 (Nat.not_lt.2 h6)
    exact v2_sound hE hV hF fuel _ T' H' m' _ w' hA (fun b hb => getD_set_true (hls b hb)) ((hT1.putT hd hv).teq hmt) hH' fun T3 H3 a3 m3 w3 q1 q2 q3 q4 q5 => hQ T3 H3 a3 m3 w3 q1 q2 (hEx.trans q3) (q4.trans (put_defers _ _ _)) q5
/-- A block that was made, and isn't numbered yet. -/
def Pend (m : List Nat) (tmps : Array Value) (w0 w : World) (a : Va) : Prop :=
  ∃ b Ls, tmps.getD a.d undef = .pointer (some ⟨b, 0, none⟩) ∧ w.heap[b]? = some (.cells ⟨Ls⟩ a.t (0, 0)) ∧ RL [] a.l Ls ∧ b ∉ m ∧ w0.heap.size ≤ b
def blkOf : Value → Nat
  | .pointer (some p) => p.block
  | _ => 0
theorem slotsOf_get (T : Tab) : ∀ (A : List Va) (k j : Nat) (a : Va), A[j]? = some a → (∀ (i j : Nat) (a b : Va), A[i]? = some a → A[j]? = some b → a.d = b.d → i = j) → get (slotsOf n k A ++ T) (n + a.d) = .ptr (k + j) 0
  | [], k, j, a, h, _ => by simp at h
  | c :: A, k, j, a, h, hd => by
    rcases j with _ | j
    · simp at h
      subst h
      simp [slotsOf, get]
    · have hne : n + c.d ≠ n + a.d := fun e => by
        have := hd 0 (j + 1) c a rfl h (by omega)
        omega
      rw [slotsOf, List.cons_append, get_cons_ne hne, slotsOf_get T A (k + 1) j a (by simpa using h) fun i i' b b' h1 h2 e => by
        have := hd (i + 1) (i' + 1) b b' (by simpa using h1) (by simpa using h2) e
        omega]
      congr 1
      omega
theorem slotsOf_other (T : Tab) {i : Nat} : ∀ (A : List Va) (k : Nat), (∀ a ∈ A, n + a.d ≠ i) → get (slotsOf n k A ++ T) i = get T i
  | [], k, _ => rfl
  | c :: A, k, h => by
    rw [slotsOf, List.cons_append, get_cons_ne (h c (List.mem_cons_self ..)), slotsOf_other T A (k + 1) fun a ha => h a (List.mem_cons_of_mem _ ha)]

/-- All blocks made get their numbers. -/
theorem number_all {L : Nat} {F : Foots} (hV : VOk P ops n L A F) {T : Tab} {H : List AB} {m : List Nat} {tmps : Array Value} {w0 w : World} (hL : H.length = L) (hT : TR m n (maskA n A T) tmps) (hH : HR m H w)
    (hS : ∀ j a, A[j]? = some a → get T a.d = .ptr (L + j) 0) (hP : ∀ a ∈ A, Pend m tmps w0 w a) (hD : ∀ a ∈ A, ∀ b ∈ A, a.d ≠ b.d → blkOf (tmps.getD a.d undef) ≠ blkOf (tmps.getD b.d undef)) :
    ∃ x, (∀ b ∈ x, w0.heap.size ≤ b) ∧ TR (m ++ x) n (maskF n A T) tmps ∧ HR (m ++ x) (H ++ A.map vaBlk) w := by
  have hg : ∀ (j b : Nat), (A.map fun a => blkOf (tmps.getD a.d undef))[j]? = some b → ∃ a, A[j]? = some a ∧ b = blkOf (tmps.getD a.d undef) := fun j b h => by
    rw [List.getElem?_map] at h
    obtain ⟨a, ha, rfl⟩ := Option.map_eq_some_iff.1 h
    exact ⟨a, ha, rfl⟩
  refine ⟨A.map fun a => blkOf (tmps.getD a.d undef), ?_, ?_, ?_⟩
  · intro b hb
    obtain ⟨a, ha, rfl⟩ := List.mem_map.1 hb
    obtain ⟨b, Ls, h1, h2, h3, h4, h5⟩ := hP a ha
    rw [h1]
    exact h5
  · refine ⟨hT.1, fun i => ?_⟩
    have hi := hT.2 i
    rw [get_maskA] at hi
    rw [get_maskF]
    by_cases hf : ∃ a ∈ A, n + a.d = i
    · rw [if_pos hf]; simp only [R]
    · rw [if_neg hf]
      by_cases hs : ∃ a ∈ A, a.d = i
      · obtain ⟨a, ha, rfl⟩ := hs
        obtain ⟨j, hj⟩ := List.getElem?_of_mem ha
        rw [hS j a hj]
        obtain ⟨b, Ls, h1, h2, h3, h4, -⟩ := hP a ha
        simp only [R]
        refine ⟨b, ?_, h1⟩
        rw [List.getElem?_append_right (by rw [hH.len, hL]; omega), hH.len, hL, Nat.add_sub_cancel_left, List.getElem?_map, hj, Option.map_some, h1]
        rfl
      · rw [if_neg hs, if_neg hf] at hi
        exact R_mono _ _ hi
  · refine hH.grow (by simp) (fun _ _ _ _ _ _ => rfl) ?_ ?_ ?_
    · intro j b B h1 h2 _ i C h3 _ _
      obtain ⟨a, ha, rfl⟩ := hg j b h1
      obtain ⟨b, Ls, e1, e2, e3, e4, -⟩ := hP a (List.mem_of_getElem? ha)
      rw [e1] at h3
      exact e4 (List.mem_of_getElem? h3)
    · intro i j b B C h1 h2 _ _ _ _
      obtain ⟨a, ha, e1⟩ := hg i b h1
      obtain ⟨a', ha', e2⟩ := hg j b h2
      by_cases e : a.d = a'.d
      · exact hV.dist i j a a' ha ha' e
      · exact absurd (e1.symm.trans e2) (hD a (List.mem_of_getElem? ha) a' (List.mem_of_getElem? ha') e)
    · intro j B hB _
      rw [List.getElem?_map] at hB
      obtain ⟨a, ha, rfl⟩ := Option.map_eq_some_iff.1 hB
      obtain ⟨b, Ls, e1, e2, e3, e4, -⟩ := hP a (List.mem_of_getElem? ha)
      obtain ⟨o, _, _, _, _, _, hn⟩ := hV.mem a (List.mem_of_getElem? ha)
      exact ⟨b, _, by rw [List.getElem?_map, ha, Option.map_some, e1]; rfl, e2, ⟨Ls, rfl, RL_noPtr _ hn e3⟩, trivial⟩

theorem move_exec {o : Oper} {x : Nat} {T : Tab} {H : List AB} (h : o.op = .move (.tmp x)) : aexecD P env o T H = some (get T x, H) := by
  unfold aexecD aexec
  simp only [h, isMem, cond_false, apure]
  rfl
theorem put_tmps_ne {a : Act} {d : Option Tmp} {V : Value} {e : Nat} (h : d ≠ some e) : (a.put d V).tmps.getD e undef = a.tmps.getD e undef := by
  cases d with
  | none => rfl
  | some d =>
    have hne : d ≠ e := fun h' => h (by rw [h'])
    show (a.tmps.setIfInBounds d V).getD e undef = _
    simp [Array.getD_eq_getD_getElem?, Array.getElem?_setIfInBounds_ne hne]
theorem put_tmps_eq {a : Act} {d : Nat} {V : Value} (h : d < a.tmps.size) : (a.put (some d) V).tmps.getD d undef = V := by
  show (a.tmps.setIfInBounds d V).getD d undef = _
  simp [Array.getD_eq_getD_getElem?, h]
/-- Some blocks aren't made yet. -/
theorem v1_sound (hE : EnvOk P env) {L : Nat} {F : Foots} (hV : VOk P ops n L A F) (hF : F.length = ops.size) {Fin : Tab → List AB → Prop} {Q : Exit → Act → World → Prop} {m : List Nat} {w0 : World} {d0 : Act} : ∀ (fuel : Nat) (listed : Array Bool) (T : Tab) (H : List AB) (a : Act) (w : World),
    AnyA P env (ops.map (devirt n)) n F Fin fuel listed T (H ++ A.map vaBlk) → (∃ b ∈ A, listed.getD b.i true = false) → H.length = L → TR m n (maskA n A T) a.tmps → HR m H w →
    (∀ j b, A[j]? = some b → get T (n + b.d) = .ptr (L + j) 0) → (∀ j b, A[j]? = some b → listed.getD b.i true = true → get T b.d = .ptr (L + j) 0) → (∀ b ∈ A, listed.getD b.i true = true → Pend m a.tmps w0 w b) →
    (∀ b ∈ A, ∀ c ∈ A, listed.getD b.i true = true → listed.getD c.i true = true → b.d ≠ c.d → blkOf (a.tmps.getD b.d undef) ≠ blkOf (a.tmps.getD c.d undef)) → listed.size = ops.size → (∀ b ∈ m, b < w.heap.size) → Ext m w0 m w → a.defers = d0.defers →
    (∀ T' H' a' m' w', TR m' n (maskF n A T') a'.tmps → HR m' H' w' → Ext m w0 m' w' → a'.defers = d0.defers → Fin T' H' → Q .normal a' w') → wpAny P .any ops Q fuel listed a w := by
  intro fuel
  have rdy : ∀ (listed : Array Bool), (∃ b ∈ A, listed.getD b.i true = false) → ∃ i, i ∈ Region.ready .any ops listed := by
    rintro listed ⟨b, hb, hbl⟩
    obtain ⟨o, ho, hop, -⟩ := hV.mem b hb
    obtain ⟨-, hna⟩ := hV.all b.i o ho (by rw [hop]; rfl)
    exact ⟨b.i, mem_ready.2 ⟨hbl, o, ho, fun e he => absurd he (hna e)⟩⟩
  induction fuel with
  | zero =>
    intro listed T H a w h hls
    obtain ⟨i, hi⟩ := rdy listed hls
    have h1 := (ready_devirt (n := n)).2 hi
    rw [h.1] at h1
    cases h1
  | succ fuel ih =>
    intro listed T H a w h hls hL hT hH hS hS2 hP hD hsz hm hx0 hdef hQ
    refine ⟨fun h0 => ?_, fun i hi => ?_⟩
    · obtain ⟨i, hi⟩ := rdy listed hls
      rw [h0] at hi; cases hi
    obtain ⟨T', H1, ⟨o', f, v, e1, e2, hd, hl, ht⟩, hA⟩ := h.2 i (ready_devirt.2 hi)
    obtain ⟨hun, o, ho, haft⟩ := mem_ready.1 hi
    have hg := hV.grd i o ho
    have hilt : i < ops.size := (Array.getElem?_eq_some_iff.1 ho).1
    rw [devirt_get, ho] at e1
    simp only [Option.map_some, Option.some.injEq] at e1
    have lset : ∀ k, k ≠ i → (listed.setIfInBounds i true).getD k true = listed.getD k true := fun k hk => getD_set_ne true (Ne.symm hk)
    have lseti : (listed.setIfInBounds i true).getD i true = true := by
      simp [hsz, hilt]
    cases hal : isAllocB o.op with
    | false =>
      rw [devirt_not n hal] at e1
      subst e1
      obtain ⟨hdst, hlk, hor⟩ := hV.oth i o f ho e2 hal
      obtain ⟨b0, hb0, hb0l⟩ := hls
      have hor : (∀ t ∈ o.looksAt ops, ∀ a ∈ A, a.d ≠ t) ∧ lowF L f = true := by
        rcases hor with hor | hor
        · obtain ⟨e, he, hb, hn⟩ := hor b0 hb0
          have := haft e he hb
          rw [hn, getD_both' hb0l] at this; cases this
        · exact hor
      have hag : Agree (ops.map (devirt n)) o T (maskA n A T) := fun t ht' => by
        rw [looksAt_devirt hV.grd hg] at ht'
        rw [get_maskA, if_neg (by rintro ⟨c, hc, e⟩; exact hor.1 t ht' c hc e), if_neg (by rintro ⟨c, hc, e⟩; exact absurd (hlk t ht') (Nat.not_lt.2 (by rw [← e]; exact Nat.le_add_right n c.d)))]
      obtain ⟨H2, hx, rfl, hlen⟩ := hl.less hg hag (by rw [hL]; exact hor.2)
      have hni : ∀ c ∈ A, c.i ≠ i := fun c hc e => by
        obtain ⟨o2, ho2, hop2, -⟩ := hV.mem c hc
        rw [e, ho] at ho2
        cases ho2
        rw [hop2] at hal; cases hal
      unfold wpOp
      simp only [ho]
      rw [if_pos (by simp [Region.wanted, hg])]
      refine .inl (aexec_ok (dcD_DC hE) hT hH hx fun v' H'' V m' w' hv hH' hEx hK => ?_)
      cases hK
      have hmm : m' = m := hEx.same_len hH hH' hlen
      subst hmm
      have hmt : Teq (maskA n A T') (putT o.dst v (maskA n A T)) := by
        haveI : DecidablePred fun i => (∃ a ∈ A, a.d = i) ∨ (∃ a ∈ A, n + a.d = i) := fun i => Classical.propDecidable _
        refine mask_put (M := maskA n A) (S := fun i => (∃ a ∈ A, a.d = i) ∨ (∃ a ∈ A, n + a.d = i)) (fun T i => ?_) ht fun e he => ?_
        · rw [get_maskA]
          by_cases q1 : ∃ a ∈ A, a.d = i
          · rw [if_pos q1, if_pos (.inl q1)]
          · rw [if_neg q1]
            by_cases q2 : ∃ a ∈ A, n + a.d = i
            · rw [if_pos q2, if_pos (.inr q2)]
            · rw [if_neg q2, if_neg (by rintro (q | q); exact q1 q; exact q2 q)]
        · rintro (⟨c, hc, e3⟩ | ⟨c, hc, e3⟩)
          · exact (hdst e he).2 c hc e3
          · have h5 : e < n := (hdst e he).1
            have h6 : n ≤ e := by rw [← e3]; exact Nat.le_add_right n c.d
            exact absurd h5 (Nat.not_lt.2 h6)
      have hdne : ∀ c ∈ A, o.dst ≠ some c.d := fun c hc e => (hdst _ e).2 c hc rfl
      refine ih _ T' H2 _ w' hA ⟨b0, hb0, by rw [lset _ (hni b0 hb0)]; exact hb0l⟩ (by rw [hlen, hL]) ((hT.putT hd hv).teq hmt) hH' ?_ ?_ ?_ ?_ (by simp [hsz]) (fun b hb => Nat.lt_of_lt_of_le (hm b hb) hEx.size) (hx0.trans hEx) ((put_defers _ _ _).trans hdef) hQ
      · intro j c hc
        rw [ht, get_putT, if_neg (fun e => absurd (hdst _ e).1 (Nat.not_lt.2 (Nat.le_add_right n c.d)))]
        exact hS j c hc
      · intro j c hc hcl
        rw [lset _ (hni c (List.mem_of_getElem? hc))] at hcl
        rw [ht, get_putT, if_neg (hdne c (List.mem_of_getElem? hc))]
        exact hS2 j c hc hcl
      · intro c hc hcl
        rw [lset _ (hni c hc)] at hcl
        obtain ⟨b, Ls, p1, p2, p3, p4, p5⟩ := hP c hc hcl
        refine ⟨b, Ls, by rw [put_tmps_ne (hdne c hc)]; exact p1, ?_, p3, p4, p5⟩
        rw [hEx.block b (Array.getElem?_eq_some_iff.1 p2).1 p4]; exact p2
      · intro b hb c hc hbl hcl hne
        rw [lset _ (hni b hb)] at hbl
        rw [lset _ (hni c hc)] at hcl
        rw [put_tmps_ne (hdne b hb), put_tmps_ne (hdne c hc)]
        exact hD b hb c hc hbl hcl hne
    | true =>
      obtain ⟨⟨b, hb, rfl⟩, -⟩ := hV.all i o ho hal
      obtain ⟨o2, ho2, hop, hod, hoc, hdn, hnp⟩ := hV.mem b hb
      rw [ho] at ho2
      cases ho2
      obtain ⟨j, hj⟩ := List.getElem?_of_mem hb
      have hdv : o' = { o with op := .move (.tmp (n + b.d)) } := by
        rw [← e1]
        unfold devirt
        rw [hop, hod]
      have hdst' : o'.dst = some b.d := by rw [hdv]; exact hod
      have hex : (v, H1) = (AV.ptr (L + j) 0, H ++ A.map vaBlk) := by
        rcases hl with ⟨_, _, hx⟩ | ⟨hw, _⟩
        · rw [move_exec (x := n + b.d) (by rw [hdv]), hS j b hj] at hx
          exact (Option.some.inj hx).symm
        · rw [hdv] at hw
          simp [wantedA, hg] at hw
      obtain ⟨rfl, rfl⟩ := Prod.mk.inj hex
      obtain ⟨z, hz, hc⟩ := Option.bind_eq_some_iff.1 hoc
      obtain ⟨Z, hZ, hRZ⟩ := run_zeroA hz ([] : List Nat)
      have hcl := R_cells hRZ hc
      have hrun : (execOp a.eval o).run P w = .ok (.value (.pointer (some ⟨w.heap.size, 0, none⟩))) { w with heap := w.heap.push (.cells Z.cells b.t) } := by
        simp [execOp, hop, Instr.alloc, hZ, newVar, newRow, newObj, Sem.run]
      unfold wpOp
      simp only [ho]
      rw [if_pos (by simp [Region.wanted, hg])]
      refine .inl ?_
      unfold Oper.wp
      rw [hrun]
      generalize hw' : ({ w with heap := w.heap.push (.cells Z.cells b.t) } : World) = w'
      have hsame : ∀ k, k < w.heap.size → w'.heap[k]? = w.heap[k]? := fun k hk => by
        rw [← hw']
        show (w.heap.push _)[k]? = _
        rw [Array.getElem?_push, if_neg (by omega)]
      have hnew : w'.heap[w.heap.size]? = some (.cells Z.cells b.t (0, 0)) := by
        rw [← hw']
        show (w.heap.push _)[w.heap.size]? = _
        rw [Array.getElem?_push, if_pos rfl]
      have hsize : w.heap.size ≤ w'.heap.size := by rw [← hw']; simp
      have hExt : Ext m w m w' := ⟨⟨[], by simp⟩, by rw [← hw'], by rw [← hw'], by rw [← hw'], hsize, fun k hk _ => hsame k hk⟩
      have hHw : HR m H w' := hH.same hsame
      have hT2 : TR m n (maskA n A T') (a.put o.dst (.pointer (some ⟨w.heap.size, 0, none⟩))).tmps := by
        rw [hod]
        refine ⟨by show (a.tmps.setIfInBounds _ _).size = n; simp [hT.1], fun k => ?_⟩
        by_cases hk : b.d = k
        · subst hk
          rw [get_maskA, if_pos ⟨b, hb, rfl⟩]; simp only [R]
        · rw [put_tmps_ne (fun e => hk (Option.some.inj e))]
          have := hT.2 k
          rw [get_maskA] at this ⊢
          rw [ht k, get_putT, hdst', if_neg (fun e => hk (Option.some.inj e))]
          exact this
      have hS' : ∀ j b, A[j]? = some b → get T' (n + b.d) = .ptr (L + j) 0 := fun j' c hc' => by
        rw [ht, get_putT, hdst', if_neg (fun e => by have := Option.some.inj e; omega)]
        exact hS j' c hc'
      have hSd : ∀ j' c, A[j']? = some c → (listed.setIfInBounds b.i true).getD c.i true = true → get T' c.d = .ptr (L + j') 0 := fun j' c hc' hl' => by
        rw [ht, get_putT, hdst']
        by_cases hcd : b.d = c.d
        · have : j = j' := hV.dist j j' b c hj hc' hcd
          subst this
          rw [if_pos (by rw [hcd])]
        · rw [if_neg (fun e => hcd (Option.some.inj e))]
          have hci : c.i ≠ b.i := fun e => by
            obtain ⟨o3, ho3, _, hod3, _⟩ := hV.mem c (List.mem_of_getElem? hc')
            rw [e, ho] at ho3
            cases ho3
            rw [hod] at hod3
            exact hcd (Option.some.inj hod3)
          rw [lset _ hci] at hl'
          exact hS2 j' c hc' hl'
      have hcne : ∀ c ∈ A, b.d ≠ c.d → c.i ≠ b.i := fun c hc' hcd e => by
        obtain ⟨o3, ho3, _, hod3, _⟩ := hV.mem c hc'
        rw [e, ho] at ho3
        cases ho3
        rw [hod] at hod3
        exact hcd (Option.some.inj hod3)
      have hbsz : b.d < a.tmps.size := by rw [hT.1]; exact hdn
      have hnewP : Pend m (a.put o.dst (.pointer (some ⟨w.heap.size, 0, none⟩))).tmps w0 w' b :=
        ⟨w.heap.size, Z.cells.toList, by rw [hod]; exact put_tmps_eq hbsz, hnew, hcl, fun h => Nat.lt_irrefl _ (hm _ h), hx0.size⟩
      have same_c : ∀ c ∈ A, b.d = c.d → c = b := fun c hc' hcd => by
        obtain ⟨j', hj'⟩ := List.getElem?_of_mem hc'
        have := hV.dist j j' b c hj hj' hcd
        subst this
        rw [hj] at hj'; exact (Option.some.inj hj').symm
      have hP' : ∀ c ∈ A, (listed.setIfInBounds b.i true).getD c.i true = true → Pend m (a.put o.dst (.pointer (some ⟨w.heap.size, 0, none⟩))).tmps w0 w' c := fun c hc' hl' => by
        by_cases hcd : b.d = c.d
        · rw [same_c c hc' hcd]; exact hnewP
        · rw [lset _ (hcne c hc' hcd)] at hl'
          obtain ⟨b', Ls, p1, p2, p3, p4, p5⟩ := hP c hc' hl'
          refine ⟨b', Ls, by rw [hod, put_tmps_ne (fun e => hcd (Option.some.inj e))]; exact p1, ?_, p3, p4, p5⟩
          rw [hsame b' (Array.getElem?_eq_some_iff.1 p2).1]; exact p2
      have blkn : ∀ c ∈ A, b.d ≠ c.d → (listed.setIfInBounds b.i true).getD c.i true = true → blkOf ((a.put o.dst (.pointer (some ⟨w.heap.size, 0, none⟩))).tmps.getD c.d undef) ≠ w.heap.size := fun c hc' hcd hl' => by
        rw [lset _ (hcne c hc' hcd)] at hl'
        obtain ⟨b', Ls, p1, p2, p3, p4, p5⟩ := hP c hc' hl'
        rw [hod, put_tmps_ne (fun e => hcd (Option.some.inj e)), p1]
        have := (Array.getElem?_eq_some_iff.1 p2).1
        show b' ≠ _
        omega
      have blkb : blkOf ((a.put o.dst (.pointer (some ⟨w.heap.size, 0, none⟩))).tmps.getD b.d undef) = w.heap.size := by
        rw [hod, put_tmps_eq hbsz]; rfl
      have hD' : ∀ c ∈ A, ∀ e ∈ A, (listed.setIfInBounds b.i true).getD c.i true = true → (listed.setIfInBounds b.i true).getD e.i true = true → c.d ≠ e.d → blkOf ((a.put o.dst (.pointer (some ⟨w.heap.size, 0, none⟩))).tmps.getD c.d undef) ≠ blkOf ((a.put o.dst (.pointer (some ⟨w.heap.size, 0, none⟩))).tmps.getD e.d undef) := fun c hc' e he' hlc hle hne => by
        by_cases hcd : b.d = c.d
        · have := same_c c hc' hcd
          subst this
          rw [blkb]
          exact Ne.symm (blkn e he' hne hle)
        · by_cases hed : b.d = e.d
          · have := same_c e he' hed
            subst this
            rw [blkb]
            exact blkn c hc' hcd hlc
          · rw [lset _ (hcne c hc' hcd)] at hlc
            rw [lset _ (hcne e he' hed)] at hle
            rw [hod, put_tmps_ne (fun e => hcd (Option.some.inj e)), put_tmps_ne (fun e => hed (Option.some.inj e))]
            exact hD c hc' e he' hlc hle hne
      by_cases hall : ∃ c ∈ A, (listed.setIfInBounds b.i true).getD c.i true = false
      · exact ih _ T' H _ w' hA hall hL hT2 hHw hS' hSd hP' hD' (by simp [hsz]) (fun x hx => Nat.lt_of_lt_of_le (hm x hx) hsize) (hx0.trans hExt) ((put_defers _ _ _).trans hdef) hQ
      · have hlall : ∀ c ∈ A, (listed.setIfInBounds b.i true).getD c.i true = true := fun c hc' => by
          cases hq : (listed.setIfInBounds b.i true).getD c.i true with
          | true => rfl
          | false => exact absurd ⟨c, hc', hq⟩ hall
        obtain ⟨x, hx1, hx2, hx3⟩ := number_all hV hL hT2 hHw (fun j' c hc' => hSd j' c hc' (hlall c (List.mem_of_getElem? hc'))) (fun c hc' => hP' c hc' (hlall c hc')) (fun c hc' e he' hne => hD' c hc' e he' (hlall c hc') (hlall e he') hne)
        have hx0' := hx0.trans hExt
        have hExtN : Ext m w0 (m ++ x) w' := ⟨⟨x, rfl, fun b hb => .inl (hx1 b hb)⟩, hx0'.os, hx0'.tape, hx0'.output, hx0'.size, hx0'.block⟩
        have hlall' : ∀ c ∈ A, (listed.setIfInBounds b.i true).getD c.i false = true := fun c hc' => by
          obtain ⟨o3, ho3, _⟩ := hV.mem c hc'
          have hlt : c.i < (listed.setIfInBounds b.i true).size := by simp [hsz]; exact (Array.getElem?_eq_some_iff.1 ho3).1
          have := hlall c hc'
          simp only [Array.getD_eq_getD_getElem?, Array.getElem?_eq_getElem hlt, Option.getD_some] at this ⊢
          exact this
        exact v2_sound hE hV hF fuel _ T' _ (m ++ x) _ w' hA hlall' hx2 hx3 fun T3 H3 a3 m3 w3 q1 q2 q3 q4 q5 => hQ T3 H3 a3 m3 w3 q1 q2 (hExtN.trans q3) (q4.trans ((put_defers _ _ _).trans hdef)) q5
/-- A region that draws its order and makes more than one block. -/
theorem aopsV_ok {ρ : Type} (hE : EnvOk P env) {K : Tab → List AB → Option ρ} {r : ρ} {T : Tab} {H : List AB} (hlen : Nat.ble 2 (vasOf P 0 ops.toList).length = true) (h : aopsV P env ops n (vasOf P 0 ops.toList) T H K = some r)
    {m : List Nat} {a : Act} {w : World} {Q : Exit → Act → World → Prop} {id : Nat} (hm : P.follows .mixedOrders = true) (hT : TR m n T a.tmps) (hH : HR m H w)
    (hQ : ∀ T' H' a' m' w', TR m' n T' a'.tmps → HR m' H' w' → Ext m w m' w' → a'.defers = a.defers → K T' H' = some r → Q .normal a' w') : (Code.region id ops true).wp P Q a w := by
  unfold aopsV at h
  cases hb : (distB (vasOf P 0 ops.toList) && (vasOf P 0 ops.toList).all (fun a => Nat.ble (a.d + 1) n && AV.noPtrL a.l) && H.all AB.live && lexOk (ops.map (devirt n)) ops.size 0 (Array.replicate ops.size false)) with
  | false => rw [hb] at h; cases h
  | true =>
    rw [hb] at h
    simp only [Bool.and_eq_true] at hb
    obtain ⟨⟨⟨hb1, hb2⟩, hb3⟩, hb4⟩ := hb
    simp only [cond_true] at h
    obtain ⟨F, e1, _, ⟨e2, e3⟩, e4⟩ := aopsO_lex (ops := ops.map (devirt n)) (ops.map (devirt n)).toList 0 _ _ [] (by simp) (by simp) rfl h
    have hF : F.length = ops.size := by rw [e1]; simp
    have hV := vok_of hb1 hb2 e2
    have hne : ∃ b ∈ vasOf P 0 ops.toList, True := by
      cases hA : vasOf P 0 ops.toList with
      | nil => rw [hA] at hlen; simp at hlen
      | cons b A => exact ⟨b, List.mem_cons_self .., trivial⟩
    generalize vasOf P 0 ops.toList = A at *
    have hA := anyA_lex (P := P) (env := env) (n := n) e1 (ops.map (devirt n)).toList 0 (Array.replicate ops.size false) _ _ (by simp) (by simpa using hb4) (by simpa using e3)
      (fun j _ => by rcases Nat.lt_or_ge j ops.size with h | h <;> simp [h]) (fun j hj => by omega) e4
    have hwD : HR m H { w with drawn := w.drawn + 1 } := hH.drewN 1
    have hxD : Ext m w m { w with drawn := w.drawn + 1 } := ⟨⟨[], by simp⟩, rfl, rfl, rfl, Nat.le_refl _, fun _ _ _ => rfl⟩
    have lst : ∀ c ∈ A, (Array.replicate ops.size false).getD c.i true = false := fun c hc => by
      obtain ⟨o, ho, _⟩ := hV.mem c hc
      have := (Array.getElem?_eq_some_iff.1 ho).1
      simp [this]
    have hml : ∀ b ∈ m, b < w.heap.size := fun b hb => by
      obtain ⟨i, hi⟩ := List.getElem?_of_mem hb
      have hlt : i < H.length := by rw [← hH.len]; exact (List.getElem?_eq_some_iff.1 hi).1
      have hl := List.all_eq_true.1 hb3 _ (List.getElem_mem hlt)
      exact hH.lt hi (List.getElem?_eq_getElem hlt) hl
    have hTm : TR m n (maskA n A (slotsOf n H.length A ++ T)) a.tmps := ⟨hT.1, fun i => by
      rw [get_maskA]
      by_cases q1 : ∃ c ∈ A, c.d = i
      · rw [if_pos q1]; simp only [R]
      · rw [if_neg q1]
        by_cases q2 : ∃ c ∈ A, n + c.d = i
        · rw [if_pos q2]; simp only [R]
        · rw [if_neg q2, slotsOf_other T A _ fun c hc e => q2 ⟨c, hc, e⟩]; exact hT.2 i⟩
    refine wp_region_any hm ?_
    have := v1_sound (Q := Q) (w0 := w) (d0 := a) hE hV hF (ops.map (devirt n)).toList.length (Array.replicate ops.size false) (slotsOf n H.length A ++ T) H a { w with drawn := w.drawn + 1 } hA (by obtain ⟨b, hb, _⟩ := hne; exact ⟨b, hb, lst b hb⟩) rfl hTm hwD
      (fun j b hj => slotsOf_get T A H.length j b hj hV.dist) (fun j b hj hl => by rw [lst b (List.mem_of_getElem? hj)] at hl; cases hl) (fun b hb hl => by rw [lst b hb] at hl; cases hl) (fun b hb c hc hl => by rw [lst b hb] at hl; cases hl) (by simp) hml hxD rfl
      fun T' H' a' m' w' q1 q2 q3 q4 ⟨Tl, t1, t2⟩ => hQ _ H' a' m' w' (q1.teq fun i => by rw [get_maskF, get_maskF, t1 i]) q2 q3 q4 t2
    simpa using this
end
end Go.Proofs.YtdojnnlhaiennaaGreat.Ae

/- What the interpreter finds of a call is what the model's call comes to; contracts of functions over one flow, and of functions without memory. Conditions: the contracts that are looked up hold. -/
namespace Go.Proofs.YtdojnnlhaiennaaGreat.Ae
open Go

section
variable {ρ : Type}

theorem acode_both {P : Program} {env : Env} (hE : EnvOk P env) (fuel : Nat) : (∀ (n : Nat) (c : Code) (T : List (Nat × AV)) (H : List AB) (K : Ex → List (Nat × AV) → List AB → Option ρ) (r : ρ), acode P env fuel n c T H K = some r →
    ∀ (m : List Nat) (a : Act) (w : World) (Q : Exit → Act → World → Prop), TR m n T a.tmps → HR m H w → a.defers = [] →
    (∀ e T' H' a' m' w', TR m' n T' a'.tmps → HR m' H' w' → Ext m w m' w' → a'.defers = [] → K e T' H' = some r → Q (exOf e) a' w') → c.wp P Q a w) ∧
    (∀ (n : Nat) (c : Code) (T : List (Nat × AV)) (H : List AB) (K : Ex → List (Nat × AV) → List AB → Option ρ) (r : ρ), acode P env fuel n (.loop c) T H K = some r →
    ∀ (m : List Nat) (a : Act) (w : World) (Q : Exit → Act → World → Prop), TR m n T a.tmps → HR m H w → a.defers = [] →
    (∀ e T' H' a' m' w', TR m' n T' a'.tmps → HR m' H' w' → Ext m w m' w' → a'.defers = [] → K e T' H' = some r → Q (exOf e) a' w') → Code.rounds P c Q fuel a w) := by
  induction fuel with
  | zero => exact ⟨fun _ _ _ _ _ _ h => by simp [acode] at h, fun _ _ _ _ _ _ h => by simp [acode] at h⟩
  | succ fuel IH =>
    obtain ⟨ih, ihl⟩ := IH
    have B : ∀ (n : Nat) (c : Code) (T : List (Nat × AV)) (H : List AB) (K : Ex → List (Nat × AV) → List AB → Option ρ) (r : ρ), acode P env (fuel + 1) n (.loop c) T H K = some r →
        ∀ (m : List Nat) (a : Act) (w : World) (Q : Exit → Act → World → Prop), TR m n T a.tmps → HR m H w → a.defers = [] →
        (∀ e T' H' a' m' w', TR m' n T' a'.tmps → HR m' H' w' → Ext m w m' w' → a'.defers = [] → K e T' H' = some r → Q (exOf e) a' w') → Code.rounds P c Q (fuel + 1) a w := by
      intro n c T H K r h m a w Q hT hH hd hQ
      simp only [acode] at h
      rw [rounds_succ]
      refine ih n c T H _ r h m a w _ hT hH hd fun e T' H' a' m' w' q1 q2 q3 q4 q5 => ?_
      cases e with
      | normal => exact ihl n c T' H' K r q5 m' a' w' Q q1 q2 q4 fun e T'' H'' a'' m'' w'' p1 p2 p3 p4 p5 => hQ e T'' H'' a'' m'' w'' p1 p2 (q3.trans p3) p4 p5
      | exit id => exact hQ (.exit id) T' H' a' m' w' q1 q2 q3 q4 q5
      | ret => exact hQ .ret T' H' a' m' w' q1 q2 q3 q4 q5
    refine ⟨?_, B⟩
    intro n c T H K r h m a w Q hT hH hd hQ
    cases c with
    | skip => exact wp_skip (hQ .normal T H a m w hT hH (Ext.refl m w) hd h)
    | region id ops draw =>
      cases draw with
      | false =>
        simp only [acode] at h
        refine wp_region ?_
        rw [List.range_eq_range']
        have key : ∀ (dc : FuncId → List AV → List AB → (AV → List AB → Option ρ) → Option ρ), DC P dc → (bif specAll ops then fun dc => aopsS P dc ops n ops.toList T [] H (K .normal) else fun dc => aops P dc ops n ops.toList T H (K .normal)) dc = some r → wpOps P ops Q (List.range' 0 ops.size) a w := by
          intro dc hD h
          cases hsp : specAll ops with
          | true =>
            rw [hsp] at h
            have := aopsS_ok (P := P) (Q := Q) (ops := ops) (n := n) hD ops.toList 0 (by simp) m T [] H a w h hT (WR.nil _ _) hH (fun T' H' a' m' w' q1 q2 q3 q4 q5 => hQ .normal T' H' a' m' w' q1 q2 q3 (q4.trans hd) q5)
            simpa using this
          | false =>
            rw [hsp] at h
            have := aops_ok (P := P) (Q := Q) (ops := ops) (n := n) hD ops.toList 0 (by simp) m T H a w h hT hH (fun T' H' a' m' w' q1 q2 q3 q4 q5 => hQ .normal T' H' a' m' w' q1 q2 q3 (q4.trans hd) q5)
            simpa using this
        refine key _ ?_ h
        · intro fid args H K r h m Args w hA hH
          simp only at h
          split at h
          · rename_i C F hF
            cases hC : C args with
            | false => rw [hC] at h; cases h
            | true =>
            rw [hC] at h
            simp only [cond_true] at h
            split at h
            · rename_i v hv
              cases hb : v.noPtr with
              | false => rw [hb] at h; cases h
              | true =>
                rw [hb] at h
                obtain ⟨h1, h2⟩ := hE fid _ hF
                refine .inr ⟨h1 Args w, (h2 args v hC hv m Args w hA).mono fun e w' ⟨V, e1, e2, e3⟩ => ?_⟩
                exact ⟨v, V, m, H, e1, R_noPtr v hb e2, hH.same e3.blocks, e3.same, h⟩
            · cases h
          · rename_i C F hF
            cases hC : C args with
            | false => rw [hC] at h; cases h
            | true =>
            rw [hC] at h
            simp only [cond_true] at h
            split at h
            · rename_i v H' hv
              obtain ⟨h1, h2⟩ := hE fid _ hF
              refine .inr ⟨h1 Args w, (h2 args H v H' hC hv m Args w hA hH).mono fun e w' ⟨V, m', e1, e2, e3, e4⟩ => ?_⟩
              exact ⟨v, V, m', H', e1, e2, e3, e4, h⟩
            · cases h
          · rename_i C F hF
            cases hC : C args with
            | false => rw [hC] at h; cases h
            | true =>
            rw [hC] at h
            simp only [cond_true] at h
            split at h
            · rename_i v hv
              obtain ⟨V, h2, h3⟩ := hE fid _ hF args v hC hv m Args hA
              exact .inl ⟨v, V, h, h2, h3 w⟩
            · cases h
          · rename_i F hF
            split at h
            · rename_i v hv
              cases hb : v.noPtr with
              | false => rw [hb] at h; cases h
              | true =>
                rw [hb] at h
                obtain ⟨h1, h2⟩ := hE fid _ hF
                refine .inr ⟨h1 Args w, (h2 args v rfl hv m Args w hA).mono fun e w' ⟨V, e1, e2, e3⟩ => ?_⟩
                exact ⟨v, V, m, H, e1, R_noPtr v hb e2, hH.same e3.blocks, e3.same, h⟩
            · cases h
          · rename_i T F hF
            split at h
            · rename_i v H' hv
              obtain ⟨h1, h2⟩ := hE fid _ hF
              refine .inr ⟨h1 Args w, (h2 args H v H' rfl hv m Args w hA hH).mono fun e w' ⟨V, m', e1, e2, e3, e4⟩ => ?_⟩
              exact ⟨v, V, m', H', e1, e2, e3, e4, h⟩
            · cases h
          · rename_i T F hF
            split at h
            · rename_i v H' hv
              obtain ⟨h1, h2⟩ := hE fid _ hF
              refine .inr ⟨h1 Args w, (h2 args H v H' rfl hv m Args w hA hH).mono fun e w' ⟨V, m', e1, e2, e3, e4⟩ => ?_⟩
              exact ⟨v, V, m', H', e1, e2, e3, e4, h⟩
            · cases h
          · rename_i F hF
            split at h
            · rename_i v H' hv
              obtain ⟨h1, h2⟩ := hE fid _ hF
              refine .inr ⟨h1 Args w, (h2 args H v H' rfl hv m Args w hA hH).mono fun e w' ⟨V, m', e1, e2, e3, e4⟩ => ?_⟩
              exact ⟨v, V, m', H', e1, e2, e3, e4, h⟩
            · cases h
          · rename_i F hF
            split at h
            · rename_i v H' hv
              obtain ⟨h1, h2⟩ := hE fid _ hF
              refine .inr ⟨h1 Args w, (h2 args H v H' rfl hv m Args w hA hH).mono fun e w' ⟨V, m', e1, e2, e3, e4⟩ => ?_⟩
              exact ⟨v, V, m', H', e1, e2, e3, e4, h⟩
            · cases h
          · rename_i hF
            split at h
            · rename_i fn hfn
              split at h
              · rename_i c' hc'
                cases hb : Nat.ble args.length fn.ntmps with
                | false => rw [hb] at h; cases h
                | true =>
                  rw [hb] at h
                  simp only [cond_true] at h
                  exact .inr ⟨hE fid _ hF Args w, acall_of_code ih hfn hc' (Nat.le_of_ble_eq_true hb) h hA hH⟩
              · cases h
            · cases h
          · cases h
      | true =>
        simp only [acode] at h
        cases hm : P.follows .mixedOrders with
        | false => rw [hm] at h; cases h
        | true =>
        rw [hm] at h
        simp only [cond_true] at h
        cases hb : (quietB env ops && Region.lexB .any ops) with
        | true =>
          rw [hb] at h
          simp only [Bool.and_eq_true] at hb
          simp only [cond_true] at h
          refine wp_region_quiet (C := fun w' => Ext [] w [] w') hm hb.2 ⟨⟨[], by simp⟩, rfl, rfl, rfl, Nat.le_refl _, fun _ _ _ => rfl⟩ ?_
          refine aopsQ_ok hE hH _ T a h hT fun T' a' q1 q2 q3 w' hw' => ?_
          exact hQ .normal T' H a' m w' q1 (hH.same hw'.blocks) hw'.same (q2.trans hd) q3
        | false =>
          rw [hb] at h
          simp only [cond_false] at h
          cases hv2 : Nat.ble 2 (vasOf P 0 ops.toList).length with
          | true =>
            rw [hv2] at h
            simp only [cond_true] at h
            exact aopsV_ok hE hv2 h hm hT hH fun T' H' a' m' w' q1 q2 q3 q4 q5 => hQ .normal T' H' a' m' w' q1 q2 q3 (q4.trans hd) q5
          | false =>
          rw [hv2] at h
          simp only [cond_false] at h
          cases hl : (Region.noSelect ops && lexOk ops ops.size 0 (Array.replicate ops.size false)) with
          | false => rw [hl] at h; cases h
          | true =>
            rw [hl] at h
            simp only [Bool.and_eq_true] at hl
            simp only [cond_true] at h
            exact aopsO_ok hE hl.2 h hm hT hH fun T' H' a' m' w' q1 q2 q3 q4 q5 => hQ .normal T' H' a' m' w' q1 q2 q3 (q4.trans hd) q5
    | seq x y =>
      simp only [acode] at h
      refine wp_seq (ih n x T H _ r h m a w _ hT hH hd fun e T' H' a' m' w' q1 q2 q3 q4 q5 => ?_)
      cases e with
      | normal => exact ih n y T' H' K r q5 m' a' w' Q q1 q2 q4 fun e T'' H'' a'' m'' w'' p1 p2 p3 p4 p5 => hQ e T'' H'' a'' m'' w'' p1 p2 (q3.trans p3) p4 p5
      | exit id => exact hQ (.exit id) T' H' a' m' w' q1 q2 q3 q4 q5
      | ret => exact hQ .ret T' H' a' m' w' q1 q2 q3 q4 q5
    | cond c x y =>
      simp only [acode] at h
      have hc := R_ev hT c
      split at h
      · rename_i b hb
        rw [hb] at hc
        simp only [R] at hc
        refine wp_cond (t := b) hc ?_
        split at h
        · rename_i T' H' hcv
          unfold aconv at hcv
          cases hs : (simple env x && simple env y) with
          | false => rw [hs] at hcv; cases hcv
          | true =>
            rw [hs] at hcv
            simp only [Bool.and_eq_true] at hs
            simp only [cond_true] at hcv
            split at hcv
            · rename_i Ta Ha Wa Tb Hb Wb hTa hTb
              split at hcv
              · rename_i H'' hmH
                cases hcv
                cases b with
                | true =>
                  exact asimple_ok hE x hs.1 T Ta H Ha [] Wa a w Q hTa hT hH fun a' w' q1 q2 q3 q4 q5 q6 q7 q8 => hQ .normal _ H' a' m w' (TR_merge (x := true) (fun _ => ⟨q1, q4⟩) (fun e => by cases e)) (HR_merge hmH (fun _ => ⟨q2, q5, q6⟩) (fun e => by cases e)) q3 (q8.trans hd) h
                | false =>
                  exact asimple_ok hE y hs.2 T Tb H Hb [] Wb a w Q hTb hT hH fun a' w' q1 q2 q3 q4 q5 q6 q7 q8 => hQ .normal _ H' a' m w' (TR_merge (x := false) (fun e => by cases e) (fun _ => ⟨q1, q4⟩)) (HR_merge hmH (fun e => by cases e) (fun _ => ⟨q2, q5, q6⟩)) q3 (q8.trans hd) h
              · cases hcv
            · cases hcv
        · split at h
          · rename_i d
            have hT' : TR m n ((d, .bool b) :: T) a.tmps := hT.know (by simp only [R]; exact hc)
            cases b with
            | true => exact ih n x _ H K r h m a w Q hT' hH hd hQ
            | false => exact ih n y _ H K r h m a w Q hT' hH hd hQ
          · cases b with
            | true => exact ih n x _ H K r h m a w Q hT hH hd hQ
            | false => exact ih n y _ H K r h m a w Q hT hH hd hQ
      · cases h
    | block id c =>
      simp only [acode] at h
      refine wp_block (ih n c T H _ r h m a w _ hT hH hd fun e T' H' a' m' w' q1 q2 q3 q4 q5 => ?_)
      cases e with
      | normal => exact hQ .normal T' H' a' m' w' q1 q2 q3 q4 q5
      | exit id' =>
        simp only [exOf, Exit.inBlock]
        simp only at q5
        cases hb : Nat.beq id' id with
        | true => rw [hb] at q5; rw [if_pos (Nat.eq_of_beq_eq_true hb)]; exact hQ .normal T' H' a' m' w' q1 q2 q3 q4 q5
        | false =>
          rw [hb] at q5
          rw [if_neg (fun e => by subst e; simp at hb)]
          exact hQ (.exit id') T' H' a' m' w' q1 q2 q3 q4 q5
      | ret => exact hQ .ret T' H' a' m' w' q1 q2 q3 q4 q5
    | loop c => exact wp_loop_rounds (fuel + 1) (B n c T H K r h m a w Q hT hH hd hQ)
    | exit id => exact wp_exit (hQ (.exit id) T H a m w hT hH (Ext.refl m w) hd h)
    | ret => exact wp_ret (hQ .ret T H a m w hT hH (Ext.refl m w) hd h)
    | _ => simp only [acode] at h; cases h

theorem acall_ok {P : Program} {env : Env} (hE : EnvOk P env) {fuel : Nat} {fid : FuncId} {args : List AV} {H : List AB} {K : AV → List AB → Option ρ} {r : ρ} (h : acall P env fuel fid args H K = some r)
    {m : List Nat} {Args : Array Value} {w : World} (hA : RL m args Args.toList) (hH : HR m H w) :
    Calls P fid Args w fun e w' => ∃ v V m' H', e = .returned V ∧ R m' v V ∧ HR m' H' w' ∧ Ext m w m' w' ∧ K v H' = some r := by
  unfold acall at h
  split at h
  · rename_i fn hfn
    split at h
    · rename_i c' hc'
      cases hb : Nat.ble args.length fn.ntmps with
      | false => rw [hb] at h; cases h
      | true =>
        rw [hb] at h
        simp only [cond_true] at h
        exact acall_of_code (acode_both hE fuel).1 hfn hc' (Nat.le_of_ble_eq_true hb) h hA hH
    · cases h
  · cases h

end

/-! ### Entering -/
theorem enter_of {P : Program} {f : FuncId} {fn : Func} (hf : P.funcs[f]? = some fn) (hn : (fn.name == "runtime.NumGoroutine") = false) (hb : fn.body.isNone = false) : EnterOk P f := fun Args w => by
  simp only [callFunc, Sem.run_bind, run_program, Result.andThen_ok, hf, hn, hb, Bool.false_eq_true, if_false, Sem.run_pure]

/-! ### Contracts of functions without memory -/
theorem pure_of {P : Program} {env : Env} (hE : EnvOk P env) (fuel : Nat) (f : FuncId) (C : List AV → Bool) (F : List AV → Option AV)
    (h : ∀ args v, C args = true → F args = some v → AV.noPtrL args = true ∧ v.noPtr = true ∧ acall P env fuel f args [] (fun v _ => bif v.noPtr then some v else none) = some v) : PureOk P f C F := by
  intro args v hC hv m Args w hA
  obtain ⟨hn, hnv, hc⟩ := h args v hC hv
  have hH : HR [] [] w := ⟨rfl, by simp, fun i B hB _ => by simp at hB⟩
  refine (acall_ok hE hc (m := []) (RL_noPtr args hn hA) hH).mono fun e w' ⟨v', V, m', H', e1, e2, e3, e4, e5⟩ => ?_
  cases hb : v'.noPtr with
  | false => rw [hb] at e5; cases e5
  | true =>
    rw [hb] at e5
    simp only [cond_true, Option.some.injEq] at e5
    subst e5
    exact ⟨V, e1, R_noPtr v' hb e2, ⟨⟨[], by simp⟩, e4.os, e4.tape, e4.output, e4.size, e4.block⟩⟩

/-- .. where more is known of the arguments. -/
theorem pure_of' {P : Program} {env : Env} (hE : EnvOk P env) (fuel : Nat) (f : FuncId) (C : List AV → Bool) (F : List AV → Option AV)
    (h : ∀ args v, C args = true → F args = some v → v.noPtr = true ∧ ∃ args', AV.noPtrL args' = true ∧ (∀ m Vs, RL m args Vs → RL m args' Vs) ∧ acall P env fuel f args' [] (fun v _ => bif v.noPtr then some v else none) = some v) : PureOk P f C F := by
  intro args v hC hv m Args w hA
  obtain ⟨hnv, args', hn, hR, hc⟩ := h args v hC hv
  have hH : HR [] [] w := ⟨rfl, by simp, fun i B hB _ => by simp at hB⟩
  refine (acall_ok hE hc (m := []) (RL_noPtr args' hn (hR m _ hA)) hH).mono fun e w' ⟨v', V, m', H', e1, e2, e3, e4, e5⟩ => ?_
  cases hb : v'.noPtr with
  | false => rw [hb] at e5; cases e5
  | true =>
    rw [hb] at e5
    simp only [cond_true, Option.some.injEq] at e5
    subst e5
    exact ⟨V, e1, R_noPtr v' hb e2, ⟨⟨[], by simp⟩, e4.os, e4.tape, e4.output, e4.size, e4.block⟩⟩

/-! ### Contracts of functions over one flow -/
def flowK (T : TypeId) (v : AV) (H : List AB) : Option (AV × Bool) :=
  match H with
  | .cells [.bool b] t :: _ => bif Nat.beq t T && v.noPtr then some (v, b) else none
  | _ => none

theorem flow_of {P : Program} {env : Env} (hE : EnvOk P env) (fuel : Nat) (f : FuncId) (T : TypeId) (C : List AV → Bool) (F : List AV → Option (Bool → AV × Bool))
    (h : ∀ args g, C args = true → F args = some g → ∀ b, acall P env fuel f (.ptr 0 0 :: args) [.cells [.bool b] T] (flowK T) = some (g b)) : EffOk P f (fun l => C l.tail) (flowSpec T F) := by
  intro args H v H' hC hv m Args w hA hH
  unfold flowSpec at hv
  split at hv
  · rename_i j rest
    split at hv
    · rename_i b t hj
      cases hb : (Nat.beq t T && AV.noPtrL rest) with
      | false => rw [hb] at hv; cases hv
      | true =>
        rw [hb] at hv
        simp only [Bool.and_eq_true] at hb
        obtain ⟨ht, hn⟩ := hb
        obtain rfl := Nat.eq_of_beq_eq_true ht
        simp only [cond_true] at hv
        split at hv
        · rename_i g hg
          simp only [Option.some.injEq, Prod.mk.injEq] at hv
          obtain ⟨rfl, rfl⟩ := hv
          obtain ⟨c, o, hc, hw, hB⟩ := hH.at_ j hj
          have hH1 : HR [c] [.cells [.bool b] t] w := by
            refine ⟨rfl, ?_, fun i B hB' _ => ?_⟩
            · intro i j' b' B C h1 h2 _ _ _ _
              cases i with
              | zero =>
                cases j' with
                | zero => rfl
                | succ j' => simp at h2
              | succ i => simp at h1
            · cases i with
              | zero =>
                simp at hB'
                subst hB'
                obtain ⟨Vs, h1, h2⟩ := hB
                exact ⟨c, o, by simp, hw, ⟨Vs, h1, RL_noPtr _ (by simp [AV.noPtrL, AV.noPtr]) h2⟩, trivial⟩
              | succ i => simp at hB'
          obtain ⟨V0, Vs, e0, hp, hr⟩ := RL_cons.1 hA
          have hA1 : RL [c] (.ptr 0 0 :: rest) Args.toList := by
            rw [e0]
            refine RL.cons ?_ (RL_noPtr rest hn hr)
            simp only [R] at hp ⊢
            obtain ⟨c', hc', e⟩ := hp
            rw [hc] at hc'; cases hc'
            exact ⟨c, by simp, e⟩
          refine (acall_ok hE (h rest g hC hg b) hA1 hH1).mono fun e w' ⟨v', V, m', H', e1, e2, e3, e4, e5⟩ => ?_
          unfold flowK at e5
          split at e5
          · rename_i b' t' Hr
            cases hb' : (Nat.beq t' t && v'.noPtr) with
            | false => rw [hb'] at e5; cases e5
            | true =>
              rw [hb'] at e5
              simp only [Bool.and_eq_true] at hb'
              obtain ⟨ht', hnv⟩ := hb'
              obtain rfl := Nat.eq_of_beq_eq_true ht'
              simp only [cond_true, Option.some.injEq] at e5
              rw [← e5]
              obtain ⟨x, hx, hxs⟩ := e4.pre
              obtain ⟨c2, o2, hc2, hw2, hB2⟩ := e3.at_ 0 (B := .cells [.bool b'] t') rfl
              rw [hx] at hc2
              simp at hc2
              subst hc2
              have live : ∀ {i : Nat} {B : AB}, (H.set j (.cells [.bool b'] t'))[i]? = some B → B.live = true → ∃ B', H[i]? = some B' ∧ B'.live = true := fun {i B} hB' hl => by
                by_cases hij : j = i
                · subst hij; exact ⟨_, hj, rfl⟩
                · rw [List.getElem?_set_ne hij] at hB'; exact ⟨B, hB', hl⟩
              refine ⟨V, m, e1, R_noPtr v' hnv e2, ⟨by simp [hH.len], ?_, ?_⟩, ⟨⟨[], by simp⟩, e4.os, e4.tape, e4.output, e4.size, ?_⟩⟩
              · intro i i' b3 B C h1 h2 h3 h4 h5 h6
                obtain ⟨B', b1, b2⟩ := live h3 h5
                obtain ⟨C', d1, d2⟩ := live h4 h6
                exact hH.nodup i i' b3 B' C' h1 h2 b1 d1 b2 d2
              · intro i B hB' hl
                by_cases hij : j = i
                · subst hij
                  have hlt : j < H.length := (List.getElem?_eq_some_iff.1 hj).1
                  simp [hlt] at hB'
                  subst hB'
                  obtain ⟨Vs', h1, h2⟩ := hB2
                  exact ⟨c, o2, hc, hw2, ⟨Vs', h1, RL_noPtr _ (by simp [AV.noPtrL, AV.noPtr]) h2⟩, trivial⟩
                · rw [List.getElem?_set_ne hij] at hB'
                  obtain ⟨c3, o3, h1, h2, h3, h4⟩ := hH.all i B hB' hl
                  refine ⟨c3, o3, h1, ?_, h3, h4⟩
                  have hlt3 := (Array.getElem?_eq_some_iff.1 h2).1
                  rw [e4.block c3 hlt3 (by simp; intro e; subst e; exact hij (hH.nodup _ _ _ _ _ hc h1 hj hB' rfl hl))]
                  exact h2
              · intro k hk hkm
                exact e4.block k hk (by simp; intro e; subst e; exact hkm (List.mem_of_getElem? hc))
          · cases e5
        · cases hv
    · cases hv
  · cases hv

end Go.Proofs.YtdojnnlhaiennaaGreat.Ae

/- The interpreter that joins the ways of a condition again wherever it can; what it never touches. Conditions: the contracts that are looked up hold. -/
namespace Go.Proofs.YtdojnnlhaiennaaGreat.Ae
open Go

/-! ### Blocks that are only looked at -/
/-- Constant blocks stay. -/
def Pres (H H' : List AB) : Prop := ∀ (j : Nat) (l : List AV) (t : TypeId), H[j]? = some (.cst l t) → H'[j]? = some (.cst l t)
theorem Pres.refl (H : List AB) : Pres H H := fun _ _ _ h => h
theorem Pres.trans {H H' H'' : List AB} (h : Pres H H') (k : Pres H' H'') : Pres H H'' := fun j l t e => k j l t (h j l t e)
theorem Pres.append (H x : List AB) : Pres H (H ++ x) := fun j l t e => by
  rw [List.getElem?_append_left (List.getElem?_eq_some_iff.1 e).1]; exact e
def AB.isCst : AB → Bool
  | .cst _ _ => true
  | _ => false
theorem Pres.set {H : List AB} {i : Nat} {B : AB} (hB : H[i]? = some B) (hc : B.isCst = false) (C : AB) : Pres H (H.set i C) := fun j l t e => by
  by_cases hij : i = j
  · subst hij
    rw [hB] at e
    cases e
    cases hc
  · rw [List.getElem?_set_ne hij]; exact e

section
variable {ρ : Type} {P : Program}

theorem bif_some {b : Bool} {X : Option ρ} {r : ρ} (h : (bif b then X else none) = some r) : X = some r := by
  cases b
  · cases h
  · exact h
theorem apure_E {e : Operand → AV} {op : Op} {K : AV → Option ρ} {r : ρ} (h : apure P e op K = some r) : ∃ v, K v = some r := by
  cases hk : pureKind op with
  | true =>
    rw [apure_nat hk] at h
    obtain ⟨v, _, h⟩ := Option.bind_eq_some_iff.1 h
    exact ⟨v, h⟩
  | false => cases op <;> simp [pureKind] at hk <;> simp [apure] at h
theorem amem_E {e : Operand → AV} {H : List AB} {op : Op} {K : AV → List AB → Option ρ} {r : ρ} (h : amem P e H op K = some r) : ∃ v H', K v H' = some r ∧ Pres H H' := by
  cases op <;> simp only [amem, reduceCtorEq] at h
  case alloc =>
    split at h
    · split at h
      · exact ⟨_, _, h, Pres.append _ _⟩
      · cases h
    · cases h
  case box =>
    split at h
    · exact ⟨_, _, h, Pres.append _ _⟩
    · cases h
  case buildSlice =>
    split at h
    · split at h
      · replace h := bif_some h
        split at h
        · exact ⟨_, _, h, Pres.append _ _⟩
        · cases h
      · cases h
    · cases h
  case store t a x =>
    split at h
    · split at h
      · rename_i hl
        exact ⟨_, _, bif_some h, Pres.set hl rfl _⟩
      · rename_i hl
        split at h
        · exact ⟨_, _, bif_some h, Pres.set hl rfl _⟩
        · cases h
      · cases h
    · cases h
  case makeMap t res =>
    cases res
    · simp only at h
      split at h
      · exact ⟨_, _, h, Pres.append _ _⟩
      · cases h
    · simp at h
  all_goals
    split at h
    · rename_i H' hm
      refine ⟨_, _, h, ?_⟩
      unfold mapPutA at hm
      split at hm
      · split at hm
        · rename_i i _ B hB
          cases hm
          unfold mapPutAt at hB
          split at hB
          · rename_i _ hi
            exact Pres.set hi rfl _
          · cases hB
        · cases hm
      · cases hm
    · cases h
theorem aappendS0_E {el : TypeId} {args : List AV} {H : List AB} {K : AV → List AB → Option ρ} {r : ρ} (h : aappendS0 el args H K = some r) : ∃ v H', K v H' = some r ∧ Pres H H' := by
  unfold aappendS0 at h
  split at h
  · rename_i i o len cap s
    cases hb : (Nat.beq len cap && Nat.ble cap 100000 && Nat.ble 1 s.size && Nat.ble s.size 100000) with
    | false => rw [hb] at h; cases h
    | true =>
      rw [hb] at h
      simp only [cond_true] at h
      split at h
      · exact ⟨_, _, h, Pres.append _ _⟩
      · cases h
  · cases h
theorem aappendS_E {el : TypeId} {args : List AV} {H : List AB} {K : AV → List AB → Option ρ} {r : ρ} (h : aappendS el args H K = some r) : ∃ v H', K v H' = some r ∧ Pres H H' := by
  unfold aappendS at h
  split at h
  · rename_i i o len cap s n g
    cases hb0 : Nat.beq n 0 with
    | true =>
      rw [hb0] at h
      simp only [cond_true] at h
      exact ⟨_, _, bif_some h, Pres.refl _⟩
    | false =>
    rw [hb0] at h
    simp only [cond_false] at h
    cases hb : (Nat.beq len cap && Nat.ble cap 100000 && Nat.ble 1 n && Nat.ble n 100000) with
    | false => rw [hb] at h; cases h
    | true =>
      rw [hb] at h
      simp only [cond_true] at h
      split at h
      · exact ⟨_, _, h, Pres.append _ _⟩
      · cases h
  · exact aappendS0_E h
theorem aappendZ_E {el : TypeId} {z : Nat} {args : List AV} {H : List AB} {K : AV → List AB → Option ρ} {r : ρ} (h : aappendZ el z args H K = some r) : ∃ v H', K v H' = some r ∧ Pres H H' := by
  unfold aappendZ at h
  split at h
  · split at h
    · rename_i news _ _
      cases hb : (AV.scalars news && Nat.beq news.length z) with
      | false => rw [hb] at h; cases h
      | true =>
        rw [hb] at h
        simp only [cond_true] at h
        split at h
        · exact ⟨_, _, h, Pres.append _ _⟩
        · rename_i i n
          split at h
          · rename_i z' l el' hl
            cases hb2 : (Nat.beq z z' && Nat.beq el el' && Nat.beq l.length (n * z) && Nat.ble n 100000) with
            | false => rw [hb2] at h; cases h
            | true => rw [hb2] at h; exact ⟨_, _, h, (Pres.set hl rfl _).trans (Pres.append _ _)⟩
          · cases h
        · cases h
    · cases h
  · cases h
theorem aappend_E {ts : Array TypeId} {args : List AV} {H : List AB} {K : AV → List AB → Option ρ} {r : ρ} (h : aappend P ts args H K = some r) : ∃ v H', K v H' = some r ∧ Pres H H' := by
  unfold aappend at h
  split at h
  · split at h
    · rename_i el news _ _
      cases hb : (Nat.beq _ _ && AV.scalars news && Nat.ble 1 news.length && Nat.ble news.length 100000) with
      | false => rw [hb] at h; cases h
      | true =>
        rw [hb] at h
        simp only [cond_true] at h
        split at h
        · exact ⟨_, _, h, Pres.append _ _⟩
        · rename_i i n
          split at h
          · rename_i l el' hl
            cases hb2 : (Nat.beq l.length n && Nat.beq el el' && Nat.ble n 100000) with
            | false => rw [hb2] at h; cases h
            | true => rw [hb2] at h; exact ⟨_, _, h, (Pres.set hl rfl _).trans (Pres.append _ _)⟩
          · cases h
        · rename_i i o len cap
          cases hb2 : (Nat.beq len cap && Nat.ble cap 100000) with
          | false => rw [hb2] at h; cases h
          | true =>
            rw [hb2] at h
            simp only [cond_true] at h
            split at h
            · exact ⟨_, _, h, Pres.append _ _⟩
            · cases h
        · cases h
    · cases h
  · cases h
theorem amake_E {t : TypeId} {l c : AV} {H : List AB} {K : AV → List AB → Option ρ} {r : ρ} (h : amake P t l c H K = some r) : ∃ v H', K v H' = some r ∧ Pres H H' := by
  unfold amake at h
  split at h
  · rename_i k l k' c
    cases hb : (decide (0 ≤ l) && decide (l ≤ c) && decide (c ≤ 100000)) with
    | false => rw [hb] at h; cases h
    | true =>
      rw [hb] at h
      simp only [cond_true] at h
      split at h
      · split at h
        · exact ⟨_, _, h, Pres.append _ _⟩
        · cases h
      · cases h
  · cases h
theorem aconvR_E {s d : TypeId} {x : AV} {H : List AB} {K : AV → List AB → Option ρ} {r : ρ} (h : aconvR P s d x H K = some r) : ∃ v H', K v H' = some r ∧ Pres H H' := by
  unfold aconvR at h
  split at h
  · split at h
    · split at h
      · exact ⟨_, _, bif_some h, Pres.refl _⟩
      · split at h
        · exact ⟨_, _, h, Pres.refl _⟩
        · cases h
    · cases h
  · split at h
    · exact ⟨_, _, h, Pres.append _ _⟩
    · exact ⟨_, _, h, Pres.append _ _⟩
    · cases h
  · cases h
/-- A way of calling that keeps constant blocks. -/
def DE (dc : FuncId → List AV → List AB → (AV → List AB → Option ρ) → Option ρ) : Prop := ∀ f args H K r, dc f args H K = some r → ∃ v H', K v H' = some r ∧ Pres H H'
theorem tabK_E {ρ : Type} {P : Program} {t : TypeId} {o0 o : Nat} {f : Nat → List AV} {k n : Nat} {K : AV → Option ρ} {r : ρ} (h : tabK P t o0 o f k n K = some r) : ∃ v, K v = some r := by
  unfold tabK at h
  split at h
  · split at h
    · rename_i z _
      cases hc : (Nat.beq z k && Nat.ble 1 k && Nat.ble o0 o && Nat.beq ((o - o0) % k) 0 && Nat.ble ((o - o0) / k + 1) n) with
      | false => rw [hc] at h; cases h
      | true => rw [hc] at h; exact ⟨_, h⟩
    · cases h
  · cases hc : (Nat.beq k 1 && Nat.ble o0 o && Nat.ble (o - o0 + 1) n) with
    | false => rw [hc] at h; cases h
    | true =>
      rw [hc] at h
      simp only [cond_true] at h
      split at h
      · exact ⟨_, h⟩
      · cases h
  · cases h
theorem aexec_E {dc : FuncId → List AV → List AB → (AV → List AB → Option ρ) → Option ρ} (hD : DE dc) {o : Oper} {T : List (Nat × AV)} {H : List AB} {K : AV → List AB → Option ρ} {r : ρ} (h : aexec P dc o T H K = some r) : ∃ v H', K v H' = some r ∧ Pres H H' := by
  unfold aexec at h
  split at h
  · split at h
    · split at h
      · exact hD _ _ _ _ _ h
      · cases h
    · split at h
      · split at h
        · exact aappendZ_E h
        · split at h
          · exact aappendS_E h
          · exact aappend_E h
      · rw [abuiltin_nat] at h
        obtain ⟨v, _, h⟩ := Option.bind_eq_some_iff.1 h
        exact ⟨v, H, h, Pres.refl _⟩
    · cases h
  · split at h
    · obtain ⟨v, h⟩ := tabK_E h
      exact ⟨_, _, h, Pres.refl _⟩
    · split at h
      · exact ⟨_, _, h, Pres.refl _⟩
      · cases h
  · split at h
    · exact ⟨_, _, h, Pres.refl _⟩
    · cases h
  · exact amake_E h
  · rename_i s d x _
    cases hb : isRowConv P s d with
    | true => rw [hb] at h; exact aconvR_E h
    | false =>
      rw [hb] at h
      simp only [cond_false] at h
      obtain ⟨v, h⟩ := apure_E h
      exact ⟨v, H, h, Pres.refl _⟩
  · cases hb : isMem o.op with
    | true => rw [hb] at h; exact amem_E h
    | false =>
      rw [hb] at h
      simp only [cond_false] at h
      obtain ⟨v, h⟩ := apure_E h
      exact ⟨v, H, h, Pres.refl _⟩
theorem aput_E {n : Nat} {d : Option Tmp} {v : AV} {T : List (Nat × AV)} {K : List (Nat × AV) → Option ρ} {r : ρ} (h : aput n d v T K = some r) : ∃ T', K T' = some r := ⟨_, (aput_cases h).2⟩
theorem aguard_E {ops : Array Oper} {n : Nat} {o : Oper} {T : List (Nat × AV)} {run skip : List (Nat × AV) → Option ρ} {r : ρ} (h : aguard ops n o T run skip = some r) : ∃ T', run T' = some r ∨ skip T' = some r := by
  rcases aguard_cases h with ⟨T1, _, _, h1⟩ | ⟨T1, _, _, h1⟩
  · exact ⟨T1, .inl h1⟩
  · exact ⟨T1, .inr h1⟩
theorem aopsS_E {dc : FuncId → List AV → List AB → (AV → List AB → Option ρ) → Option ρ} (hD : DE dc) {ops : Array Oper} {n : Nat} {K : List (Nat × AV) → List AB → Option ρ} {r : ρ} : ∀ (l : List Oper) (T : List (Nat × AV)) (G : Weak) (H : List AB), aopsS P dc ops n l T G H K = some r → ∃ T' H', K T' H' = some r ∧ Pres H H'
  | [], T, G, H, h => ⟨T, H, h, Pres.refl _⟩
  | o :: l, T, G, H, h => by
    simp only [aopsS] at h
    split at h
    · cases hd : dstFree G o.dst with
      | false => rw [hd] at h; cases h
      | true =>
        rw [hd] at h
        simp only [cond_true] at h
        cases hs : isSpec o.op with
        | true =>
          rw [hs] at h
          simp only [cond_true] at h
          split at h
          · obtain ⟨T2, h3⟩ := aput_E h
            exact aopsS_E hD l T2 G H h3
          · cases h
        | false =>
          rw [hs] at h
          obtain ⟨v, H1, h2, p1⟩ := aexec_E hD h
          obtain ⟨T2, h3⟩ := aput_E h2
          obtain ⟨T', H', h4, p2⟩ := aopsS_E hD l T2 G H1 h3
          exact ⟨T', H', h4, p1.trans p2⟩
    · split at h
      · rename_i s d _ _
        cases hb : (Nat.ble (d + 1) n && !(Nat.beq d s) && !(wguards G d)) with
        | false => rw [hb] at h; cases h
        | true =>
          rw [hb] at h
          simp only [cond_true] at h
          split at h
          · exact aopsS_E hD l _ _ H h
          · cases h
      · cases h
theorem aexecQ_E {env : Env} {o : Oper} {T : List (Nat × AV)} {H : List AB} {K : AV → Option ρ} {r : ρ} (h : aexecQ P env o T H K = some r) : ∃ v, K v = some r := by
  unfold aexecQ at h
  split at h
  · split at h
    · split at h
      · split at h
        · rename_i C F _
          cases hC : C _ with
          | false => rw [hC] at h; cases h
          | true =>
            rw [hC] at h
            simp only [cond_true] at h
            split at h
            · rename_i v _
              cases hb : v.noPtr with
              | false => rw [hb] at h; cases h
              | true => rw [hb] at h; exact ⟨_, h⟩
            · cases h
        · cases h
      · cases h
    · rw [abuiltin_nat] at h
      obtain ⟨v, _, h⟩ := Option.bind_eq_some_iff.1 h
      exact ⟨v, h⟩
    · cases h
  · split at h
    · exact ⟨_, h⟩
    · cases h
  · cases hb : isMem o.op with
    | true => rw [hb] at h; cases h
    | false => rw [hb] at h; exact apure_E h
theorem aopsQ_E {env : Env} {ops : Array Oper} {n : Nat} {H : List AB} {K : List (Nat × AV) → Option ρ} {r : ρ} : ∀ (l : List Oper) (T : List (Nat × AV)), aopsQ P env ops n H l T K = some r → ∃ T', K T' = some r
  | [], T, h => ⟨T, h⟩
  | o :: l, T, h => by
    simp only [aopsQ] at h
    obtain ⟨T1, h1 | h1⟩ := aguard_E h
    · obtain ⟨v, h2⟩ := aexecQ_E h1
      obtain ⟨T2, h3⟩ := aput_E h2
      exact aopsQ_E l T2 h3
    · obtain ⟨T2, h3⟩ := aput_E h1
      exact aopsQ_E l T2 h3
theorem flowSpec_E {T : TypeId} {F : List AV → Option (Bool → AV × Bool)} {args : List AV} {H H' : List AB} {v : AV} (h : flowSpec T F args H = some (v, H')) : Pres H H' := by
  unfold flowSpec at h
  split at h
  · split at h
    · rename_i j rest b t hj
      cases hb : (Nat.beq t T && AV.noPtrL _) with
      | false => rw [hb] at h; cases h
      | true =>
        rw [hb] at h
        simp only [cond_true] at h
        split at h
        · cases h; exact Pres.set hj rfl _
        · cases h
    · cases h
  · cases h
theorem cloSpec_E {T : TypeId} {F : List AV → Option (Bool → AV × Bool)} {args : List AV} {H H' : List AB} {v : AV} (h : cloSpec T F args H = some (v, H')) : Pres H H' := by
  unfold cloSpec at h
  split at h
  · split at h
    · split at h
      · rename_i y t hj
        cases hb : (Nat.beq t T && AV.noPtrL _) with
        | false => rw [hb] at h; cases h
        | true =>
          rw [hb] at h
          simp only [cond_true] at h
          split at h
          · cases h; exact Pres.set hj rfl _
          · cases h
      · cases h
    · cases h
  · cases h
theorem seeSpec_E {F : List AV → List AB → Option (AV × AB)} {args : List AV} {H H' : List AB} {v : AV} (h : seeSpec F args H = some (v, H')) : Pres H H' := by
  unfold seeSpec at h
  split at h
  · split at h
    · rename_i hj
      split at h
      · rename_i v' B _
        cases hb : v'.noPtr with
        | false => rw [hb] at h; cases h
        | true => rw [hb] at h; cases h; exact Pres.set hj rfl _
      · cases h
    · cases h
  · cases h
theorem mkSpec_E {F : List AV → Option (Nat → AV × AB)} {args : List AV} {H H' : List AB} {v : AV} (h : mkSpec F args H = some (v, H')) : Pres H H' := by
  unfold mkSpec at h
  split at h
  · cases h; exact Pres.append _ _
  · cases h
theorem dcD_E {env : Env} : DE (dcD (ρ := ρ) env) := by
  intro f args H K r h
  unfold dcD at h
  split at h
  · rename_i C F _
    cases hC : C args with
    | false => rw [hC] at h; cases h
    | true =>
      rw [hC] at h
      simp only [cond_true] at h
      split at h
      · rename_i v _
        cases hb : v.noPtr with
        | false => rw [hb] at h; cases h
        | true => rw [hb] at h; exact ⟨_, _, h, Pres.refl _⟩
      · cases h
  · rename_i C F _
    cases hC : C args with
    | false => rw [hC] at h; cases h
    | true =>
      rw [hC] at h
      simp only [cond_true] at h
      split at h
      · exact ⟨_, _, h, Pres.refl _⟩
      · cases h
  · split at h
    · rename_i v _
      cases hb : v.noPtr with
      | false => rw [hb] at h; cases h
      | true => rw [hb] at h; exact ⟨_, _, h, Pres.refl _⟩
    · cases h
  · split at h
    · rename_i hv; exact ⟨_, _, h, flowSpec_E hv⟩
    · cases h
  · split at h
    · rename_i hv; exact ⟨_, _, h, cloSpec_E hv⟩
    · cases h
  · split at h
    · rename_i hv; exact ⟨_, _, h, seeSpec_E hv⟩
    · cases h
  · split at h
    · rename_i hv; exact ⟨_, _, h, mkSpec_E hv⟩
    · cases h
  · cases h
theorem aopsO_E {env : Env} {chk : Foots → Bool} {ops : Array Oper} {n : Nat} {K : List (Nat × AV) → List AB → Option ρ} {r : ρ} : ∀ (l : List Oper) (T : List (Nat × AV)) (H : List AB) (F : Foots), aopsO chk P env ops n l T H F K = some r → ∃ T' H', K T' H' = some r ∧ Pres H H'
  | [], T, H, F, h => by
    simp only [aopsO] at h
    cases hb : (chk F.reverse && orderedB ops 0 ops.toList F.reverse) with
    | false => rw [hb] at h; cases h
    | true => rw [hb] at h; exact ⟨T, H, h, Pres.refl _⟩
  | o :: l, T, H, F, h => by
    simp only [aopsO] at h
    obtain ⟨T1, h1 | h1⟩ := aguard_E h
    · split at h1
      · obtain ⟨v, H1, h2, p1⟩ := aexec_E dcD_E h1
        obtain ⟨T2, h3⟩ := aput_E h2
        obtain ⟨T', H', h4, p2⟩ := aopsO_E l T2 H1 _ h3
        exact ⟨T', H', h4, p1.trans p2⟩
      · cases h1
    · obtain ⟨T2, h3⟩ := aput_E h1
      exact aopsO_E l T2 H _ h3
theorem aopsV_E {env : Env} {ops : Array Oper} {n : Nat} {A : List Va} {T : List (Nat × AV)} {H : List AB} {K : List (Nat × AV) → List AB → Option ρ} {r : ρ} (h : aopsV P env ops n A T H K = some r) : ∃ T' H', K T' H' = some r ∧ Pres H H' := by
  unfold aopsV at h
  cases hb : (distB A && A.all (fun a => Nat.ble (a.d + 1) n && AV.noPtrL a.l) && H.all AB.live && lexOk (ops.map (devirt n)) ops.size 0 (Array.replicate ops.size false)) with
  | false => rw [hb] at h; cases h
  | true =>
    rw [hb] at h
    obtain ⟨T', H', h2, p⟩ := aopsO_E _ _ _ _ h
    exact ⟨_, _, h2, (Pres.append _ _).trans p⟩
end

/-! ### What is known without the newest blocks -/
mutual
def AV.trunc (L : Nat) : AV → AV
  | .ptr i o => bif Nat.ble (i + 1) L then .ptr i o else .any
  | .slice i o l c => bif Nat.ble (i + 1) L then .slice i o l c else .any
  | .own i n => bif Nat.ble (i + 2) L then .own i n else .any
  | .view i o n => bif Nat.ble (i + 1) L then .view i o n else .any
  | .map i => bif Nat.ble (i + 1) L then .map i else .any
  | .agg l => .agg (AV.truncL L l)
  | .tup l => .tup (AV.truncL L l)
  | .fn f l => .fn f (AV.truncL L l)
  | v => v
def AV.truncL (L : Nat) : List AV → List AV
  | [] => []
  | v :: l => v.trunc L :: AV.truncL L l
end
theorem get_back {m y : List Nat} {i b : Nat} (h : (m ++ y)[i]? = some b) (hi : i < m.length) : m[i]? = some b := by
  rw [List.getElem?_append_left hi] at h; exact h
mutual
theorem R_trunc {m y : List Nat} : ∀ (v : AV) {V : Value}, R (m ++ y) v V → R m (v.trunc m.length) V
  | .int .., _, h => by simpa only [AV.trunc, R] using h
  | .bool _, _, h => by simpa only [AV.trunc, R] using h
  | .str _, _, h => by simpa only [AV.trunc, R] using h
  | .nilp, _, h => by simpa only [AV.trunc, R] using h
  | .nils, _, h => by simpa only [AV.trunc, R] using h
  | .nilfn, _, h => by simpa only [AV.trunc, R] using h
  | .strF .., _, h => by simpa only [AV.trunc, R] using h
  | .intF .., _, h => by simpa only [AV.trunc, R] using h
  | .strG .., _, h => by simpa only [AV.trunc, R] using h
  | .any, _, _ => by simp only [AV.trunc, R]
  | .ptr i o, _, h => by
    simp only [AV.trunc]
    cases hb : Nat.ble (i + 1) m.length with
    | false => simp only [cond_false, R]
    | true =>
      simp only [cond_true, R] at h ⊢
      obtain ⟨b, h1, h2⟩ := h
      exact ⟨b, get_back h1 (Nat.le_of_ble_eq_true hb), h2⟩
  | .slice i o l c, _, h => by
    simp only [AV.trunc]
    cases hb : Nat.ble (i + 1) m.length with
    | false => simp only [cond_false, R]
    | true =>
      simp only [cond_true, R] at h ⊢
      obtain ⟨b, h1, h2⟩ := h
      exact ⟨b, get_back h1 (Nat.le_of_ble_eq_true hb), h2⟩
  | .view i o n, _, h => by
    simp only [AV.trunc]
    cases hb : Nat.ble (i + 1) m.length with
    | false => simp only [cond_false, R]
    | true =>
      simp only [cond_true, R] at h ⊢
      obtain ⟨b, c, h1, h2⟩ := h
      exact ⟨b, c, get_back h1 (Nat.le_of_ble_eq_true hb), h2⟩
  | .own i n, _, h => by
    simp only [AV.trunc]
    cases hb : Nat.ble (i + 2) m.length with
    | false => simp only [cond_false, R]
    | true =>
      simp only [cond_true, R] at h ⊢
      obtain ⟨b, c, h1, h2, h3⟩ := h
      have := Nat.le_of_ble_eq_true hb
      exact ⟨b, c, get_back h1 (by omega), get_back h2 (by omega), h3⟩
  | .map i, _, h => by
    simp only [AV.trunc]
    cases hb : Nat.ble (i + 1) m.length with
    | false => simp only [cond_false, R]
    | true =>
      simp only [cond_true, R] at h ⊢
      obtain ⟨b, h1, h2⟩ := h
      exact ⟨b, get_back h1 (Nat.le_of_ble_eq_true hb), h2⟩
  | .agg l, _, h => by
    simp only [AV.trunc, R] at h ⊢
    obtain ⟨Vs, h1, h2⟩ := h
    exact ⟨Vs, h1, RL_trunc l h2⟩
  | .tup l, _, h => by
    simp only [AV.trunc, R] at h ⊢
    obtain ⟨Vs, h1, h2⟩ := h
    exact ⟨Vs, h1, RL_trunc l h2⟩
  | .fn f l, _, h => by
    simp only [AV.trunc, R] at h ⊢
    obtain ⟨Vs, h1, h2⟩ := h
    exact ⟨Vs, h1, RL_trunc l h2⟩
theorem RL_trunc {m y : List Nat} : ∀ (l : List AV) {Vs : List Value}, RL (m ++ y) l Vs → RL m (AV.truncL m.length l) Vs
  | [], _, h => by simpa only [AV.truncL, RL] using h
  | v :: l, _, h => by
    obtain ⟨V, Vs', rfl, h2, h3⟩ := RL_cons.1 h
    simp only [AV.truncL]
    exact RL.cons (R_trunc v h2) (RL_trunc l h3)
end
mutual
/-- What was known of something by older blocks alone, is known so of what it is now. -/
theorem R_back {m y : List Nat} : ∀ (v : AV) {V0 V : Value}, R m v V0 → R (m ++ y) v V → R m v V
  | .int .., _, _, _, h => by simpa only [R] using h
  | .bool _, _, _, _, h => by simpa only [R] using h
  | .str _, _, _, _, h => by simpa only [R] using h
  | .nilp, _, _, _, h => by simpa only [R] using h
  | .nils, _, _, _, h => by simpa only [R] using h
  | .nilfn, _, _, _, h => by simpa only [R] using h
  | .strF .., _, _, _, h => by simpa only [R] using h
  | .intF .., _, _, _, h => by simpa only [R] using h
  | .strG .., _, _, _, h => by simpa only [R] using h
  | .any, _, _, _, _ => by simp only [R]
  | .ptr i o, _, _, h0, h => by
    simp only [R] at h0 h ⊢
    obtain ⟨b0, g1, _⟩ := h0
    obtain ⟨b, h1, h2⟩ := h
    exact ⟨b, get_back h1 (List.getElem?_eq_some_iff.1 g1).1, h2⟩
  | .slice i o l c, _, _, h0, h => by
    simp only [R] at h0 h ⊢
    obtain ⟨b0, g1, _⟩ := h0
    obtain ⟨b, h1, h2⟩ := h
    exact ⟨b, get_back h1 (List.getElem?_eq_some_iff.1 g1).1, h2⟩
  | .view i o n, _, _, h0, h => by
    simp only [R] at h0 h ⊢
    obtain ⟨b0, c0, g1, _⟩ := h0
    obtain ⟨b, c, h1, h2⟩ := h
    exact ⟨b, c, get_back h1 (List.getElem?_eq_some_iff.1 g1).1, h2⟩
  | .own i n, _, _, h0, h => by
    simp only [R] at h0 h ⊢
    obtain ⟨b0, c0, g1, g2, _⟩ := h0
    obtain ⟨b, c, h1, h2, h3⟩ := h
    exact ⟨b, c, get_back h1 (List.getElem?_eq_some_iff.1 g1).1, get_back h2 (List.getElem?_eq_some_iff.1 g2).1, h3⟩
  | .map i, _, _, h0, h => by
    simp only [R] at h0 h ⊢
    obtain ⟨b0, g1, _⟩ := h0
    obtain ⟨b, h1, h2⟩ := h
    exact ⟨b, get_back h1 (List.getElem?_eq_some_iff.1 g1).1, h2⟩
  | .agg l, _, _, h0, h => by
    simp only [R] at h0 h ⊢
    obtain ⟨Us, _, g2⟩ := h0
    obtain ⟨Vs, h1, h2⟩ := h
    exact ⟨Vs, h1, RL_back l g2 h2⟩
  | .tup l, _, _, h0, h => by
    simp only [R] at h0 h ⊢
    obtain ⟨Us, _, g2⟩ := h0
    obtain ⟨Vs, h1, h2⟩ := h
    exact ⟨Vs, h1, RL_back l g2 h2⟩
  | .fn f l, _, _, h0, h => by
    simp only [R] at h0 h ⊢
    obtain ⟨Us, _, g2⟩ := h0
    obtain ⟨Vs, h1, h2⟩ := h
    exact ⟨Vs, h1, RL_back l g2 h2⟩
theorem RL_back {m y : List Nat} : ∀ (l : List AV) {Us Vs : List Value}, RL m l Us → RL (m ++ y) l Vs → RL m l Vs
  | [], _, _, _, h => by simpa only [RL] using h
  | v :: l, _, _, h0, h => by
    obtain ⟨U, Us', rfl, g2, g3⟩ := RL_cons.1 h0
    obtain ⟨V, Vs', rfl, h2, h3⟩ := RL_cons.1 h
    exact RL.cons (R_back v g2 h2) (RL_back l g3 h3)
end

/-! ### Two values laid together: what is known stays known -/
mutual
def mergeV (x : Bool) : AV → AV → AV
  | .bool p, .bool q => .bool (bif p == q then p else bif x then p else q)
  | .int k p, .int k' q => if k = k' then .int k (bif p == q then p else bif x then p else q) else bif x then .int k p else .int k' q
  | .nilp, .nilp => .nilp
  | .nils, .nils => .nils
  | .nilfn, .nilfn => .nilfn
  | .ptr i o, .ptr i' o' => bif Nat.beq i i' && Nat.beq o o' then .ptr i o else bif x then .ptr i o else .ptr i' o'
  | .str p, .str q => .str (bif x then p else q)
  | .agg l, .agg l' => bif Nat.beq l.length l'.length then .agg (mergeW x l l') else bif x then .agg l else .agg l'
  | .tup l, .tup l' => bif Nat.beq l.length l'.length then .tup (mergeW x l l') else bif x then .tup l else .tup l'
  | .slice i o l c, .slice i' o' l' c' => bif Nat.beq i i' && Nat.beq o o' && Nat.beq l l' && Nat.beq c c' then .slice i o l c else bif x then .slice i o l c else .slice i' o' l' c'
  | .own i n, .own i' n' => bif Nat.beq i i' && Nat.beq n n' then .own i n else bif x then .own i n else .own i' n'
  | .map i, .map i' => bif Nat.beq i i' then .map i else bif x then .map i else .map i'
  | .fn f l, .fn f' l' => bif Nat.beq f f' && Nat.beq l.length l'.length then .fn f (mergeW x l l') else bif x then .fn f l else .fn f' l'
  | .any, .any => .any
  | v, u => bif x then v else u
def mergeW (x : Bool) : List AV → List AV → List AV
  | v :: l, u :: l' => mergeV x v u :: mergeW x l l'
  | _, _ => []
end

mutual
theorem R_mergeV {m : List Nat} {x : Bool} : ∀ (v u : AV) {V : Value}, (x = true → R m v V) → (x = false → R m u V) → R m (mergeV x v u) V := by
  intro v u V h1 h2
  cases v <;> cases u <;> simp only [mergeV] <;> (try (simp only [R]; done)) <;> (try (cases x; exact h2 rfl; exact h1 rfl; done))
  case int.int k p k' q =>
    split
    · rename_i e; subst e
      have hb : ∀ (X : Int), (bif p == q then p else X) = if p = q then p else X := fun X => by
        by_cases e : p = q
        · subst e; simp
        · have : (p == q) = false := by simpa using e
          rw [this, if_neg e]; rfl
      rw [hb]
      by_cases e : p = q
      · subst e; rw [if_pos rfl]; cases x
        · exact h2 rfl
        · exact h1 rfl
      · rw [if_neg e]; cases x
        · exact h2 rfl
        · exact h1 rfl
    · cases x; exact h2 rfl; exact h1 rfl
  case bool.bool p q =>
    cases x
    · have := h2 rfl; cases p <;> cases q <;> exact this
    · have := h1 rfl; cases p <;> cases q <;> exact this
  case ptr.ptr i o i' o' =>
    cases hb : (Nat.beq i i' && Nat.beq o o') with
    | false => simp only [cond_false]; cases x; exact h2 rfl; exact h1 rfl
    | true =>
      simp only [Bool.and_eq_true] at hb
      obtain rfl := Nat.eq_of_beq_eq_true hb.1
      obtain rfl := Nat.eq_of_beq_eq_true hb.2
      simp only [cond_true]
      cases x
      · exact h2 rfl
      · exact h1 rfl
  case slice.slice i o l c i' o' l' c' =>
    cases hb : (Nat.beq i i' && Nat.beq o o' && Nat.beq l l' && Nat.beq c c') with
    | false => simp only [cond_false]; cases x; exact h2 rfl; exact h1 rfl
    | true =>
      simp only [Bool.and_eq_true] at hb
      obtain rfl := Nat.eq_of_beq_eq_true hb.1.1.1
      obtain rfl := Nat.eq_of_beq_eq_true hb.1.1.2
      obtain rfl := Nat.eq_of_beq_eq_true hb.1.2
      obtain rfl := Nat.eq_of_beq_eq_true hb.2
      simp only [cond_true]
      cases x
      · exact h2 rfl
      · exact h1 rfl
  case own.own i n i' n' =>
    cases hb : (Nat.beq i i' && Nat.beq n n') with
    | false => simp only [cond_false]; cases x; exact h2 rfl; exact h1 rfl
    | true =>
      simp only [Bool.and_eq_true] at hb
      obtain rfl := Nat.eq_of_beq_eq_true hb.1
      obtain rfl := Nat.eq_of_beq_eq_true hb.2
      simp only [cond_true]
      cases x
      · exact h2 rfl
      · exact h1 rfl
  case map.map i i' =>
    cases hb : Nat.beq i i' with
    | false => simp only [cond_false]; cases x; exact h2 rfl; exact h1 rfl
    | true =>
      obtain rfl := Nat.eq_of_beq_eq_true hb
      simp only [cond_true]
      cases x
      · exact h2 rfl
      · exact h1 rfl
  case fn.fn f l f' l' =>
    cases hb : (Nat.beq f f' && Nat.beq l.length l'.length) with
    | false => simp only [cond_false]; cases x; exact h2 rfl; exact h1 rfl
    | true =>
      simp only [Bool.and_eq_true] at hb
      obtain rfl := Nat.eq_of_beq_eq_true hb.1
      have hl := Nat.eq_of_beq_eq_true hb.2
      simp only [cond_true]
      cases x
      · have := h2 rfl; simp only [R] at this ⊢; obtain ⟨Vs, e, hr⟩ := this; exact ⟨Vs, e, RL_mergeW l l' hl (fun h => by cases h) (fun _ => hr)⟩
      · have := h1 rfl; simp only [R] at this ⊢; obtain ⟨Vs, e, hr⟩ := this; exact ⟨Vs, e, RL_mergeW l l' hl (fun _ => hr) (fun h => by cases h)⟩
  case agg.agg l l' =>
    cases hb : Nat.beq l.length l'.length with
    | false => simp only [cond_false]; cases x; exact h2 rfl; exact h1 rfl
    | true =>
      have hl := Nat.eq_of_beq_eq_true hb
      simp only [cond_true]
      cases x
      · have := h2 rfl; simp only [R] at this ⊢; obtain ⟨Vs, e, hr⟩ := this; exact ⟨Vs, e, RL_mergeW l l' hl (fun h => by cases h) (fun _ => hr)⟩
      · have := h1 rfl; simp only [R] at this ⊢; obtain ⟨Vs, e, hr⟩ := this; exact ⟨Vs, e, RL_mergeW l l' hl (fun _ => hr) (fun h => by cases h)⟩
  case tup.tup l l' =>
    cases hb : Nat.beq l.length l'.length with
    | false => simp only [cond_false]; cases x; exact h2 rfl; exact h1 rfl
    | true =>
      have hl := Nat.eq_of_beq_eq_true hb
      simp only [cond_true]
      cases x
      · have := h2 rfl; simp only [R] at this ⊢; obtain ⟨Vs, e, hr⟩ := this; exact ⟨Vs, e, RL_mergeW l l' hl (fun h => by cases h) (fun _ => hr)⟩
      · have := h1 rfl; simp only [R] at this ⊢; obtain ⟨Vs, e, hr⟩ := this; exact ⟨Vs, e, RL_mergeW l l' hl (fun _ => hr) (fun h => by cases h)⟩
theorem RL_mergeW {m : List Nat} {x : Bool} : ∀ (l l' : List AV) {Vs : List Value}, l.length = l'.length → (x = true → RL m l Vs) → (x = false → RL m l' Vs) → RL m (mergeW x l l') Vs
  | [], [], Vs, _, h1, h2 => by
    simp only [mergeW]
    cases x
    · exact h2 rfl
    · exact h1 rfl
  | [], _ :: _, _, h, _, _ => by simp at h
  | _ :: _, [], _, h, _, _ => by simp at h
  | v :: l, u :: l', Vs, h, h1, h2 => by
    simp only [List.length_cons, Nat.add_right_cancel_iff] at h
    simp only [mergeW]
    cases x
    · obtain ⟨V, Vs', rfl, a1, a2⟩ := RL_cons.1 (h2 rfl)
      exact RL.cons (R_mergeV v u (fun h => by cases h) (fun _ => a1)) (RL_mergeW l l' h (fun h => by cases h) (fun _ => a2))
    · obtain ⟨V, Vs', rfl, a1, a2⟩ := RL_cons.1 (h1 rfl)
      exact RL.cons (R_mergeV v u (fun _ => a1) (fun h => by cases h)) (RL_mergeW l l' h (fun _ => a2) (fun h => by cases h))
end

/-! ### Two ways laid together -/
def mergeTs (x : Bool) (L : Nat) (Ta Tb : List (Nat × AV)) (n : Nat) : List (Nat × AV) := (List.range n).map fun d => (d, (mergeV x (get Ta d) (get Tb d)).trunc L)
def mergeBs (x : Bool) (L : Nat) : AB → AB → AB → Option AB
  | .cst l t, _, _ => some (.cst l t)
  | _, .cells l t, .cells l' t' => bif Nat.beq t t' && Nat.beq l.length l'.length then some (.cells (AV.truncL L (mergeW x l l')) t) else none
  | _, _, _ => some .dead
def joinH (x : Bool) (L : Nat) : List AB → List AB → List AB → Option (List AB)
  | [], _, _ => some []
  | B :: H, A :: Ha, C :: Hb =>
    match mergeBs x L B A C, joinH x L H Ha Hb with
    | some D, some H' => some (D :: H')
    | _, _ => none
  | _, _, _ => none
abbrev St := Ex × List (Nat × AV) × List AB
def some3 (e : Ex) (T : List (Nat × AV)) (H : List AB) : Option St := some (e, T, H)
def joinM (x : Bool) (n : Nat) (H : List AB) : Option St → Option St → Option (List (Nat × AV) × List AB)
  | some (.normal, Ta, Ha), some (.normal, Tb, Hb) =>
    match joinH x H.length H Ha Hb with
    | some H' => some (mergeTs x H.length Ta Tb n, H')
    | none => none
  | _, _ => none

theorem get_mergeTs {x : Bool} {L : Nat} {Ta Tb : List (Nat × AV)} {n i : Nat} : get (mergeTs x L Ta Tb n) i = if i < n then (mergeV x (get Ta i) (get Tb i)).trunc L else .any := by
  have key : ∀ (l : List Nat), get (l.map fun d => (d, (mergeV x (get Ta d) (get Tb d)).trunc L)) i = if i ∈ l then (mergeV x (get Ta i) (get Tb i)).trunc L else .any := by
    intro l
    induction l with
    | nil => simp [get]
    | cons d l ih =>
      simp only [List.map_cons, get]
      cases hb : Nat.beq d i with
      | true => have := Nat.eq_of_beq_eq_true hb; subst this; simp
      | false =>
        have hne : ¬ i = d := fun e => by subst e; simp [Nat.beq_refl] at hb
        simp only [cond_false, ih, List.mem_cons, hne, false_or]
  unfold mergeTs
  rw [key]
  simp
theorem TR_joinT {m y : List Nat} {n : Nat} {x : Bool} {Ta Tb : List (Nat × AV)} {tmps : Array Value} (ha : x = true → TR (m ++ y) n Ta tmps) (hb : x = false → TR (m ++ y) n Tb tmps) : TR m n (mergeTs x m.length Ta Tb n) tmps := by
  have hs : tmps.size = n := by cases x; exact (hb rfl).1; exact (ha rfl).1
  refine ⟨hs, fun i => ?_⟩
  rw [get_mergeTs]
  split
  · exact R_trunc _ (R_mergeV _ _ (fun e => (ha e).2 i) (fun e => (hb e).2 i))
  · simp only [R]
theorem joinH_get {x : Bool} {L : Nat} : ∀ {H Ha Hb H' : List AB}, joinH x L H Ha Hb = some H' → H'.length = H.length ∧ ∀ (i : Nat) (D : AB), H'[i]? = some D → ∃ B A C, H[i]? = some B ∧ Ha[i]? = some A ∧ Hb[i]? = some C ∧ mergeBs x L B A C = some D
  | [], _, _, H', h => by
    simp only [joinH, Option.some.injEq] at h
    subst h
    exact ⟨rfl, fun i D hD => by simp at hD⟩
  | B :: H, A :: Ha, C :: Hb, H', h => by
    simp only [joinH] at h
    split at h
    · rename_i D H1 h1 h2
      cases h
      obtain ⟨g1, g2⟩ := joinH_get h2
      refine ⟨by simp [g1], fun i E hE => ?_⟩
      cases i with
      | zero => simp at hE; subst hE; exact ⟨B, A, C, rfl, rfl, rfl, h1⟩
      | succ i =>
        obtain ⟨B', A', C', e1, e2, e3, e4⟩ := g2 i E (by simpa using hE)
        exact ⟨B', A', C', by simpa using e1, by simpa using e2, by simpa using e3, e4⟩
    · cases h
  | _ :: _, [], _, _, h => by simp [joinH] at h
  | _ :: _, _ :: _, [], _, h => by simp [joinH] at h
theorem joinH_pres {x : Bool} {L : Nat} {H Ha Hb H' : List AB} (h : joinH x L H Ha Hb = some H') : Pres H H' := fun j l t e => by
  obtain ⟨g1, g2⟩ := joinH_get h
  have hj : j < H'.length := by rw [g1]; exact (List.getElem?_eq_some_iff.1 e).1
  obtain ⟨B, A, C, e1, _, _, e4⟩ := g2 j _ (List.getElem?_eq_getElem hj)
  rw [e] at e1
  cases e1
  simp only [mergeBs, Option.some.injEq] at e4
  rw [List.getElem?_eq_getElem hj, ← e4]
theorem HR_joinH {m y : List Nat} {x : Bool} {H Ha Hb H' : List AB} {w w' : World} (hH : HR m H w) (h : joinH x m.length H Ha Hb = some H') (ha : x = true → HR (m ++ y) Ha w' ∧ Pres H Ha) (hb : x = false → HR (m ++ y) Hb w' ∧ Pres H Hb) : HR m H' w' := by
  obtain ⟨g1, g2⟩ := joinH_get h
  have key : ∀ Hx : List AB, HR (m ++ y) Hx w' → (∀ (i : Nat) (D : AB), H'[i]? = some D → D.live = true → ∃ E, Hx[i]? = some E ∧ E.live = true ∧ ∀ b o, m[i]? = some b → RB (m ++ y) E o → RB m D o ∧ capAt m i b o D) → HR m H' w' := by
    intro Hx hx hc
    refine ⟨by rw [g1]; exact hH.len, ?_, ?_⟩
    · intro i j b B C h1 h2 h3 h4 h5 h6
      obtain ⟨E, e1, e2, _⟩ := hc i B h3 h5
      obtain ⟨F, f1, f2, _⟩ := hc j C h4 h6
      exact hx.nodup i j b E F (get_mono y h1) (get_mono y h2) e1 f1 e2 f2
    · intro i D hD hl
      obtain ⟨E, e1, e2, e3⟩ := hc i D hD hl
      obtain ⟨b, o, h1, h2, h3, h4⟩ := hx.all i E e1 e2
      have hi : i < m.length := by rw [hH.len, ← g1]; exact (List.getElem?_eq_some_iff.1 hD).1
      have h1' := get_back h1 hi
      obtain ⟨r1, r2⟩ := e3 b o h1' h3
      exact ⟨b, o, h1', h2, r1, r2⟩
  have cstC : ∀ (Hx : List AB), Pres H Hx → ∀ (i : Nat) (l : List AV) (t : TypeId), H[i]? = some (.cst l t) → ∃ E, Hx[i]? = some E ∧ E.live = true ∧ ∀ b o, m[i]? = some b → RB (m ++ y) E o → RB m (.cst l t) o ∧ capAt m i b o (.cst l t) := by
    intro Hx hp i l t e
    refine ⟨.cst l t, hp i l t e, rfl, fun b o _ hr => ⟨?_, trivial⟩⟩
    obtain ⟨_, _, _, _, Vs0, _, r0⟩ := hH.at_ i e
    obtain ⟨Vs, e1, r⟩ := hr
    exact ⟨Vs, e1, RL_back l r0 r⟩
  cases x with
  | true =>
    obtain ⟨q1, q2⟩ := ha rfl
    refine key Ha q1 fun i D hD hl => ?_
    obtain ⟨B, A, C, e1, e2, e3, e4⟩ := g2 i D hD
    unfold mergeBs at e4
    split at e4
    · cases e4; exact cstC Ha q2 i _ _ e1
    · rename_i l t l' t' _
      cases hb : (Nat.beq t t' && Nat.beq l.length l'.length) with
      | false => rw [hb] at e4; cases e4
      | true =>
        rw [hb] at e4
        simp only [Bool.and_eq_true] at hb
        cases e4
        refine ⟨_, e2, rfl, fun b o _ hr => ⟨?_, trivial⟩⟩
        obtain ⟨Vs, f1, r⟩ := hr
        exact ⟨Vs, f1, RL_trunc _ (RL_mergeW l l' (Nat.eq_of_beq_eq_true hb.2) (fun _ => r) (fun h => by cases h))⟩
    · cases e4; cases hl
  | false =>
    obtain ⟨q1, q2⟩ := hb rfl
    refine key Hb q1 fun i D hD hl => ?_
    obtain ⟨B, A, C, e1, e2, e3, e4⟩ := g2 i D hD
    unfold mergeBs at e4
    split at e4
    · cases e4; exact cstC Hb q2 i _ _ e1
    · rename_i l t l' t' _
      cases hb : (Nat.beq t t' && Nat.beq l.length l'.length) with
      | false => rw [hb] at e4; cases e4
      | true =>
        rw [hb] at e4
        simp only [Bool.and_eq_true] at hb
        have ht := Nat.eq_of_beq_eq_true hb.1
        cases e4
        refine ⟨_, e3, rfl, fun b o _ hr => ⟨?_, trivial⟩⟩
        obtain ⟨Vs, f1, r⟩ := hr
        exact ⟨Vs, by rw [ht]; exact f1, RL_trunc _ (RL_mergeW l l' (Nat.eq_of_beq_eq_true hb.2) (fun h => by cases h) (fun _ => r))⟩
    · cases e4; cases hl
theorem Ext.back {m m' : List Nat} {w w' : World} (h : Ext m w m' w') : Ext m w m w' := ⟨⟨[], by simp⟩, h.os, h.tape, h.output, h.size, h.block⟩

/-! ### Regions with guards of which nothing is known -/
/-- One of two, both of which are there. -/
def ch {ρ : Type} (x : Bool) (A B : Option ρ) : Option ρ :=
  match A with
  | some a => match B with
    | some b => some (bif x then a else b)
    | none => bif x then A else B
  | none => bif x then A else B
theorem ch_ok {ρ : Type} {x : Bool} {A B : Option ρ} {r : ρ} (h : ch x A B = some r) : (x = true → A = some r) ∧ (x = false → B = some r) := by
  unfold ch at h
  split at h
  · split at h
    · cases x <;> simp_all
    · cases x <;> simp_all
  · cases x <;> simp_all
def aguardC {ρ : Type} (ops : Array Oper) (n : Nat) (o : Oper) (T : List (Nat × AV)) (run skip : List (Nat × AV) → Option ρ) : Option ρ :=
  match o.guard with
  | none => run T
  | some (j, want) =>
    match (ops[j]?).bind (·.dst) with
    | none => none
    | some d =>
      bif Nat.ble (d + 1) n then
        match get T d with
        | .bool x => ch x (if want then run ((d, .bool true) :: T) else skip ((d, .bool true) :: T)) (if want then skip ((d, .bool false) :: T) else run ((d, .bool false) :: T))
        | _ => none
      else none
theorem aguardC_of {ρ : Type} {ops : Array Oper} {n : Nat} {o : Oper} {T : List (Nat × AV)} {run skip : List (Nat × AV) → Option ρ} {r : ρ} (h : aguardC ops n o T run skip = some r) : aguard ops n o T run skip = some r := by
  unfold aguardC at h
  split at h
  · rename_i hg
    simp only [aguard, hg]; exact h
  · rename_i j want hg
    split at h
    · cases h
    · rename_i d hd
      cases hb : Nat.ble (d + 1) n with
      | false => rw [hb] at h; cases h
      | true =>
        rw [hb] at h
        simp only [cond_true] at h
        split at h
        · rename_i x hx
          obtain ⟨q1, q2⟩ := ch_ok h
          simp only [aguard, hg, hd, hb, hx, cond_true]
          cases x
          · exact q2 rfl
          · exact q1 rfl
        · cases h
section
variable {ρ : Type}
def aopsC (P : Program) (doCall : FuncId → List AV → List AB → (AV → List AB → Option ρ) → Option ρ) (ops : Array Oper) (n : Nat) :
    List Oper → List (Nat × AV) → List AB → (List (Nat × AV) → List AB → Option ρ) → Option ρ
  | [], T, H, K => K T H
  | o :: rest, T, H, K =>
    aguardC ops n o T
      (fun T => aexec P doCall o T H fun v H => aput n o.dst v T fun T => aopsC P doCall ops n rest T H K)
      (fun T => aput n o.dst .any T fun T => aopsC P doCall ops n rest T H K)
theorem aopsC_ok {P : Program} {doCall : FuncId → List AV → List AB → (AV → List AB → Option ρ) → Option ρ} (hD : DC P doCall) {ops : Array Oper} {n : Nat} {Q : Exit → Act → World → Prop} {K : List (Nat × AV) → List AB → Option ρ} {r : ρ} :
    ∀ (l : List Oper) (k : Nat) (_ : ∀ j, l[j]? = ops[k + j]?) (m : List Nat) (T : List (Nat × AV)) (H : List AB) (a : Act) (w : World), aopsC P doCall ops n l T H K = some r → TR m n T a.tmps → HR m H w →
    (∀ T' H' a' m' w', TR m' n T' a'.tmps → HR m' H' w' → Ext m w m' w' → a'.defers = a.defers → K T' H' = some r → Q .normal a' w') →
    wpOps P ops Q (List.range' k l.length) a w
  | [], k, _, m, T, H, a, w, h, hT, hH, hQ => by
    simp only [aopsC] at h
    simp only [List.length_nil, List.range'_zero, wpOps]
    exact hQ T H a m w hT hH (Ext.refl m w) rfl h
  | o :: l, k, hl, m, T, H, a, w, h, hT, hH, hQ => by
    have hk : ops[k]? = some o := by have := hl 0; simpa using this.symm
    have hl' : ∀ j, l[j]? = ops[k + 1 + j]? := fun j => by have := hl (j + 1); rw [Nat.add_assoc, Nat.add_comm 1 j]; simpa using this
    simp only [List.length_cons, List.range'_succ, wpOps, hk]
    simp only [aopsC] at h
    replace h := aguardC_of h
    rcases aguard_ok h hT with ⟨T1, h1, hT1, hw⟩ | ⟨T1, h1, hT1, hw⟩
    · rw [if_pos hw]
      refine .inl (aexec_ok hD hT1 hH h1 fun v H' V m' w' hv hH' hE hK => ?_)
      have hT1' : TR m' n T1 a.tmps := by obtain ⟨x, hx, _⟩ := hE.pre; rw [hx]; exact hT1.mono x
      obtain ⟨T2, h2, hT2⟩ := aput_ok hK hT1' hv
      exact aopsC_ok hD l (k + 1) hl' m' T2 H' _ w' h2 hT2 hH' fun T3 H3 a3 m3 w3 q1 q2 q3 q4 q5 => hQ T3 H3 a3 m3 w3 q1 q2 (hE.trans q3) (q4.trans (put_defers _ _ _)) q5
    · rw [if_neg (by simp [hw])]
      obtain ⟨T2, h2, hT2⟩ := aput_ok (V := undef) h1 hT1 (by simp only [R])
      exact aopsC_ok hD l (k + 1) hl' m T2 H _ w h2 hT2 hH fun T3 H3 a3 m3 w3 q1 q2 q3 q4 q5 => hQ T3 H3 a3 m3 w3 q1 q2 q3 (q4.trans (put_defers _ _ _)) q5
theorem aopsC_E {P : Program} {dc : FuncId → List AV → List AB → (AV → List AB → Option ρ) → Option ρ} (hD : DE dc) {ops : Array Oper} {n : Nat} {K : List (Nat × AV) → List AB → Option ρ} {r : ρ} : ∀ (l : List Oper) (T : List (Nat × AV)) (H : List AB), aopsC P dc ops n l T H K = some r → ∃ T' H', K T' H' = some r ∧ Pres H H'
  | [], T, H, h => ⟨T, H, h, Pres.refl _⟩
  | o :: l, T, H, h => by
    simp only [aopsC] at h
    obtain ⟨T1, h1 | h1⟩ := aguard_E (aguardC_of h)
    · obtain ⟨v, H1, h2, p1⟩ := aexec_E hD h1
      obtain ⟨T2, h3⟩ := aput_E h2
      obtain ⟨T', H', h4, p2⟩ := aopsC_E hD l T2 H1 h3
      exact ⟨T', H', h4, p1.trans p2⟩
    · obtain ⟨T2, h3⟩ := aput_E h1
      exact aopsC_E hD l T2 H h3
end
end Go.Proofs.YtdojnnlhaiennaaGreat.Ae

/- The interpreter that joins the ways of a condition: what it finds is what the model's call comes to; contracts out of it. Conditions: the contracts that are looked up hold. -/
namespace Go.Proofs.YtdojnnlhaiennaaGreat.Ae
open Go

def isOut : Code → Bool
  | .exit _ => true
  | _ => false
def inMd (n : Nat) : List (Nat × Nat) → Operand → Bool
  | [], _ => false
  | (k, d) :: md, .tmp t => (Nat.beq k n && Nat.beq d t) || inMd n md (.tmp t)
  | _, _ => false

def acodeM (P : Program) (env : Env) (md : List (Nat × Nat)) : Nat → (ρ : Type) → Nat → Code → List (Nat × AV) → List AB → (Ex → List (Nat × AV) → List AB → Option ρ) → Option ρ
  | 0, _, _, _, _, _, _ => none
  | fuel + 1, ρ, n, c, T, H, K =>
    match c with
    | .skip => K .normal T H
    | .region _ ops false =>
      (bif specAll ops then fun dc => aopsS P dc ops n ops.toList T [] H (K .normal) else fun dc => aopsC P dc ops n ops.toList T H (K .normal)) (fun fid args H K =>
        match envGet env fid with
        | some .text =>
          match P.funcs[fid]? with
          | some fn =>
            match fn.body with
            | some c' =>
              bif Nat.ble args.length fn.ntmps then
                acodeM P env md fuel ρ fn.ntmps c' (mkT 0 args) H fun e T' H' =>
                  match e with
                  | .exit _ => none
                  | _ =>
                    match ares P T' H' fn.results.toList with
                    | some vs => K (tupOf vs) H'
                    | none => none
              else none
            | none => none
          | none => none
        | _ => dcD env fid args H K)
    | .region _ ops true =>
      bif P.follows .mixedOrders then
        bif quietB env ops && Region.lexB .any ops then aopsQ P env ops n H ops.toList T fun T => K .normal T H
        else bif Nat.ble 2 (vasOf P 0 ops.toList).length then aopsV P env ops n (vasOf P 0 ops.toList) T H (K .normal)
        else bif Region.noSelect ops && lexOk ops ops.size 0 (Array.replicate ops.size false) then aopsO (fun _ => true) P env ops n ops.toList T H [] (K .normal) else none
      else none
    | .seq a b => acodeM P env md fuel ρ n a T H fun e T H =>
      match e with
      | .normal => acodeM P env md fuel ρ n b T H K
      | e => K e T H
    | .cond c a b =>
      match ev T c with
      | .bool x =>
        bif isOut a || isOut b then bif x then acodeM P env md fuel ρ n a T H K else acodeM P env md fuel ρ n b T H K
        else
          match (bif inMd n md c then none else joinM x n H (acodeM P env md fuel St n a T H some3) (acodeM P env md fuel St n b T H some3)) with
          | some (T', H') => K .normal T' H'
          | none => ch x (acodeM P env md fuel ρ n a T H K) (acodeM P env md fuel ρ n b T H K)
      | _ => none
    | .block id c => acodeM P env md fuel ρ n c T H fun e T H =>
      match e with
      | .exit id' => bif Nat.beq id' id then K .normal T H else K (.exit id') T H
      | e => K e T H
    | .loop c => acodeM P env md fuel ρ n c T H fun e T H =>
      match e with
      | .normal => acodeM P env md fuel ρ n (.loop c) T H K
      | e => K e T H
    | .exit id => K (.exit id) T H
    | .ret => K .ret T H
    | _ => none

def acallM (P : Program) (env : Env) (md : List (Nat × Nat)) (fuel : Nat) {ρ : Type} (fid : FuncId) (args : List AV) (H : List AB) (K : AV → List AB → Option ρ) : Option ρ :=
  match P.funcs[fid]? with
  | some fn =>
    match fn.body with
    | some c' =>
      bif Nat.ble args.length fn.ntmps then
        acodeM P env md fuel ρ fn.ntmps c' (mkT 0 args) H fun e T' H' =>
          match e with
          | .exit _ => none
          | _ =>
            match ares P T' H' fn.results.toList with
            | some vs => K (tupOf vs) H'
            | none => none
      else none
    | none => none
  | none => none

/-! ### Constant blocks stay -/
section
variable {P : Program} {env : Env} {md : List (Nat × Nat)}
theorem textE {fuel : Nat} (ih : ∀ (ρ : Type) (n : Nat) (c : Code) (T : List (Nat × AV)) (H : List AB) (K : Ex → List (Nat × AV) → List AB → Option ρ) (r : ρ), acodeM P env md fuel ρ n c T H K = some r → ∃ e T' H', K e T' H' = some r ∧ Pres H H')
    {ρ : Type} {fid : FuncId} {args : List AV} {H : List AB} {K : AV → List AB → Option ρ} {r : ρ} (h : acallM P env md fuel fid args H K = some r) : ∃ v H', K v H' = some r ∧ Pres H H' := by
  unfold acallM at h
  split at h
  · split at h
    · obtain ⟨e, T', H', h1, p⟩ := ih _ _ _ _ _ _ _ (bif_some h)
      split at h1
      · cases h1
      · split at h1
        · exact ⟨_, _, h1, p⟩
        · cases h1
    · cases h
  · cases h
theorem acodeM_E : ∀ (fuel : Nat) (ρ : Type) (n : Nat) (c : Code) (T : List (Nat × AV)) (H : List AB) (K : Ex → List (Nat × AV) → List AB → Option ρ) (r : ρ), acodeM P env md fuel ρ n c T H K = some r → ∃ e T' H', K e T' H' = some r ∧ Pres H H' := by
  intro fuel
  induction fuel with
  | zero => intro ρ n c T H K r h; simp [acodeM] at h
  | succ fuel ih =>
    intro ρ n c T H K r h
    cases c with
    | skip => exact ⟨_, _, _, h, Pres.refl _⟩
    | region id ops draw =>
      cases draw with
      | false =>
        simp only [acodeM] at h
        have key : ∀ (dc : FuncId → List AV → List AB → (AV → List AB → Option ρ) → Option ρ), DE dc → (bif specAll ops then fun dc => aopsS P dc ops n ops.toList T [] H (K .normal) else fun dc => aopsC P dc ops n ops.toList T H (K .normal)) dc = some r → ∃ e T' H', K e T' H' = some r ∧ Pres H H' := by
          intro dc hD h
          cases hsp : specAll ops with
          | true => rw [hsp] at h; obtain ⟨T', H', h1, p⟩ := aopsS_E hD _ _ _ _ h; exact ⟨_, _, _, h1, p⟩
          | false => rw [hsp] at h; obtain ⟨T', H', h1, p⟩ := aopsC_E hD _ _ _ h; exact ⟨_, _, _, h1, p⟩
        refine key _ ?_ h
        intro fid args H K r h
        simp only at h
        split at h
        · exact textE ih h
        · exact dcD_E _ _ _ _ _ h
      | true =>
        simp only [acodeM] at h
        replace h := bif_some h
        cases hb : (quietB env ops && Region.lexB .any ops) with
        | true =>
          rw [hb] at h
          obtain ⟨T', h1⟩ := aopsQ_E _ _ h
          exact ⟨_, _, _, h1, Pres.refl _⟩
        | false =>
          rw [hb] at h
          simp only [cond_false] at h
          cases hv2 : Nat.ble 2 (vasOf P 0 ops.toList).length with
          | true => rw [hv2] at h; obtain ⟨T', H', h1, p⟩ := aopsV_E h; exact ⟨_, _, _, h1, p⟩
          | false =>
            rw [hv2] at h
            obtain ⟨T', H', h1, p⟩ := aopsO_E _ _ _ _ (bif_some h)
            exact ⟨_, _, _, h1, p⟩
    | seq x y =>
      simp only [acodeM] at h
      obtain ⟨e, T1, H1, h1, p1⟩ := ih _ _ _ _ _ _ _ h
      cases e with
      | normal => obtain ⟨e, T2, H2, h2, p2⟩ := ih _ _ _ _ _ _ _ h1; exact ⟨_, _, _, h2, p1.trans p2⟩
      | exit id => exact ⟨_, _, _, h1, p1⟩
      | ret => exact ⟨_, _, _, h1, p1⟩
    | cond c x y =>
      simp only [acodeM] at h
      split at h
      · rename_i b _
        cases ho : (isOut x || isOut y) with
        | true =>
          rw [ho] at h
          simp only [cond_true] at h
          cases b
          · exact ih _ _ _ _ _ _ _ h
          · exact ih _ _ _ _ _ _ _ h
        | false =>
          rw [ho] at h
          simp only [cond_false] at h
          split at h
          · rename_i T' H' hj
            refine ⟨_, _, _, h, ?_⟩
            cases hm : inMd n md c with
            | true => rw [hm] at hj; cases hj
            | false =>
              rw [hm] at hj
              simp only [cond_false] at hj
              unfold joinM at hj
              split at hj
              · split at hj
                · rename_i hJ; cases hj; exact joinH_pres hJ
                · cases hj
              · cases hj
          · obtain ⟨q1, q2⟩ := ch_ok h
            cases b
            · exact ih _ _ _ _ _ _ _ (q2 rfl)
            · exact ih _ _ _ _ _ _ _ (q1 rfl)
      · cases h
    | block id c =>
      simp only [acodeM] at h
      obtain ⟨e, T1, H1, h1, p1⟩ := ih _ _ _ _ _ _ _ h
      cases e with
      | normal => exact ⟨_, _, _, h1, p1⟩
      | exit id' =>
        simp only at h1
        cases hb : Nat.beq id' id with
        | true => rw [hb] at h1; exact ⟨_, _, _, h1, p1⟩
        | false => rw [hb] at h1; exact ⟨_, _, _, h1, p1⟩
      | ret => exact ⟨_, _, _, h1, p1⟩
    | loop c =>
      simp only [acodeM] at h
      obtain ⟨e, T1, H1, h1, p1⟩ := ih _ _ _ _ _ _ _ h
      cases e with
      | normal => obtain ⟨e, T2, H2, h2, p2⟩ := ih _ _ _ _ _ _ _ h1; exact ⟨_, _, _, h2, p1.trans p2⟩
      | exit id => exact ⟨_, _, _, h1, p1⟩
      | ret => exact ⟨_, _, _, h1, p1⟩
    | exit id => exact ⟨_, _, _, h, Pres.refl _⟩
    | ret => exact ⟨_, _, _, h, Pres.refl _⟩
    | _ => simp only [acodeM] at h; cases h
theorem acallM_E {fuel : Nat} {ρ : Type} {fid : FuncId} {args : List AV} {H : List AB} {K : AV → List AB → Option ρ} {r : ρ} (h : acallM P env md fuel fid args H K = some r) : ∃ v H', K v H' = some r ∧ Pres H H' := textE (acodeM_E fuel) h
end

/-! ### It is the model's -/
theorem acallM_of_code {P : Program} {env : Env} {md : List (Nat × Nat)} {fuel : Nat} {ρ : Type}
    (ih : ∀ (n : Nat) (c : Code) (T : List (Nat × AV)) (H : List AB) (K : Ex → List (Nat × AV) → List AB → Option ρ) (r : ρ), acodeM P env md fuel ρ n c T H K = some r → ∀ (m : List Nat) (a : Act) (w : World) (Q : Exit → Act → World → Prop), TR m n T a.tmps → HR m H w → a.defers = [] →
      (∀ e T' H' a' m' w', TR m' n T' a'.tmps → HR m' H' w' → Ext m w m' w' → a'.defers = [] → K e T' H' = some r → Q (exOf e) a' w') → c.wp P Q a w)
    {fid : FuncId} {fn : Func} (hfn : P.funcs[fid]? = some fn) {c' : Code} (hc' : fn.body = some c') {args : List AV} (hle : args.length ≤ fn.ntmps) {H : List AB} {K : AV → List AB → Option ρ} {r : ρ}
    (h : acodeM P env md fuel ρ fn.ntmps c' (mkT 0 args) H (fun e T' H' => match e with | .exit _ => none | _ => match ares P T' H' fn.results.toList with | some vs => K (tupOf vs) H' | none => none) = some r)
    {m : List Nat} {Args : Array Value} {w : World} (hA : RL m args Args.toList) (hH : HR m H w) :
    Calls P fid Args w fun e w' => ∃ v V m' H', e = .returned V ∧ R m' v V ∧ HR m' H' w' ∧ Ext m w m' w' ∧ K v H' = some r := by
  refine calls_of_wp hfn hc' (ih _ _ _ _ _ _ h m _ w _ (TR_enter hA hle) hH rfl ?_)
  intro e T' H' a' m' w' q1 q2 q3 q4 q5
  cases e with
  | exit id => cases q5
  | normal =>
    simp only at q5
    split at q5
    · rename_i vs hvs
      obtain ⟨V, h1, h2⟩ := results_ok q1 q2 hvs
      exact ⟨q4, V, h2, _, V, m', H', rfl, h1, q2, q3, q5⟩
    · cases q5
  | ret =>
    simp only at q5
    split at q5
    · rename_i vs hvs
      obtain ⟨V, h1, h2⟩ := results_ok q1 q2 hvs
      exact ⟨q4, V, h2, _, V, m', H', rfl, h1, q2, q3, q5⟩
    · cases q5


theorem acodeM_both {P : Program} {env : Env} {md : List (Nat × Nat)} (hE : EnvOk P env) (fuel : Nat) : (∀ (ρ : Type) (n : Nat) (c : Code) (T : List (Nat × AV)) (H : List AB) (K : Ex → List (Nat × AV) → List AB → Option ρ) (r : ρ), acodeM P env md fuel ρ n c T H K = some r →
    ∀ (m : List Nat) (a : Act) (w : World) (Q : Exit → Act → World → Prop), TR m n T a.tmps → HR m H w → a.defers = [] →
    (∀ e T' H' a' m' w', TR m' n T' a'.tmps → HR m' H' w' → Ext m w m' w' → a'.defers = [] → K e T' H' = some r → Q (exOf e) a' w') → c.wp P Q a w) ∧
    (∀ (ρ : Type) (n : Nat) (c : Code) (T : List (Nat × AV)) (H : List AB) (K : Ex → List (Nat × AV) → List AB → Option ρ) (r : ρ), acodeM P env md fuel ρ n (.loop c) T H K = some r →
    ∀ (m : List Nat) (a : Act) (w : World) (Q : Exit → Act → World → Prop), TR m n T a.tmps → HR m H w → a.defers = [] →
    (∀ e T' H' a' m' w', TR m' n T' a'.tmps → HR m' H' w' → Ext m w m' w' → a'.defers = [] → K e T' H' = some r → Q (exOf e) a' w') → Code.rounds P c Q fuel a w) := by
  induction fuel with
  | zero => exact ⟨fun _ _ _ _ _ _ _ h => by simp [acodeM] at h, fun _ _ _ _ _ _ _ h => by simp [acodeM] at h⟩
  | succ fuel IH =>
    obtain ⟨ih, ihl⟩ := IH
    have B : ∀ (ρ : Type) (n : Nat) (c : Code) (T : List (Nat × AV)) (H : List AB) (K : Ex → List (Nat × AV) → List AB → Option ρ) (r : ρ), acodeM P env md (fuel + 1) ρ n (.loop c) T H K = some r →
        ∀ (m : List Nat) (a : Act) (w : World) (Q : Exit → Act → World → Prop), TR m n T a.tmps → HR m H w → a.defers = [] →
        (∀ e T' H' a' m' w', TR m' n T' a'.tmps → HR m' H' w' → Ext m w m' w' → a'.defers = [] → K e T' H' = some r → Q (exOf e) a' w') → Code.rounds P c Q (fuel + 1) a w := by
      intro ρ n c T H K r h m a w Q hT hH hd hQ
      simp only [acodeM] at h
      rw [rounds_succ]
      refine ih ρ n c T H _ r h m a w _ hT hH hd fun e T' H' a' m' w' q1 q2 q3 q4 q5 => ?_
      cases e with
      | normal => exact ihl ρ n c T' H' K r q5 m' a' w' Q q1 q2 q4 fun e T'' H'' a'' m'' w'' p1 p2 p3 p4 p5 => hQ e T'' H'' a'' m'' w'' p1 p2 (q3.trans p3) p4 p5
      | exit id => exact hQ (.exit id) T' H' a' m' w' q1 q2 q3 q4 q5
      | ret => exact hQ .ret T' H' a' m' w' q1 q2 q3 q4 q5
    refine ⟨?_, B⟩
    intro ρ n c T H K r h m a w Q hT hH hd hQ
    cases c with
    | skip => exact wp_skip (hQ .normal T H a m w hT hH (Ext.refl m w) hd h)
    | region id ops draw =>
      cases draw with
      | false =>
        simp only [acodeM] at h
        refine wp_region ?_
        rw [List.range_eq_range']
        have key : ∀ (dc : FuncId → List AV → List AB → (AV → List AB → Option ρ) → Option ρ), DC P dc → (bif specAll ops then fun dc => aopsS P dc ops n ops.toList T [] H (K .normal) else fun dc => aopsC P dc ops n ops.toList T H (K .normal)) dc = some r → wpOps P ops Q (List.range' 0 ops.size) a w := by
          intro dc hD h
          cases hsp : specAll ops with
          | true =>
            rw [hsp] at h
            have := aopsS_ok (P := P) (Q := Q) (ops := ops) (n := n) hD ops.toList 0 (by simp) m T [] H a w h hT (WR.nil _ _) hH (fun T' H' a' m' w' q1 q2 q3 q4 q5 => hQ .normal T' H' a' m' w' q1 q2 q3 (q4.trans hd) q5)
            simpa using this
          | false =>
            rw [hsp] at h
            have := aopsC_ok (P := P) (Q := Q) (ops := ops) (n := n) hD ops.toList 0 (by simp) m T H a w h hT hH (fun T' H' a' m' w' q1 q2 q3 q4 q5 => hQ .normal T' H' a' m' w' q1 q2 q3 (q4.trans hd) q5)
            simpa using this
        refine key _ ?_ h
        intro fid args H K r h m Args w hA hH
        simp only at h
        split at h
        · rename_i hF
          split at h
          · rename_i fn hfn
            split at h
            · rename_i c' hc'
              cases hb : Nat.ble args.length fn.ntmps with
              | false => rw [hb] at h; cases h
              | true =>
                rw [hb] at h
                simp only [cond_true] at h
                exact .inr ⟨hE fid _ hF Args w, acallM_of_code (ih ρ) hfn hc' (Nat.le_of_ble_eq_true hb) h hA hH⟩
            · cases h
          · cases h
        · exact dcD_DC hE fid args H K r h m Args w hA hH
      | true =>
        simp only [acodeM] at h
        cases hm : P.follows .mixedOrders with
        | false => rw [hm] at h; cases h
        | true =>
        rw [hm] at h
        simp only [cond_true] at h
        cases hb : (quietB env ops && Region.lexB .any ops) with
        | true =>
          rw [hb] at h
          simp only [Bool.and_eq_true] at hb
          simp only [cond_true] at h
          refine wp_region_quiet (C := fun w' => Ext [] w [] w') hm hb.2 ⟨⟨[], by simp⟩, rfl, rfl, rfl, Nat.le_refl _, fun _ _ _ => rfl⟩ ?_
          refine aopsQ_ok hE hH _ T a h hT fun T' a' q1 q2 q3 w' hw' => ?_
          exact hQ .normal T' H a' m w' q1 (hH.same hw'.blocks) hw'.same (q2.trans hd) q3
        | false =>
          rw [hb] at h
          simp only [cond_false] at h
          cases hv2 : Nat.ble 2 (vasOf P 0 ops.toList).length with
          | true =>
            rw [hv2] at h
            simp only [cond_true] at h
            exact aopsV_ok hE hv2 h hm hT hH fun T' H' a' m' w' q1 q2 q3 q4 q5 => hQ .normal T' H' a' m' w' q1 q2 q3 (q4.trans hd) q5
          | false =>
          rw [hv2] at h
          simp only [cond_false] at h
          cases hl : (Region.noSelect ops && lexOk ops ops.size 0 (Array.replicate ops.size false)) with
          | false => rw [hl] at h; cases h
          | true =>
            rw [hl] at h
            simp only [Bool.and_eq_true] at hl
            simp only [cond_true] at h
            exact aopsO_ok hE hl.2 h hm hT hH fun T' H' a' m' w' q1 q2 q3 q4 q5 => hQ .normal T' H' a' m' w' q1 q2 q3 (q4.trans hd) q5
    | seq x y =>
      simp only [acodeM] at h
      refine wp_seq (ih ρ n x T H _ r h m a w _ hT hH hd fun e T' H' a' m' w' q1 q2 q3 q4 q5 => ?_)
      cases e with
      | normal => exact ih ρ n y T' H' K r q5 m' a' w' Q q1 q2 q4 fun e T'' H'' a'' m'' w'' p1 p2 p3 p4 p5 => hQ e T'' H'' a'' m'' w'' p1 p2 (q3.trans p3) p4 p5
      | exit id => exact hQ (.exit id) T' H' a' m' w' q1 q2 q3 q4 q5
      | ret => exact hQ .ret T' H' a' m' w' q1 q2 q3 q4 q5
    | cond c x y =>
      simp only [acodeM] at h
      have hc := R_ev hT c
      split at h
      · rename_i b hb
        rw [hb] at hc
        simp only [R] at hc
        refine wp_cond (t := b) hc ?_
        cases ho : (isOut x || isOut y) with
        | true =>
          rw [ho] at h
          simp only [cond_true] at h
          cases b with
          | true => exact ih ρ n x _ H K r h m a w Q hT hH hd hQ
          | false => exact ih ρ n y _ H K r h m a w Q hT hH hd hQ
        | false =>
          rw [ho] at h
          simp only [cond_false] at h
          split at h
          · rename_i T' H' hj
            cases hm : inMd n md c with
            | true => rw [hm] at hj; cases hj
            | false =>
              rw [hm] at hj
              simp only [cond_false] at hj
              unfold joinM at hj
              split at hj
              · rename_i Ta Ha Tb Hb hra hrb
                split at hj
                · rename_i Hj hJ
                  cases hj
                  have pa : Pres H Ha := by
                    obtain ⟨e, T2, H2, h1, p⟩ := acodeM_E _ _ _ _ _ _ _ _ hra
                    cases h1; exact p
                  have pb : Pres H Hb := by
                    obtain ⟨e, T2, H2, h1, p⟩ := acodeM_E _ _ _ _ _ _ _ _ hrb
                    cases h1; exact p
                  rw [← hH.len] at hJ h
                  cases b with
                  | true =>
                    refine ih St n x T H some3 _ hra m a w Q hT hH hd fun e T2 H2 a2 m2 w2 q1 q2 q3 q4 q5 => ?_
                    cases q5
                    obtain ⟨z, hz, _⟩ := q3.pre
                    rw [hz] at q1 q2
                    exact hQ .normal _ _ a2 m w2 (TR_joinT (x := true) (fun _ => q1) (fun e => by cases e)) (HR_joinH hH hJ (fun _ => ⟨q2, pa⟩) (fun e => by cases e)) q3.back q4 h
                  | false =>
                    refine ih St n y T H some3 _ hrb m a w Q hT hH hd fun e T2 H2 a2 m2 w2 q1 q2 q3 q4 q5 => ?_
                    cases q5
                    obtain ⟨z, hz, _⟩ := q3.pre
                    rw [hz] at q1 q2
                    exact hQ .normal _ _ a2 m w2 (TR_joinT (x := false) (fun e => by cases e) (fun _ => q1)) (HR_joinH hH hJ (fun e => by cases e) (fun _ => ⟨q2, pb⟩)) q3.back q4 h
                · cases hj
              · cases hj
          · obtain ⟨q1, q2⟩ := ch_ok h
            cases b with
            | true => exact ih ρ n x _ H K r (q1 rfl) m a w Q hT hH hd hQ
            | false => exact ih ρ n y _ H K r (q2 rfl) m a w Q hT hH hd hQ
      · cases h
    | block id c =>
      simp only [acodeM] at h
      refine wp_block (ih ρ n c T H _ r h m a w _ hT hH hd fun e T' H' a' m' w' q1 q2 q3 q4 q5 => ?_)
      cases e with
      | normal => exact hQ .normal T' H' a' m' w' q1 q2 q3 q4 q5
      | exit id' =>
        simp only [exOf, Exit.inBlock]
        simp only at q5
        cases hb : Nat.beq id' id with
        | true => rw [hb] at q5; rw [if_pos (Nat.eq_of_beq_eq_true hb)]; exact hQ .normal T' H' a' m' w' q1 q2 q3 q4 q5
        | false =>
          rw [hb] at q5
          rw [if_neg (fun e => by subst e; simp at hb)]
          exact hQ (.exit id') T' H' a' m' w' q1 q2 q3 q4 q5
      | ret => exact hQ .ret T' H' a' m' w' q1 q2 q3 q4 q5
    | loop c => exact wp_loop_rounds (fuel + 1) (B ρ n c T H K r h m a w Q hT hH hd hQ)
    | exit id => exact wp_exit (hQ (.exit id) T H a m w hT hH (Ext.refl m w) hd h)
    | ret => exact wp_ret (hQ .ret T H a m w hT hH (Ext.refl m w) hd h)
    | _ => simp only [acodeM] at h; cases h


theorem acallM_ok {P : Program} {env : Env} {md : List (Nat × Nat)} (hE : EnvOk P env) {fuel : Nat} {ρ : Type} {fid : FuncId} {args : List AV} {H : List AB} {K : AV → List AB → Option ρ} {r : ρ} (h : acallM P env md fuel fid args H K = some r)
    {m : List Nat} {Args : Array Value} {w : World} (hA : RL m args Args.toList) (hH : HR m H w) :
    Calls P fid Args w fun e w' => ∃ v V m' H', e = .returned V ∧ R m' v V ∧ HR m' H' w' ∧ Ext m w m' w' ∧ K v H' = some r := by
  unfold acallM at h
  split at h
  · rename_i fn hfn
    split at h
    · rename_i c' hc'
      cases hb : Nat.ble args.length fn.ntmps with
      | false => rw [hb] at h; cases h
      | true =>
        rw [hb] at h
        simp only [cond_true] at h
        exact acallM_of_code ((acodeM_both hE fuel).1 ρ) hfn hc' (Nat.le_of_ble_eq_true hb) h hA hH
    · cases h
  · cases h



/-! ### Contracts of functions without memory -/
/-! ### Contracts of functions over one flow -/
/-! ### Calls that look at memory -/
def toCst : AB → AB
  | .cells l t => .cst l t
  | .cst l t => .cst l t
  | _ => .dead
def maskH (w : Nat) : Nat → List AB → List AB
  | _, [] => []
  | k, B :: H => (bif Nat.beq k w then B else toCst B) :: maskH w (k + 1) H
def some2 (v : AV) (H : List AB) : Option (AV × List AB) := some (v, H)
def AB.isFlat : AB → Bool
  | .cells l _ => AV.noPtrL l
  | _ => false
def AB.plain : AB → Bool
  | .cells _ _ | .cst _ _ | .dead => true
  | _ => false
theorem AB.flat_back {B : AB} (h : B.isFlat = true) {m m' : List Nat} {o : Obj} (hr : RB m B o) {i b : Nat} : RB m' B o ∧ capAt m' i b o B := by
  cases B with
  | cells l t => obtain ⟨Vs, e, r⟩ := hr; exact ⟨⟨Vs, e, RL_noPtr l h r⟩, trivial⟩
  | _ => cases h
/-- What it comes to, all but one block being only looked at. -/
def seeF (P : Program) (env : Env) (md : List (Nat × Nat)) (fuel : Nat) (f : FuncId) (args : List AV) (H : List AB) : Option (AV × AB) :=
  match args with
  | .ptr w _ :: _ =>
    bif H.all AB.plain then
      match acallM P env md fuel f args (maskH w 0 H) some2 with
      | some (v, H') =>
        match H'[w]? with
        | some B => bif AB.isFlat B then some (v, B) else none
        | none => none
      | none => none
    else none
  | _ => none
theorem maskH_get {w : Nat} : ∀ (H : List AB) (k i : Nat), (maskH w k H)[i]? = (H[i]?).map fun B => bif Nat.beq (k + i) w then B else toCst B
  | [], k, i => by simp [maskH]
  | B :: H, k, 0 => by simp [maskH]
  | B :: H, k, i + 1 => by
    simp only [maskH, List.getElem?_cons_succ]
    rw [maskH_get H (k + 1) i, show k + 1 + i = k + (i + 1) by omega]
theorem maskH_len {w : Nat} : ∀ (H : List AB) (k : Nat), (maskH w k H).length = H.length
  | [], _ => rfl
  | B :: H, k => by simp [maskH, maskH_len H]
theorem toCst_live {B : AB} (h : (toCst B).live = true) : B.live = true := by cases B <;> first | rfl | cases h
theorem toCst_RB {m : List Nat} {B : AB} {o : Obj} (h : RB m B o) : RB m (toCst B) o := by
  cases B with
  | cells l t => exact h
  | cst l t => exact h
  | _ => trivial
theorem HR_mask {m : List Nat} {H : List AB} {w : World} (h : HR m H w) {j : Nat} {l : List AV} {t : TypeId} (hj : H[j]? = some (.cells l t)) : HR m (maskH j 0 H) w := by
  have inv : ∀ (i : Nat) (D : AB), (maskH j 0 H)[i]? = some D → ∃ B, H[i]? = some B ∧ (D.live = true → B.live = true ∧ (∀ o, RB m B o → RB m D o) ∧ ∀ b o, capAt m i b o D) := by
    intro i D hD
    rw [maskH_get] at hD
    obtain ⟨B, hB, e⟩ := Option.map_eq_some_iff.1 hD
    refine ⟨B, hB, fun hl => ?_⟩
    rw [Nat.zero_add] at e
    cases hb : Nat.beq i j with
    | true =>
      have := Nat.eq_of_beq_eq_true hb
      subst this
      rw [hb] at e
      rw [hj] at hB
      cases hB
      simp only [cond_true] at e
      subst e
      exact ⟨rfl, fun o h => h, fun _ _ => trivial⟩
    | false =>
      rw [hb] at e
      simp only [cond_false] at e
      subst e
      refine ⟨toCst_live hl, fun o h => toCst_RB h, fun b o => ?_⟩
      cases B <;> trivial
  refine ⟨by rw [maskH_len]; exact h.len, ?_, ?_⟩
  · intro i k b B C h1 h2 h3 h4 h5 h6
    obtain ⟨B', e1, e2⟩ := inv i B h3
    obtain ⟨C', f1, f2⟩ := inv k C h4
    exact h.nodup i k b B' C' h1 h2 e1 f1 (e2 h5).1 (f2 h6).1
  · intro i D hD hl
    obtain ⟨B, e1, e2⟩ := inv i D hD
    obtain ⟨g1, g2, g3⟩ := e2 hl
    obtain ⟨b, o, h1, h2, h3, _⟩ := h.all i B e1 g1
    exact ⟨b, o, h1, h2, g2 o h3, g3 b o⟩
theorem see_of {P : Program} {env : Env} {md : List (Nat × Nat)} (hE : EnvOk P env) (fuel : Nat) (f : FuncId) : EffOk P f (fun _ => true) (seeSpec (seeF P env md fuel f)) := by
  intro args H v H' _ hv m Args w hA hH
  unfold seeSpec at hv
  split at hv
  · rename_i j o rest _dbg
    split at hv
    · rename_i l0 t0 hj
      split at hv
      · rename_i v' B hF
        cases hnp : v'.noPtr with
        | false => rw [hnp] at hv; cases hv
        | true =>
          rw [hnp] at hv
          cases hv
          unfold seeF at hF
          simp only at hF
          cases hpl : H.all AB.plain with
          | false => rw [hpl] at hF; cases hF
          | true =>
          rw [hpl] at hF
          simp only [cond_true] at hF
          split at hF
          · rename_i v2 H2 hc
            split at hF
            · rename_i B2 hB2
              cases hflat : AB.isFlat B2 with
              | false => rw [hflat] at hF; cases hF
              | true =>
              rw [hflat] at hF
              cases hF
              have hp : Pres (maskH j 0 H) H2 := by
                obtain ⟨v3, H3, h1, p⟩ := acallM_E hc
                cases h1; exact p
              refine (acallM_ok hE hc hA (HR_mask hH hj)).mono fun e w' ⟨v3, V, m', H3, e1, e2, e3, e4, e5⟩ => ?_
              cases e5
              obtain ⟨x, hx, _⟩ := e4.pre
              refine ⟨V, m, e1, R_noPtr v hnp e2, ?_, e4.back⟩
              rw [hx] at e3
              have hjl : j < H.length := (List.getElem?_eq_some_iff.1 hj).1
              have key : ∀ (i : Nat) (D : AB), (H.set j B)[i]? = some D → D.live = true → ∃ E, H2[i]? = some E ∧ E.live = true ∧ ∀ b o, m[i]? = some b → RB (m ++ x) E o → RB m D o ∧ capAt m i b o D := by
                intro i D hD hl
                by_cases hij : j = i
                · subst hij
                  simp [hjl] at hD
                  subst hD
                  exact ⟨_, hB2, hl, fun b o _ hr => AB.flat_back hflat hr⟩
                · rw [List.getElem?_set_ne hij] at hD
                  have hm : (maskH j 0 H)[i]? = some (toCst D) := by
                    rw [maskH_get, hD, Nat.zero_add]
                    have : Nat.beq i j = false := by
                      rw [← Bool.not_eq_true]; intro hh; exact hij (Nat.eq_of_beq_eq_true hh).symm
                    rw [Option.map_some, this, cond_false]
                  have hpD := List.all_eq_true.1 hpl D (List.mem_of_getElem? hD)
                  have hold := hH.at_ i hD hl
                  cases D with
                  | cells l t =>
                    refine ⟨.cst l t, hp i l t hm, rfl, fun b o _ hr => ⟨?_, trivial⟩⟩
                    obtain ⟨_, _, _, _, Vs0, _, r0⟩ := hold
                    obtain ⟨Vs, f1, r⟩ := hr
                    exact ⟨Vs, f1, RL_back l r0 r⟩
                  | cst l t =>
                    refine ⟨.cst l t, hp i l t hm, rfl, fun b o _ hr => ⟨?_, trivial⟩⟩
                    obtain ⟨_, _, _, _, Vs0, _, r0⟩ := hold
                    obtain ⟨Vs, f1, r⟩ := hr
                    exact ⟨Vs, f1, RL_back l r0 r⟩
                  | dead => cases hl
                  | _ => cases hpD
              refine ⟨by rw [List.length_set]; exact hH.len, ?_, ?_⟩
              · intro i k b B' C h1 h2 h3 h4 h5 h6
                obtain ⟨E, f1, f2, _⟩ := key i B' h3 h5
                obtain ⟨F, g1, g2, _⟩ := key k C h4 h6
                exact e3.nodup i k b E F (get_mono x h1) (get_mono x h2) f1 g1 f2 g2
              · intro i D hD hl
                obtain ⟨E, f1, f2, f3⟩ := key i D hD hl
                obtain ⟨b, o, h1, h2, h3, _⟩ := e3.all i E f1 f2
                have hi : i < m.length := by
                  have := (List.getElem?_eq_some_iff.1 hD).1
                  rw [List.length_set] at this
                  rw [hH.len]; exact this
                have h1' := get_back h1 hi
                obtain ⟨r1, r2⟩ := f3 b o h1' h3
                exact ⟨b, o, h1', h2, r1, r2⟩
            · cases hF
          · cases hF
      · cases hv
    · cases hv
  · cases hv
end Go.Proofs.YtdojnnlhaiennaaGreat.Ae

/- Contracts of functions of numbers: that there is an answer of a known shape. Conditions: the contracts that are looked up hold. -/
namespace Go.Proofs.YtdojnnlhaiennaaGreat.Ae
open Go

/-- The shapes of values without memory. -/
inductive Sh where
  | num (k : IntKind)
  | flag
  | lit (k : IntKind) (n : Int)
  | agg (l : List Sh)
  | tup (l : List Sh)
mutual
def Sh.size : Sh → Nat
  | .num _ => 1
  | .flag => 1
  | .lit _ _ => 0
  | .agg l => Sh.sizeL l
  | .tup l => Sh.sizeL l
def Sh.sizeL : List Sh → Nat
  | [] => 0
  | s :: l => s.size + Sh.sizeL l
end
mutual
def Sh.of : Sh → (Nat → Int) → Nat → AV
  | .num k, f, n => .int k (f n)
  | .flag, f, n => .bool (f n != 0)
  | .lit k z, _, _ => .int k z
  | .agg l, f, n => .agg (Sh.ofL l f n)
  | .tup l, f, n => .tup (Sh.ofL l f n)
def Sh.ofL : List Sh → (Nat → Int) → Nat → List AV
  | [], _, _ => []
  | s :: l, f, n => s.of f n :: Sh.ofL l f (n + s.size)
end
mutual
def Sh.take : Sh → AV → Option (List Int)
  | .num k, .int k' n => if k = k' then some [n] else none
  | .flag, .bool x => some [bif x then 1 else 0]
  | .lit k z, .int k' n => if k = k' then (bif n == z then some [] else none) else none
  | .agg l, .agg vs => Sh.takeL l vs
  | .tup l, .tup vs => Sh.takeL l vs
  | _, _ => none
def Sh.takeL : List Sh → List AV → Option (List Int)
  | [], [] => some []
  | s :: l, v :: vs =>
    match s.take v, Sh.takeL l vs with
    | some a, some b => some (a ++ b)
    | _, _ => none
  | _, _ => none
end
mutual
theorem Sh.noPtr : ∀ (s : Sh) (f : Nat → Int) (n : Nat), (s.of f n).noPtr = true
  | .num _, _, _ => rfl
  | .flag, _, _ => rfl
  | .lit _ _, _, _ => rfl
  | .agg l, f, n => by simp only [Sh.of, AV.noPtr]; exact Sh.noPtrL l f n
  | .tup l, f, n => by simp only [Sh.of, AV.noPtr]; exact Sh.noPtrL l f n
theorem Sh.noPtrL : ∀ (l : List Sh) (f : Nat → Int) (n : Nat), AV.noPtrL (Sh.ofL l f n) = true
  | [], _, _ => rfl
  | s :: l, f, n => by simp only [Sh.ofL, AV.noPtrL, Sh.noPtr s f n, Sh.noPtrL l f _, Bool.and_self]
end
theorem getD_app {a b : List Int} {i : Nat} (h : a.length ≤ i) : (a ++ b).getD i 0 = b.getD (i - a.length) 0 := by
  simp [List.getElem?_append_right h]
theorem getD_app1 {a b : List Int} {i : Nat} (h : i < a.length) : (a ++ b).getD i 0 = a.getD i 0 := by
  simp [List.getElem?_append_left h]
mutual
theorem Sh.take_of : ∀ (s : Sh) (v : AV) (xs : List Int), s.take v = some xs → xs.length = s.size ∧ ∀ (f : Nat → Int) (n : Nat), (∀ i, i < xs.length → f (n + i) = xs.getD i 0) → s.of f n = v
  | .num k, v, xs, h => by
    cases v <;> simp only [Sh.take, reduceCtorEq] at h
    rename_i k' z
    split at h
    · rename_i e; subst e; cases h
      refine ⟨rfl, fun f n hf => ?_⟩
      have h0 : f n = z := by simpa using hf 0 (by simp)
      simp only [Sh.of, h0]
    · cases h
  | .flag, v, xs, h => by
    cases v <;> simp only [Sh.take, reduceCtorEq] at h
    rename_i x
    cases h
    refine ⟨rfl, fun f n hf => ?_⟩
    have h0 : f n = bif x then 1 else 0 := by simpa using hf 0 (by simp)
    simp only [Sh.of, h0]
    cases x <;> rfl
  | .lit k z, v, xs, h => by
    cases v <;> simp only [Sh.take, reduceCtorEq] at h
    rename_i k' y
    split at h
    · rename_i e; subst e
      cases hb : (y == z) with
      | false => rw [hb] at h; cases h
      | true =>
        rw [hb] at h
        cases h
        refine ⟨rfl, fun f n _ => ?_⟩
        simp only [Sh.of]
        rw [of_decide_eq_true (p := y = z) (by simpa using hb)]
    · cases h
  | .agg l, v, xs, h => by
    cases v <;> simp only [Sh.take, reduceCtorEq] at h
    rename_i vs
    obtain ⟨h1, h2⟩ := Sh.take_ofL l vs xs h
    exact ⟨h1, fun f n hf => by simp only [Sh.of]; rw [h2 f n hf]⟩
  | .tup l, v, xs, h => by
    cases v <;> simp only [Sh.take, reduceCtorEq] at h
    rename_i vs
    obtain ⟨h1, h2⟩ := Sh.take_ofL l vs xs h
    exact ⟨h1, fun f n hf => by simp only [Sh.of]; rw [h2 f n hf]⟩
theorem Sh.take_ofL : ∀ (l : List Sh) (vs : List AV) (xs : List Int), Sh.takeL l vs = some xs → xs.length = Sh.sizeL l ∧ ∀ (f : Nat → Int) (n : Nat), (∀ i, i < xs.length → f (n + i) = xs.getD i 0) → Sh.ofL l f n = vs
  | [], vs, xs, h => by
    cases vs <;> simp only [Sh.takeL, reduceCtorEq] at h
    cases h
    exact ⟨rfl, fun _ _ _ => rfl⟩
  | s :: l, vs, xs, h => by
    cases vs <;> simp only [Sh.takeL, reduceCtorEq] at h
    rename_i v vs
    split at h
    · rename_i a b ha hb
      cases h
      obtain ⟨a1, a2⟩ := Sh.take_of s v a ha
      obtain ⟨b1, b2⟩ := Sh.take_ofL l vs b hb
      refine ⟨by simp only [List.length_append, a1, b1, Sh.sizeL], fun f n hf => ?_⟩
      simp only [Sh.ofL]
      rw [a2 f n (fun i hi => by rw [hf i (by simp; omega), getD_app1 hi]), b2 f (n + s.size) (fun i hi => by
        have := hf (a.length + i) (by simp; omega)
        rw [getD_app (by omega), Nat.add_sub_cancel_left, a1] at this
        rw [← this, Nat.add_assoc])]
    · cases h
end
/-- A row of numbers by a function. -/
def rowf (xs : List Int) (i : Nat) : Int := xs.getD i 0
theorem Sh.take_row {s : Sh} {v : AV} {xs : List Int} (h : s.take v = some xs) : s.of (rowf xs) 0 = v := (Sh.take_of s v xs h).2 _ 0 fun i _ => by rw [Nat.zero_add]; rfl
theorem Sh.take_rowL {l : List Sh} {vs : List AV} {xs : List Int} (h : Sh.takeL l vs = some xs) : Sh.ofL l (rowf xs) 0 = vs := (Sh.take_ofL l vs xs h).2 _ 0 fun i _ => by rw [Nat.zero_add]; rfl

/-! ### Functions over a flow -/
abbrev QF := List Int → Bool → (Nat → Int) × Bool
def shF (ags : List Sh) (r : Sh) (q : QF) : List AV → Option (Bool → AV × Bool) := fun args =>
  match Sh.takeL ags args with
  | some xs => some fun b => (r.of (q xs b).1 0, (q xs b).2)
  | none => none
def exK (T : TypeId) (r : Sh) (v : AV) (H : List AB) : Option (List Int × Bool) :=
  match H with
  | .cells [.bool b] t :: _ => bif Nat.beq t T then (match r.take v with | some xs => some (xs, b) | none => none) else none
  | _ => none
theorem flow_ofK {P : Program} {env : Env} {md : List (Nat × Nat)} (hE : EnvOk P env) (fuel : Nat) (f : FuncId) (T : TypeId) (C : List AV → Bool) (F : List AV → Option (Bool → AV × Bool))
    (h : ∀ args g, C args = true → F args = some g → ∀ b, ∃ (ρ : Type) (K : AV → List AB → Option ρ) (r : ρ), acallM P env md fuel f (.ptr 0 0 :: args) [.cells [.bool b] T] K = some r ∧ ∀ v H, K v H = some r → flowK T v H = some (g b)) : EffOk P f (fun l => C l.tail) (flowSpec T F) := by
  intro args H v H' hC hv m Args w hA hH
  unfold flowSpec at hv
  split at hv
  · rename_i j rest
    split at hv
    · rename_i b t hj
      cases hb : (Nat.beq t T && AV.noPtrL rest) with
      | false => rw [hb] at hv; cases hv
      | true =>
        rw [hb] at hv
        simp only [Bool.and_eq_true] at hb
        obtain ⟨ht, hn⟩ := hb
        obtain rfl := Nat.eq_of_beq_eq_true ht
        simp only [cond_true] at hv
        split at hv
        · rename_i g hg
          simp only [Option.some.injEq, Prod.mk.injEq] at hv
          obtain ⟨rfl, rfl⟩ := hv
          obtain ⟨c, o, hc, hw, hB⟩ := hH.at_ j hj
          have hH1 : HR [c] [.cells [.bool b] t] w := by
            refine ⟨rfl, ?_, fun i B hB' _ => ?_⟩
            · intro i j' b' B C h1 h2 _ _ _ _
              cases i with
              | zero =>
                cases j' with
                | zero => rfl
                | succ j' => simp at h2
              | succ i => simp at h1
            · cases i with
              | zero =>
                simp at hB'
                subst hB'
                obtain ⟨Vs, h1, h2⟩ := hB
                exact ⟨c, o, by simp, hw, ⟨Vs, h1, RL_noPtr _ (by simp [AV.noPtrL, AV.noPtr]) h2⟩, trivial⟩
              | succ i => simp at hB'
          obtain ⟨V0, Vs, e0, hp, hr⟩ := RL_cons.1 hA
          have hA1 : RL [c] (.ptr 0 0 :: rest) Args.toList := by
            rw [e0]
            refine RL.cons ?_ (RL_noPtr rest hn hr)
            simp only [R] at hp ⊢
            obtain ⟨c', hc', e⟩ := hp
            rw [hc] at hc'; cases hc'
            exact ⟨c, by simp, e⟩
          obtain ⟨ρ0, K0, r0, hc0, hk0⟩ := h rest g hC hg b
          refine (acallM_ok hE hc0 hA1 hH1).mono fun e w' ⟨v', V, m', H', e1, e2, e3, e4, e5⟩ => ?_
          replace e5 := hk0 _ _ e5
          unfold flowK at e5
          split at e5
          · rename_i b' t' Hr
            cases hb' : (Nat.beq t' t && v'.noPtr) with
            | false => rw [hb'] at e5; cases e5
            | true =>
              rw [hb'] at e5
              simp only [Bool.and_eq_true] at hb'
              obtain ⟨ht', hnv⟩ := hb'
              obtain rfl := Nat.eq_of_beq_eq_true ht'
              simp only [cond_true, Option.some.injEq] at e5
              rw [← e5]
              obtain ⟨x, hx, hxs⟩ := e4.pre
              obtain ⟨c2, o2, hc2, hw2, hB2⟩ := e3.at_ 0 (B := .cells [.bool b'] t') rfl
              rw [hx] at hc2
              simp at hc2
              subst hc2
              have live : ∀ {i : Nat} {B : AB}, (H.set j (.cells [.bool b'] t'))[i]? = some B → B.live = true → ∃ B', H[i]? = some B' ∧ B'.live = true := fun {i B} hB' hl => by
                by_cases hij : j = i
                · subst hij; exact ⟨_, hj, rfl⟩
                · rw [List.getElem?_set_ne hij] at hB'; exact ⟨B, hB', hl⟩
              refine ⟨V, m, e1, R_noPtr v' hnv e2, ⟨by simp [hH.len], ?_, ?_⟩, ⟨⟨[], by simp⟩, e4.os, e4.tape, e4.output, e4.size, ?_⟩⟩
              · intro i i' b3 B C h1 h2 h3 h4 h5 h6
                obtain ⟨B', b1, b2⟩ := live h3 h5
                obtain ⟨C', d1, d2⟩ := live h4 h6
                exact hH.nodup i i' b3 B' C' h1 h2 b1 d1 b2 d2
              · intro i B hB' hl
                by_cases hij : j = i
                · subst hij
                  have hlt : j < H.length := (List.getElem?_eq_some_iff.1 hj).1
                  simp [hlt] at hB'
                  subst hB'
                  obtain ⟨Vs', h1, h2⟩ := hB2
                  exact ⟨c, o2, hc, hw2, ⟨Vs', h1, RL_noPtr _ (by simp [AV.noPtrL, AV.noPtr]) h2⟩, trivial⟩
                · rw [List.getElem?_set_ne hij] at hB'
                  obtain ⟨c3, o3, h1, h2, h3, h4⟩ := hH.all i B hB' hl
                  refine ⟨c3, o3, h1, ?_, h3, h4⟩
                  have hlt3 := (Array.getElem?_eq_some_iff.1 h2).1
                  rw [e4.block c3 hlt3 (by simp; intro e; subst e; exact hij (hH.nodup _ _ _ _ _ hc h1 hj hB' rfl hl))]
                  exact h2
              · intro k hk hkm
                exact e4.block k hk (by simp; intro e; subst e; exact hkm (List.mem_of_getElem? hc))
          · cases e5
        · cases hv
    · cases hv
  · cases hv



def qOf (P : Program) (env : Env) (md : List (Nat × Nat)) (fuel : Nat) (f : FuncId) (T : TypeId) (ags : List Sh) (r : Sh) : QF := fun xs b =>
  match acallM P env md fuel f (.ptr 0 0 :: Sh.ofL ags (rowf xs) 0) [.cells [.bool b] T] (exK T r) with
  | some (ys, b') => (rowf ys, b')
  | none => (fun _ => 0, false)
theorem flow_ex {P : Program} {env : Env} (hE : EnvOk P env) (md : List (Nat × Nat)) (fuel : Nat) (f : FuncId) (T : TypeId) (ags : List Sh) (r : Sh)
    (h : ∀ (x : Nat → Int) (b : Bool), (acallM P env md fuel f (.ptr 0 0 :: Sh.ofL ags x 0) [.cells [.bool b] T] (exK T r)).isSome = true) : ∃ q : QF, EffOk P f (fun _ => true) (flowSpec T (shF ags r q)) := by
  refine ⟨qOf P env md fuel f T ags r, ?_⟩
  refine flow_ofK (md := md) hE fuel f T (fun _ => true) (shF ags r (qOf P env md fuel f T ags r)) ?_
  intro args g _ hg b
  unfold shF at hg
  split at hg
  · rename_i xs hxs
    cases hg
    have e := Sh.take_rowL hxs
    have hs := h (rowf xs) b
    have hq : qOf P env md fuel f T ags r xs b = match acallM P env md fuel f (.ptr 0 0 :: Sh.ofL ags (rowf xs) 0) [.cells [.bool b] T] (exK T r) with
      | some (ys, b') => (rowf ys, b')
      | none => (fun _ => 0, false) := rfl
    rw [e] at hs hq
    dsimp only
    rw [hq]
    cases hc : acallM P env md fuel f (.ptr 0 0 :: args) [.cells [.bool b] T] (exK T r) with
    | none => rw [hc] at hs; cases hs
    | some p =>
      obtain ⟨ys, b'⟩ := p
      refine ⟨_, _, _, hc, fun v H hK => ?_⟩
      unfold exK at hK
      split at hK
      · rename_i b2 t Hr
        cases hb : Nat.beq t T with
        | false => rw [hb] at hK; cases hK
        | true =>
          rw [hb] at hK
          simp only [cond_true] at hK
          split at hK
          · rename_i xs2 ht
            cases hK
            unfold flowK
            have hv := Sh.take_row ht
            simp only [hb, Bool.true_and]
            rw [hv]
            have : v.noPtr = true := by rw [← hv]; exact Sh.noPtr _ _ _
            rw [this]; rfl
          · cases hK
      · cases hK
  · cases hg

/-! ### Functions without memory -/
abbrev QP := List Int → Nat → Int
def shP (ags : List Sh) (r : Sh) (q : QP) : List AV → Option AV := fun args =>
  match Sh.takeL ags args with
  | some xs => some (r.of (q xs) 0)
  | none => none
def exP (r : Sh) (v : AV) (_ : List AB) : Option (List Int) := r.take v
def qpOf (P : Program) (env : Env) (md : List (Nat × Nat)) (fuel : Nat) (f : FuncId) (ags : List Sh) (r : Sh) : QP := fun xs =>
  match acallM P env md fuel f (Sh.ofL ags (rowf xs) 0) [] (exP r) with
  | some ys => rowf ys
  | none => fun _ => 0
theorem pure_ex {P : Program} {env : Env} (hE : EnvOk P env) (md : List (Nat × Nat)) (fuel : Nat) (f : FuncId) (ags : List Sh) (r : Sh)
    (h : ∀ (x : Nat → Int), (acallM P env md fuel f (Sh.ofL ags x 0) [] (exP r)).isSome = true) : ∃ q : QP, PureOk P f (fun _ => true) (shP ags r q) := by
  refine ⟨qpOf P env md fuel f ags r, ?_⟩
  intro args v _ hv m Args w hA
  unfold shP at hv
  split at hv
  · rename_i xs hxs
    cases hv
    have e := Sh.take_rowL hxs
    have hs := h (rowf xs)
    have hq : qpOf P env md fuel f ags r xs = match acallM P env md fuel f (Sh.ofL ags (rowf xs) 0) [] (exP r) with
      | some ys => rowf ys
      | none => fun _ => 0 := rfl
    rw [e] at hs hq
    have hH : HR [] [] w := ⟨rfl, by simp, fun i B hB _ => by simp at hB⟩
    have hn : AV.noPtrL args = true := by rw [← e]; exact Sh.noPtrL _ _ _
    cases hc : acallM P env md fuel f args [] (exP r) with
    | none => rw [hc] at hs; cases hs
    | some ys =>
      rw [hc] at hq
      refine (acallM_ok hE hc (m := []) (RL_noPtr args hn hA) hH).mono fun e w' ⟨v', V, m', H', e1, e2, e3, e4, e5⟩ => ?_
      have hv := Sh.take_row (show r.take v' = some ys from e5)
      refine ⟨V, e1, ?_, ⟨⟨[], by simp⟩, e4.os, e4.tape, e4.output, e4.size, e4.block⟩⟩
      rw [hq]
      show R [] (r.of (rowf ys) 0) V
      rw [hv]
      exact R_noPtr v' (by rw [← hv]; exact Sh.noPtr _ _ _) e2
  · cases hv
end Go.Proofs.YtdojnnlhaiennaaGreat.Ae
