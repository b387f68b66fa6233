/- Regions that draw their order and make more than one block: the blocks are numbered by the text's order, whatever order is drawn. Conditions: the contracts that are looked up hold. -/
import Derived.Test.YtlkclpkpggapbaaAeP
namespace Go.Proofs.Ytlkclpkpggapbaa.Ae
open Go

section
variable {P : Program} {env : Env} {ops : Array Oper} {n : Nat} {A : List Va}

theorem devirt_after (n : Nat) (o : Oper) : (devirt n o).after = o.after ∧ (devirt n o).dst = o.dst ∧ (devirt n o).guard = o.guard := by
  unfold devirt
  split
  · rename_i h1 h2; exact ⟨rfl, by simp [h2], rfl⟩
  · exact ⟨rfl, rfl, rfl⟩
theorem devirt_not {o : Oper} (n : Nat) (h : isAllocB o.op = false) : devirt n o = o := by
  unfold devirt
  split
  · rename_i h1 h2; rw [h1] at h; cases h
  · rfl
theorem devirt_get (i : Nat) : (ops.map (devirt n))[i]? = (ops[i]?).map (devirt n) := by simp
theorem ready_devirt {listed : Array Bool} {i : Nat} : i ∈ Region.ready .any (ops.map (devirt n)) listed ↔ i ∈ Region.ready .any ops listed := by
  rw [mem_ready, mem_ready, devirt_get]
  constructor
  · rintro ⟨h0, o, ho, h⟩
    obtain ⟨o', ho', rfl⟩ := Option.map_eq_some_iff.1 ho
    rw [(devirt_after n o').1] at h
    exact ⟨h0, o', ho', h⟩
  · rintro ⟨h0, o, ho, h⟩
    exact ⟨h0, devirt n o, by rw [ho]; rfl, by rw [(devirt_after n o).1]; exact h⟩
theorem ready_devirt_nil {listed : Array Bool} (h : Region.ready .any ops listed = []) : Region.ready .any (ops.map (devirt n)) listed = [] := by
  rw [List.eq_nil_iff_forall_not_mem] at h ⊢
  exact fun i hi => h i (ready_devirt.1 hi)

/-- What is known of the region's operations. -/
structure VOk (P : Program) (ops : Array Oper) (n L : Nat) (A : List Va) (F : Foots) : Prop where
  dist : ∀ (i j : Nat) (a b : Va), A[i]? = some a → A[j]? = some b → a.d = b.d → i = j
  mem : ∀ a ∈ A, ∃ o, ops[a.i]? = some o ∧ o.op = .alloc a.t ∧ o.dst = some a.d ∧ (zeroA P a.t).bind cellsOf? = some a.l ∧ a.d < n ∧ AV.noPtrL a.l = true
  grd : ∀ (i : Nat) (o : Oper), ops[i]? = some o → o.guard = none
  all : ∀ (i : Nat) (o : Oper), ops[i]? = some o → isAllocB o.op = true → (∃ a ∈ A, a.i = i) ∧ ∀ e, e ∉ o.after
  oth : ∀ (i : Nat) (o : Oper) (f : Foot), ops[i]? = some o → F[i]? = some f → isAllocB o.op = false → (∀ d, o.dst = some d → d < n ∧ ∀ a ∈ A, a.d ≠ d) ∧ (∀ t ∈ o.looksAt ops, t < n) ∧
    ((∀ a ∈ A, ∃ e ∈ o.after, Region.binds .any e = true ∧ e.on = a.i) ∨ ((∀ t ∈ o.looksAt ops, ∀ a ∈ A, a.d ≠ t) ∧ lowF L f = true))

theorem slotIn_iff {t : Nat} : slotIn A t = true ↔ ∃ a ∈ A, a.d = t := by
  unfold slotIn
  simp only [List.any_eq_true]
  exact ⟨fun ⟨a, h, e⟩ => ⟨a, h, Nat.eq_of_beq_eq_true e⟩, fun ⟨a, h, e⟩ => ⟨a, h, by rw [e]; exact Nat.beq_refl _⟩⟩
theorem slotIn_not {t : Nat} (h : slotIn A t = false) : ∀ a ∈ A, a.d ≠ t := fun a ha e => by
  rw [slotIn_iff.2 ⟨a, ha, e⟩] at h; cases h
theorem distB_ok : ∀ {A : List Va}, distB A = true → ∀ (i j : Nat) (a b : Va), A[i]? = some a → A[j]? = some b → a.d = b.d → i = j
  | [], _, i, j, a, b, h, _, _ => by simp at h
  | c :: A, h, i, j, a, b, h1, h2, e => by
    simp only [distB, Bool.and_eq_true, Bool.not_eq_true'] at h
    rcases i with _ | i <;> rcases j with _ | j
    · rfl
    · simp at h1 h2; subst h1
      exact absurd e.symm (slotIn_not h.1 b (List.mem_of_getElem? h2))
    · simp at h1 h2; subst h2
      exact absurd e (slotIn_not h.1 a (List.mem_of_getElem? h1))
    · simp at h1 h2
      rw [distB_ok h.2 i j a b h1 h2 e]
theorem vasOf_mem : ∀ (l : List Oper) (k : Nat), (∀ j, l[j]? = ops[k + j]?) → ∀ a ∈ vasOf P k l, ∃ o, ops[a.i]? = some o ∧ o.op = .alloc a.t ∧ o.dst = some a.d ∧ (zeroA P a.t).bind cellsOf? = some a.l
  | [], k, _, a, h => by simp [vasOf] at h
  | o :: l, k, hl, a, h => by
    have h0 : ops[k]? = some o := by simpa using (hl 0).symm
    have hl' : ∀ j, l[j]? = ops[k + 1 + j]? := fun j => by have := hl (j + 1); simpa [Nat.add_assoc, Nat.add_comm 1 j] using this
    unfold vasOf at h
    split at h
    · rename_i t d h1 h2
      split at h
      · rename_i c hc
        rcases List.mem_cons.1 h with rfl | h
        · exact ⟨o, h0, h1, h2, hc⟩
        · exact vasOf_mem l (k + 1) hl' a h
      · exact vasOf_mem l (k + 1) hl' a h
    · exact vasOf_mem l (k + 1) hl' a h
theorem chkAll_get {L : Nat} : ∀ (l : List Oper) (F : Foots) (k : Nat), chkAll A ops n L k l F = true → ∀ j o, l[j]? = some o → (∃ f, F[j]? = some f) ∧ ∀ f, F[j]? = some f → chkOp A ops n L (k + j) o f = true
  | [], F, k, _, j, o, h => by simp at h
  | _ :: _, [], k, h, j, o, _ => by simp [chkAll] at h
  | o' :: l, f' :: F, k, h, j, o, ho => by
    simp only [chkAll, Bool.and_eq_true] at h
    rcases j with _ | j
    · simp at ho
      subst ho
      exact ⟨⟨f', rfl⟩, fun f hf => by simp at hf; subst hf; exact h.1⟩
    · simp at ho
      obtain ⟨h1, h2⟩ := chkAll_get l F (k + 1) h.2 j o ho
      refine ⟨by simpa using h1, fun f hf => ?_⟩
      have := h2 f (by simpa using hf)
      rw [show k + (j + 1) = k + 1 + j from by omega]; exact this
theorem vok_of {L : Nat} {F : Foots} (h1 : distB (vasOf P 0 ops.toList) = true) (h2 : (vasOf P 0 ops.toList).all (fun a => Nat.ble (a.d + 1) n && AV.noPtrL a.l) = true) (h3 : chkAll (vasOf P 0 ops.toList) ops n L 0 ops.toList F = true) : VOk P ops n L (vasOf P 0 ops.toList) F := by
  have hm := vasOf_mem (P := P) (ops := ops) ops.toList 0 (by simp)
  generalize vasOf P 0 ops.toList = A at *
  have hc : ∀ (i : Nat) (o : Oper), ops[i]? = some o → (∃ f, F[i]? = some f) ∧ ∀ f, F[i]? = some f → chkOp A ops n L i o f = true := fun i o ho => by
    have := chkAll_get ops.toList F 0 h3 i o (by simpa using ho)
    rw [Nat.zero_add] at this; exact this
  refine ⟨distB_ok h1, fun a ha => ?_, fun i o ho => ?_, fun i o ho hal => ?_, fun i o f ho hf hal => ?_⟩
  · obtain ⟨o, e1, e2, e3, e4⟩ := hm a ha
    have := List.all_eq_true.1 h2 a ha
    simp only [Bool.and_eq_true] at this
    exact ⟨o, e1, e2, e3, e4, Nat.le_of_ble_eq_true this.1, this.2⟩
  · obtain ⟨⟨f, hf⟩, h⟩ := hc i o ho
    have := h f hf
    simp only [chkOp, Bool.and_eq_true] at this
    simpa using this.1
  · obtain ⟨⟨f, hf⟩, h⟩ := hc i o ho
    have := h f hf
    simp only [chkOp, Bool.and_eq_true, hal, cond_true, List.any_eq_true] at this
    obtain ⟨-, ⟨a, ha, e⟩, he⟩ := this
    exact ⟨⟨a, ha, Nat.eq_of_beq_eq_true e⟩, fun e h => by simp at he; rw [he] at h; simp at h⟩
  · have := (hc i o ho).2 f hf
    simp only [chkOp, Bool.and_eq_true, hal, cond_false, Bool.or_eq_true, List.all_eq_true] at this
    obtain ⟨-, ⟨h4, h5⟩, h6⟩ := this
    refine ⟨fun d hd => ?_, fun t ht => Nat.le_of_ble_eq_true (h5 t ht), ?_⟩
    · rw [hd] at h4
      simp only [Bool.and_eq_true, Bool.not_eq_true'] at h4
      exact ⟨Nat.le_of_ble_eq_true h4.1, slotIn_not h4.2⟩
    · rcases h6 with h6 | ⟨h6, h7⟩
      · refine .inl fun a ha => ?_
        unfold aftAll at h6
        have := List.all_eq_true.1 h6 a ha
        simp only [List.any_eq_true, Bool.and_eq_true] at this
        obtain ⟨e, he, hb, hn⟩ := this
        exact ⟨e, by simpa using he, hb, Nat.eq_of_beq_eq_true hn⟩
      · refine .inr ⟨fun t ht => slotIn_not (by simpa using h6 t ht), h7⟩

/-! ### Masks -/
theorem get_map_any {g : Va → Nat} (T : Tab) (i : Nat) : ∀ A : List Va, get (A.map (fun a => (g a, AV.any)) ++ T) i = if (∃ a ∈ A, g a = i) then .any else get T i
  | [] => by simp
  | a :: A => by
    by_cases h : g a = i
    · subst h
      rw [if_pos ⟨a, List.mem_cons_self .., rfl⟩]
      simp [get]
    · rw [List.map_cons, List.cons_append, get_cons_ne h, get_map_any T i A]
      by_cases h' : ∃ b ∈ A, g b = i
      · obtain ⟨b, hb, e⟩ := h'
        rw [if_pos ⟨b, hb, e⟩, if_pos ⟨b, List.mem_cons_of_mem _ hb, e⟩]
      · rw [if_neg h', if_neg (by
          rintro ⟨b, hb, e⟩
          rcases List.mem_cons.1 hb with rfl | hb
          · exact h e
          · exact h' ⟨b, hb, e⟩)]
def maskA (n : Nat) (A : List Va) (T : Tab) : Tab := A.map (fun a => (a.d, AV.any)) ++ maskF n A T
theorem get_maskF (T : Tab) (i : Nat) : get (maskF n A T) i = if (∃ a ∈ A, n + a.d = i) then .any else get T i := get_map_any (g := fun a => n + a.d) T i A
theorem get_maskA (T : Tab) (i : Nat) : get (maskA n A T) i = if (∃ a ∈ A, a.d = i) then .any else if (∃ a ∈ A, n + a.d = i) then .any else get T i := by
  unfold maskA
  rw [get_map_any (g := fun a => a.d), get_maskF]
theorem maskF_lt {T : Tab} {i : Nat} (h : i < n) : get (maskF n A T) i = get T i := by
  rw [get_maskF, if_neg (by rintro ⟨a, _, e⟩; omega)]
theorem mask_put {M : Tab → Tab} {S : Nat → Prop} [DecidablePred S] (hM : ∀ T i, get (M T) i = if S i then .any else get T i) {d : Option Tmp} {v : AV} {T T1 : Tab} (ht : Teq T1 (putT d v T)) (hd : ∀ e, d = some e → ¬ S e) : Teq (M T1) (putT d v (M T)) := by
  intro i
  rw [hM, get_putT, hM]
  by_cases hS : S i
  · rw [if_pos hS, if_neg (fun e => hd i e hS), if_pos hS]
  · rw [if_neg hS, if_neg hS, ht i, get_putT]

/-- What an operation does where its slots are alike. -/
theorem LS.same {o : Oper} {T T2 : Tab} {H H1 : List AB} {v : AV} {f : Foot} (h : LS P env ops o T H v H1 f) (hg : o.guard = none) (ha : Agree ops o T T2) : aexecD P env o T2 H = some (v, H1) := by
  have ex : ∀ {T2 : Tab} {H H1 : List AB} {f : Foot}, LS P env ops o T2 H v H1 f → aexecD P env o T2 H = some (v, H1) := by
    rintro T2 H H1 f (⟨_, _, hx⟩ | ⟨hw, _⟩)
    · exact hx
    · simp [wantedA, hg] at hw
  have hl := h.loc
  cases f with
  | all => exact ex (hl T2 ha)
  | none => obtain ⟨rfl, hl⟩ := hl; exact ex (hl T2 _ ha)
  | rd b => obtain ⟨rfl, hl⟩ := hl; exact ex (hl T2 _ ha rfl)
  | wt b => obtain ⟨B, rfl, _, hl⟩ := hl; exact ex (hl T2 _ ha rfl)
  | al k => obtain ⟨rfl, B, rfl, hl⟩ := hl; exact ex (hl T2 _ ha rfl)
  | rw r b => obtain ⟨B, rfl, _, _, hl⟩ := hl; exact ex (hl T2 _ ha rfl rfl)
  | put b k => obtain ⟨two, es, u, e1, rfl, hl⟩ := hl; exact ex (hl T2 _ es ha e1)
/-- .. without the blocks that stand behind. -/
theorem LS.less {o : Oper} {T T2 : Tab} {H Bs H1 : List AB} {v : AV} {f : Foot} (h : LS P env ops o T (H ++ Bs) v H1 f) (hg : o.guard = none) (ha : Agree ops o T T2) (hf : lowF H.length f = true) :
    ∃ H2, aexecD P env o T2 H = some (v, H2) ∧ H1 = H2 ++ Bs ∧ H2.length = H.length := by
  have ex : ∀ {T2 : Tab} {H H1 : List AB} {f : Foot}, LS P env ops o T2 H v H1 f → aexecD P env o T2 H = some (v, H1) := by
    rintro T2 H H1 f (⟨_, _, hx⟩ | ⟨hw, _⟩)
    · exact hx
    · simp [wantedA, hg] at hw
  have hl := h.loc
  cases f with
  | all => cases hf
  | none => obtain ⟨rfl, hl⟩ := hl; exact ⟨H, ex (hl T2 H ha), rfl, rfl⟩
  | rd b =>
    obtain ⟨rfl, hl⟩ := hl
    have hb : b < H.length := Nat.le_of_ble_eq_true hf
    exact ⟨H, ex (hl T2 H ha (by rw [List.getElem?_append_left hb])), rfl, rfl⟩
  | wt b =>
    obtain ⟨B, rfl, _, hl⟩ := hl
    have hb : b < H.length := Nat.le_of_ble_eq_true hf
    exact ⟨_, ex (hl T2 H ha (by rw [List.getElem?_append_left hb])), by rw [List.set_append_left _ _ hb], by simp⟩
  | al k => cases hf
  | rw r b =>
    obtain ⟨B, rfl, _, _, hl⟩ := hl
    simp only [lowF, Bool.and_eq_true] at hf
    have hr : r < H.length := Nat.le_of_ble_eq_true hf.1
    have hb : b < H.length := Nat.le_of_ble_eq_true hf.2
    exact ⟨_, ex (hl T2 H ha (by rw [List.getElem?_append_left hr]) (by rw [List.getElem?_append_left hb])), by rw [List.set_append_left _ _ hb], by simp⟩
  | put b k =>
    obtain ⟨two, es, u, e1, rfl, hl⟩ := hl
    have hb : b < H.length := Nat.le_of_ble_eq_true hf
    rw [List.getElem?_append_left hb] at e1
    exact ⟨_, ex (hl T2 H es ha e1), by rw [List.set_append_left _ _ hb], by simp⟩

theorem looksAt_devirt {o : Oper} (hg : ∀ (i : Nat) (o : Oper), ops[i]? = some o → o.guard = none) (ho : o.guard = none) : o.looksAt (ops.map (devirt n)) = o.looksAt ops := by
  unfold Oper.looksAt
  rw [ho]

/-- All blocks are made: the rest. -/
theorem v2_sound (hE : EnvOk P env) {L : Nat} {F : Foots} (hV : VOk P ops n L A F) (hF : F.length = ops.size) {Fin : Tab → List AB → Prop} {Q : Exit → Act → World → Prop} : ∀ (fuel : Nat) (listed : Array Bool) (T : Tab) (H : List AB) (m : List Nat) (a : Act) (w : World),
    AnyA P env (ops.map (devirt n)) n F Fin fuel listed T H → (∀ b ∈ A, listed.getD b.i false = true) → TR m n (maskF n A T) a.tmps → HR m H w →
    (∀ T' H' a' m' w', TR m' n (maskF n A T') a'.tmps → HR m' H' w' → Ext m w m' w' → a'.defers = a.defers → Fin T' H' → Q .normal a' w') → wpAny P .any ops Q fuel listed a w
  | 0, listed, T, H, m, a, w, h, _, hT, hH, hQ => by
    refine ⟨?_, hQ T H a m w hT hH (Ext.refl m w) rfl h.2⟩
    rw [List.eq_nil_iff_forall_not_mem]
    intro i hi
    have h1 := (ready_devirt (n := n)).2 hi
    rw [h.1] at h1
    cases h1
  | fuel + 1, listed, T, H, m, a, w, h, hls, hT, hH, hQ => by
    refine ⟨fun h0 => hQ T H a m w hT hH (Ext.refl m w) rfl (h.1 (ready_devirt_nil h0)), fun i hi => ?_⟩
    obtain ⟨T', H', ⟨o', f, v, e1, e2, hd, hl, ht⟩, hA⟩ := h.2 i (ready_devirt.2 hi)
    obtain ⟨hun, o, ho, haft⟩ := mem_ready.1 hi
    have hal : isAllocB o.op = false := by
      cases hal : isAllocB o.op with
      | false => rfl
      | true =>
        obtain ⟨⟨b, hb, rfl⟩, -⟩ := hV.all i o ho hal
        have h1 := hls b hb
        rw [getD_both' hun] at h1; cases h1
    rw [devirt_get, ho] at e1
    simp only [Option.map_some, Option.some.injEq] at e1
    rw [devirt_not n hal] at e1
    subst e1
    have hg := hV.grd i o ho
    obtain ⟨hdst, hlk, -⟩ := hV.oth i o f ho e2 hal
    have hag : Agree (ops.map (devirt n)) o T (maskF n A T) := fun t ht' => by
      rw [looksAt_devirt hV.grd hg] at ht'
      rw [maskF_lt (hlk t ht')]
    have hx := hl.same hg hag
    unfold wpOp
    simp only [ho]
    rw [if_pos (by simp [Region.wanted, hg])]
    refine .inl (aexec_ok (dcD_DC hE) hT hH hx fun v' H'' V m' w' hv hH' hEx hK => ?_)
    cases hK
    have hT1 : TR m' n (maskF n A T) a.tmps := by obtain ⟨x, hx, _⟩ := hEx.pre; rw [hx]; exact hT.mono x
    have hmt : Teq (maskF n A T') (putT o.dst v (maskF n A T)) := by
      haveI : DecidablePred fun i => ∃ a ∈ A, n + a.d = i := fun i => Classical.propDecidable _
      refine mask_put (M := maskF n A) (S := fun i => ∃ a ∈ A, n + a.d = i) (fun T i => by rw [get_maskF]; congr) ht fun e he => ?_
      rintro ⟨b, _, e3⟩
      have h5 : e < n := (hdst e he).1
      have h6 : n ≤ e := by rw [← e3]; exact Nat.le_add_right n b.d
      exact absurd h5 (Nat.not_lt.2 h6)
    exact v2_sound hE hV hF fuel _ T' H' m' _ w' hA (fun b hb => getD_set_true (hls b hb)) ((hT1.putT hd hv).teq hmt) hH' fun T3 H3 a3 m3 w3 q1 q2 q3 q4 q5 => hQ T3 H3 a3 m3 w3 q1 q2 (hEx.trans q3) (q4.trans (put_defers _ _ _)) q5
/-- A block that was made, and isn't numbered yet. -/
def Pend (m : List Nat) (tmps : Array Value) (w0 w : World) (a : Va) : Prop :=
  ∃ b Ls, tmps.getD a.d undef = .pointer (some ⟨b, 0, none⟩) ∧ w.heap[b]? = some (.cells ⟨Ls⟩ a.t (0, 0)) ∧ RL [] a.l Ls ∧ b ∉ m ∧ w0.heap.size ≤ b
def blkOf : Value → Nat
  | .pointer (some p) => p.block
  | _ => 0
theorem slotsOf_get (T : Tab) : ∀ (A : List Va) (k j : Nat) (a : Va), A[j]? = some a → (∀ (i j : Nat) (a b : Va), A[i]? = some a → A[j]? = some b → a.d = b.d → i = j) → get (slotsOf n k A ++ T) (n + a.d) = .ptr (k + j) 0
  | [], k, j, a, h, _ => by simp at h
  | c :: A, k, j, a, h, hd => by
    rcases j with _ | j
    · simp at h
      subst h
      simp [slotsOf, get]
    · have hne : n + c.d ≠ n + a.d := fun e => by
        have := hd 0 (j + 1) c a rfl h (by omega)
        omega
      rw [slotsOf, List.cons_append, get_cons_ne hne, slotsOf_get T A (k + 1) j a (by simpa using h) fun i i' b b' h1 h2 e => by
        have := hd (i + 1) (i' + 1) b b' (by simpa using h1) (by simpa using h2) e
        omega]
      congr 1
      omega
theorem slotsOf_other (T : Tab) {i : Nat} : ∀ (A : List Va) (k : Nat), (∀ a ∈ A, n + a.d ≠ i) → get (slotsOf n k A ++ T) i = get T i
  | [], k, _ => rfl
  | c :: A, k, h => by
    rw [slotsOf, List.cons_append, get_cons_ne (h c (List.mem_cons_self ..)), slotsOf_other T A (k + 1) fun a ha => h a (List.mem_cons_of_mem _ ha)]

/-- All blocks made get their numbers. -/
theorem number_all {L : Nat} {F : Foots} (hV : VOk P ops n L A F) {T : Tab} {H : List AB} {m : List Nat} {tmps : Array Value} {w0 w : World} (hL : H.length = L) (hT : TR m n (maskA n A T) tmps) (hH : HR m H w)
    (hS : ∀ j a, A[j]? = some a → get T a.d = .ptr (L + j) 0) (hP : ∀ a ∈ A, Pend m tmps w0 w a) (hD : ∀ a ∈ A, ∀ b ∈ A, a.d ≠ b.d → blkOf (tmps.getD a.d undef) ≠ blkOf (tmps.getD b.d undef)) :
    ∃ x, (∀ b ∈ x, w0.heap.size ≤ b) ∧ TR (m ++ x) n (maskF n A T) tmps ∧ HR (m ++ x) (H ++ A.map vaBlk) w := by
  have hg : ∀ (j b : Nat), (A.map fun a => blkOf (tmps.getD a.d undef))[j]? = some b → ∃ a, A[j]? = some a ∧ b = blkOf (tmps.getD a.d undef) := fun j b h => by
    rw [List.getElem?_map] at h
    obtain ⟨a, ha, rfl⟩ := Option.map_eq_some_iff.1 h
    exact ⟨a, ha, rfl⟩
  refine ⟨A.map fun a => blkOf (tmps.getD a.d undef), ?_, ?_, ?_⟩
  · intro b hb
    obtain ⟨a, ha, rfl⟩ := List.mem_map.1 hb
    obtain ⟨b, Ls, h1, h2, h3, h4, h5⟩ := hP a ha
    rw [h1]
    exact h5
  · refine ⟨hT.1, fun i => ?_⟩
    have hi := hT.2 i
    rw [get_maskA] at hi
    rw [get_maskF]
    by_cases hf : ∃ a ∈ A, n + a.d = i
    · rw [if_pos hf]; simp only [R]
    · rw [if_neg hf]
      by_cases hs : ∃ a ∈ A, a.d = i
      · obtain ⟨a, ha, rfl⟩ := hs
        obtain ⟨j, hj⟩ := List.getElem?_of_mem ha
        rw [hS j a hj]
        obtain ⟨b, Ls, h1, h2, h3, h4, -⟩ := hP a ha
        simp only [R]
        refine ⟨b, ?_, h1⟩
        rw [List.getElem?_append_right (by rw [hH.len, hL]; omega), hH.len, hL, Nat.add_sub_cancel_left, List.getElem?_map, hj, Option.map_some, h1]
        rfl
      · rw [if_neg hs, if_neg hf] at hi
        exact R_mono _ _ hi
  · refine hH.grow (by simp) (fun _ _ _ _ _ _ => rfl) ?_ ?_ ?_
    · intro j b B h1 h2 _ i C h3 _ _
      obtain ⟨a, ha, rfl⟩ := hg j b h1
      obtain ⟨b, Ls, e1, e2, e3, e4, -⟩ := hP a (List.mem_of_getElem? ha)
      rw [e1] at h3
      exact e4 (List.mem_of_getElem? h3)
    · intro i j b B C h1 h2 _ _ _ _
      obtain ⟨a, ha, e1⟩ := hg i b h1
      obtain ⟨a', ha', e2⟩ := hg j b h2
      by_cases e : a.d = a'.d
      · exact hV.dist i j a a' ha ha' e
      · exact absurd (e1.symm.trans e2) (hD a (List.mem_of_getElem? ha) a' (List.mem_of_getElem? ha') e)
    · intro j B hB _
      rw [List.getElem?_map] at hB
      obtain ⟨a, ha, rfl⟩ := Option.map_eq_some_iff.1 hB
      obtain ⟨b, Ls, e1, e2, e3, e4, -⟩ := hP a (List.mem_of_getElem? ha)
      obtain ⟨o, _, _, _, _, _, hn⟩ := hV.mem a (List.mem_of_getElem? ha)
      exact ⟨b, _, by rw [List.getElem?_map, ha, Option.map_some, e1]; rfl, e2, ⟨Ls, rfl, RL_noPtr _ hn e3⟩, trivial⟩

theorem move_exec {o : Oper} {x : Nat} {T : Tab} {H : List AB} (h : o.op = .move (.tmp x)) : aexecD P env o T H = some (get T x, H) := by
  unfold aexecD aexec
  simp only [h, isMem, cond_false, apure]
  rfl
theorem put_tmps_ne {a : Act} {d : Option Tmp} {V : Value} {e : Nat} (h : d ≠ some e) : (a.put d V).tmps.getD e undef = a.tmps.getD e undef := by
  cases d with
  | none => rfl
  | some d =>
    have hne : d ≠ e := fun h' => h (by rw [h'])
    show (a.tmps.setIfInBounds d V).getD e undef = _
    simp [Array.getD_eq_getD_getElem?, Array.getElem?_setIfInBounds_ne hne]
theorem put_tmps_eq {a : Act} {d : Nat} {V : Value} (h : d < a.tmps.size) : (a.put (some d) V).tmps.getD d undef = V := by
  show (a.tmps.setIfInBounds d V).getD d undef = _
  simp [Array.getD_eq_getD_getElem?, h]
/-- Some blocks aren't made yet. -/
theorem v1_sound (hE : EnvOk P env) {L : Nat} {F : Foots} (hV : VOk P ops n L A F) (hF : F.length = ops.size) {Fin : Tab → List AB → Prop} {Q : Exit → Act → World → Prop} {m : List Nat} {w0 : World} {d0 : Act} : ∀ (fuel : Nat) (listed : Array Bool) (T : Tab) (H : List AB) (a : Act) (w : World),
    AnyA P env (ops.map (devirt n)) n F Fin fuel listed T (H ++ A.map vaBlk) → (∃ b ∈ A, listed.getD b.i true = false) → H.length = L → TR m n (maskA n A T) a.tmps → HR m H w →
    (∀ j b, A[j]? = some b → get T (n + b.d) = .ptr (L + j) 0) → (∀ j b, A[j]? = some b → listed.getD b.i true = true → get T b.d = .ptr (L + j) 0) → (∀ b ∈ A, listed.getD b.i true = true → Pend m a.tmps w0 w b) →
    (∀ b ∈ A, ∀ c ∈ A, listed.getD b.i true = true → listed.getD c.i true = true → b.d ≠ c.d → blkOf (a.tmps.getD b.d undef) ≠ blkOf (a.tmps.getD c.d undef)) → listed.size = ops.size → (∀ b ∈ m, b < w.heap.size) → Ext m w0 m w → a.defers = d0.defers →
    (∀ T' H' a' m' w', TR m' n (maskF n A T') a'.tmps → HR m' H' w' → Ext m w0 m' w' → a'.defers = d0.defers → Fin T' H' → Q .normal a' w') → wpAny P .any ops Q fuel listed a w := by
  intro fuel
  have rdy : ∀ (listed : Array Bool), (∃ b ∈ A, listed.getD b.i true = false) → ∃ i, i ∈ Region.ready .any ops listed := by
    rintro listed ⟨b, hb, hbl⟩
    obtain ⟨o, ho, hop, -⟩ := hV.mem b hb
    obtain ⟨-, hna⟩ := hV.all b.i o ho (by rw [hop]; rfl)
    exact ⟨b.i, mem_ready.2 ⟨hbl, o, ho, fun e he => absurd he (hna e)⟩⟩
  induction fuel with
  | zero =>
    intro listed T H a w h hls
    obtain ⟨i, hi⟩ := rdy listed hls
    have h1 := (ready_devirt (n := n)).2 hi
    rw [h.1] at h1
    cases h1
  | succ fuel ih =>
    intro listed T H a w h hls hL hT hH hS hS2 hP hD hsz hm hx0 hdef hQ
    refine ⟨fun h0 => ?_, fun i hi => ?_⟩
    · obtain ⟨i, hi⟩ := rdy listed hls
      rw [h0] at hi; cases hi
    obtain ⟨T', H1, ⟨o', f, v, e1, e2, hd, hl, ht⟩, hA⟩ := h.2 i (ready_devirt.2 hi)
    obtain ⟨hun, o, ho, haft⟩ := mem_ready.1 hi
    have hg := hV.grd i o ho
    have hilt : i < ops.size := (Array.getElem?_eq_some_iff.1 ho).1
    rw [devirt_get, ho] at e1
    simp only [Option.map_some, Option.some.injEq] at e1
    have lset : ∀ k, k ≠ i → (listed.setIfInBounds i true).getD k true = listed.getD k true := fun k hk => getD_set_ne true (Ne.symm hk)
    have lseti : (listed.setIfInBounds i true).getD i true = true := by
      simp [hsz, hilt]
    cases hal : isAllocB o.op with
    | false =>
      rw [devirt_not n hal] at e1
      subst e1
      obtain ⟨hdst, hlk, hor⟩ := hV.oth i o f ho e2 hal
      obtain ⟨b0, hb0, hb0l⟩ := hls
      have hor : (∀ t ∈ o.looksAt ops, ∀ a ∈ A, a.d ≠ t) ∧ lowF L f = true := by
        rcases hor with hor | hor
        · obtain ⟨e, he, hb, hn⟩ := hor b0 hb0
          have := haft e he hb
          rw [hn, getD_both' hb0l] at this; cases this
        · exact hor
      have hag : Agree (ops.map (devirt n)) o T (maskA n A T) := fun t ht' => by
        rw [looksAt_devirt hV.grd hg] at ht'
        rw [get_maskA, if_neg (by rintro ⟨c, hc, e⟩; exact hor.1 t ht' c hc e), if_neg (by rintro ⟨c, hc, e⟩; exact absurd (hlk t ht') (Nat.not_lt.2 (by rw [← e]; exact Nat.le_add_right n c.d)))]
      obtain ⟨H2, hx, rfl, hlen⟩ := hl.less hg hag (by rw [hL]; exact hor.2)
      have hni : ∀ c ∈ A, c.i ≠ i := fun c hc e => by
        obtain ⟨o2, ho2, hop2, -⟩ := hV.mem c hc
        rw [e, ho] at ho2
        cases ho2
        rw [hop2] at hal; cases hal
      unfold wpOp
      simp only [ho]
      rw [if_pos (by simp [Region.wanted, hg])]
      refine .inl (aexec_ok (dcD_DC hE) hT hH hx fun v' H'' V m' w' hv hH' hEx hK => ?_)
      cases hK
      have hmm : m' = m := hEx.same_len hH hH' hlen
      subst hmm
      have hmt : Teq (maskA n A T') (putT o.dst v (maskA n A T)) := by
        haveI : DecidablePred fun i => (∃ a ∈ A, a.d = i) ∨ (∃ a ∈ A, n + a.d = i) := fun i => Classical.propDecidable _
        refine mask_put (M := maskA n A) (S := fun i => (∃ a ∈ A, a.d = i) ∨ (∃ a ∈ A, n + a.d = i)) (fun T i => ?_) ht fun e he => ?_
        · rw [get_maskA]
          by_cases q1 : ∃ a ∈ A, a.d = i
          · rw [if_pos q1, if_pos (.inl q1)]
          · rw [if_neg q1]
            by_cases q2 : ∃ a ∈ A, n + a.d = i
            · rw [if_pos q2, if_pos (.inr q2)]
            · rw [if_neg q2, if_neg (by rintro (q | q); exact q1 q; exact q2 q)]
        · rintro (⟨c, hc, e3⟩ | ⟨c, hc, e3⟩)
          · exact (hdst e he).2 c hc e3
          · have h5 : e < n := (hdst e he).1
            have h6 : n ≤ e := by rw [← e3]; exact Nat.le_add_right n c.d
            exact absurd h5 (Nat.not_lt.2 h6)
      have hdne : ∀ c ∈ A, o.dst ≠ some c.d := fun c hc e => (hdst _ e).2 c hc rfl
      refine ih _ T' H2 _ w' hA ⟨b0, hb0, by rw [lset _ (hni b0 hb0)]; exact hb0l⟩ (by rw [hlen, hL]) ((hT.putT hd hv).teq hmt) hH' ?_ ?_ ?_ ?_ (by simp [hsz]) (fun b hb => Nat.lt_of_lt_of_le (hm b hb) hEx.size) (hx0.trans hEx) ((put_defers _ _ _).trans hdef) hQ
      · intro j c hc
        rw [ht, get_putT, if_neg (fun e => absurd (hdst _ e).1 (Nat.not_lt.2 (Nat.le_add_right n c.d)))]
        exact hS j c hc
      · intro j c hc hcl
        rw [lset _ (hni c (List.mem_of_getElem? hc))] at hcl
        rw [ht, get_putT, if_neg (hdne c (List.mem_of_getElem? hc))]
        exact hS2 j c hc hcl
      · intro c hc hcl
        rw [lset _ (hni c hc)] at hcl
        obtain ⟨b, Ls, p1, p2, p3, p4, p5⟩ := hP c hc hcl
        refine ⟨b, Ls, by rw [put_tmps_ne (hdne c hc)]; exact p1, ?_, p3, p4, p5⟩
        rw [hEx.block b (Array.getElem?_eq_some_iff.1 p2).1 p4]; exact p2
      · intro b hb c hc hbl hcl hne
        rw [lset _ (hni b hb)] at hbl
        rw [lset _ (hni c hc)] at hcl
        rw [put_tmps_ne (hdne b hb), put_tmps_ne (hdne c hc)]
        exact hD b hb c hc hbl hcl hne
    | true =>
      obtain ⟨⟨b, hb, rfl⟩, -⟩ := hV.all i o ho hal
      obtain ⟨o2, ho2, hop, hod, hoc, hdn, hnp⟩ := hV.mem b hb
      rw [ho] at ho2
      cases ho2
      obtain ⟨j, hj⟩ := List.getElem?_of_mem hb
      have hdv : o' = { o with op := .move (.tmp (n + b.d)) } := by
        rw [← e1]
        unfold devirt
        rw [hop, hod]
      have hdst' : o'.dst = some b.d := by rw [hdv]; exact hod
      have hex : (v, H1) = (AV.ptr (L + j) 0, H ++ A.map vaBlk) := by
        rcases hl with ⟨_, _, hx⟩ | ⟨hw, _⟩
        · rw [move_exec (x := n + b.d) (by rw [hdv]), hS j b hj] at hx
          exact (Option.some.inj hx).symm
        · rw [hdv] at hw
          simp [wantedA, hg] at hw
      obtain ⟨rfl, rfl⟩ := Prod.mk.inj hex
      obtain ⟨z, hz, hc⟩ := Option.bind_eq_some_iff.1 hoc
      obtain ⟨Z, hZ, hRZ⟩ := run_zeroA hz ([] : List Nat)
      have hcl := R_cells hRZ hc
      have hrun : (execOp a.eval o).run P w = .ok (.value (.pointer (some ⟨w.heap.size, 0, none⟩))) { w with heap := w.heap.push (.cells Z.cells b.t) } := by
        simp [execOp, hop, Instr.alloc, hZ, newVar, newRow, newObj, Sem.run]
      unfold wpOp
      simp only [ho]
      rw [if_pos (by simp [Region.wanted, hg])]
      refine .inl ?_
      unfold Oper.wp
      rw [hrun]
      generalize hw' : ({ w with heap := w.heap.push (.cells Z.cells b.t) } : World) = w'
      have hsame : ∀ k, k < w.heap.size → w'.heap[k]? = w.heap[k]? := fun k hk => by
        rw [← hw']
        show (w.heap.push _)[k]? = _
        rw [Array.getElem?_push, if_neg (by omega)]
      have hnew : w'.heap[w.heap.size]? = some (.cells Z.cells b.t (0, 0)) := by
        rw [← hw']
        show (w.heap.push _)[w.heap.size]? = _
        rw [Array.getElem?_push, if_pos rfl]
      have hsize : w.heap.size ≤ w'.heap.size := by rw [← hw']; simp
      have hExt : Ext m w m w' := ⟨⟨[], by simp⟩, by rw [← hw'], by rw [← hw'], by rw [← hw'], hsize, fun k hk _ => hsame k hk⟩
      have hHw : HR m H w' := hH.same hsame
      have hT2 : TR m n (maskA n A T') (a.put o.dst (.pointer (some ⟨w.heap.size, 0, none⟩))).tmps := by
        rw [hod]
        refine ⟨by show (a.tmps.setIfInBounds _ _).size = n; simp [hT.1], fun k => ?_⟩
        by_cases hk : b.d = k
        · subst hk
          rw [get_maskA, if_pos ⟨b, hb, rfl⟩]; simp only [R]
        · rw [put_tmps_ne (fun e => hk (Option.some.inj e))]
          have := hT.2 k
          rw [get_maskA] at this ⊢
          rw [ht k, get_putT, hdst', if_neg (fun e => hk (Option.some.inj e))]
          exact this
      have hS' : ∀ j b, A[j]? = some b → get T' (n + b.d) = .ptr (L + j) 0 := fun j' c hc' => by
        rw [ht, get_putT, hdst', if_neg (fun e => by have := Option.some.inj e; omega)]
        exact hS j' c hc'
      have hSd : ∀ j' c, A[j']? = some c → (listed.setIfInBounds b.i true).getD c.i true = true → get T' c.d = .ptr (L + j') 0 := fun j' c hc' hl' => by
        rw [ht, get_putT, hdst']
        by_cases hcd : b.d = c.d
        · have : j = j' := hV.dist j j' b c hj hc' hcd
          subst this
          rw [if_pos (by rw [hcd])]
        · rw [if_neg (fun e => hcd (Option.some.inj e))]
          have hci : c.i ≠ b.i := fun e => by
            obtain ⟨o3, ho3, _, hod3, _⟩ := hV.mem c (List.mem_of_getElem? hc')
            rw [e, ho] at ho3
            cases ho3
            rw [hod] at hod3
            exact hcd (Option.some.inj hod3)
          rw [lset _ hci] at hl'
          exact hS2 j' c hc' hl'
      have hcne : ∀ c ∈ A, b.d ≠ c.d → c.i ≠ b.i := fun c hc' hcd e => by
        obtain ⟨o3, ho3, _, hod3, _⟩ := hV.mem c hc'
        rw [e, ho] at ho3
        cases ho3
        rw [hod] at hod3
        exact hcd (Option.some.inj hod3)
      have hbsz : b.d < a.tmps.size := by rw [hT.1]; exact hdn
      have hnewP : Pend m (a.put o.dst (.pointer (some ⟨w.heap.size, 0, none⟩))).tmps w0 w' b :=
        ⟨w.heap.size, Z.cells.toList, by rw [hod]; exact put_tmps_eq hbsz, hnew, hcl, fun h => Nat.lt_irrefl _ (hm _ h), hx0.size⟩
      have same_c : ∀ c ∈ A, b.d = c.d → c = b := fun c hc' hcd => by
        obtain ⟨j', hj'⟩ := List.getElem?_of_mem hc'
        have := hV.dist j j' b c hj hj' hcd
        subst this
        rw [hj] at hj'; exact (Option.some.inj hj').symm
      have hP' : ∀ c ∈ A, (listed.setIfInBounds b.i true).getD c.i true = true → Pend m (a.put o.dst (.pointer (some ⟨w.heap.size, 0, none⟩))).tmps w0 w' c := fun c hc' hl' => by
        by_cases hcd : b.d = c.d
        · rw [same_c c hc' hcd]; exact hnewP
        · rw [lset _ (hcne c hc' hcd)] at hl'
          obtain ⟨b', Ls, p1, p2, p3, p4, p5⟩ := hP c hc' hl'
          refine ⟨b', Ls, by rw [hod, put_tmps_ne (fun e => hcd (Option.some.inj e))]; exact p1, ?_, p3, p4, p5⟩
          rw [hsame b' (Array.getElem?_eq_some_iff.1 p2).1]; exact p2
      have blkn : ∀ c ∈ A, b.d ≠ c.d → (listed.setIfInBounds b.i true).getD c.i true = true → blkOf ((a.put o.dst (.pointer (some ⟨w.heap.size, 0, none⟩))).tmps.getD c.d undef) ≠ w.heap.size := fun c hc' hcd hl' => by
        rw [lset _ (hcne c hc' hcd)] at hl'
        obtain ⟨b', Ls, p1, p2, p3, p4, p5⟩ := hP c hc' hl'
        rw [hod, put_tmps_ne (fun e => hcd (Option.some.inj e)), p1]
        have := (Array.getElem?_eq_some_iff.1 p2).1
        show b' ≠ _
        omega
      have blkb : blkOf ((a.put o.dst (.pointer (some ⟨w.heap.size, 0, none⟩))).tmps.getD b.d undef) = w.heap.size := by
        rw [hod, put_tmps_eq hbsz]; rfl
      have hD' : ∀ c ∈ A, ∀ e ∈ A, (listed.setIfInBounds b.i true).getD c.i true = true → (listed.setIfInBounds b.i true).getD e.i true = true → c.d ≠ e.d → blkOf ((a.put o.dst (.pointer (some ⟨w.heap.size, 0, none⟩))).tmps.getD c.d undef) ≠ blkOf ((a.put o.dst (.pointer (some ⟨w.heap.size, 0, none⟩))).tmps.getD e.d undef) := fun c hc' e he' hlc hle hne => by
        by_cases hcd : b.d = c.d
        · have := same_c c hc' hcd
          subst this
          rw [blkb]
          exact Ne.symm (blkn e he' hne hle)
        · by_cases hed : b.d = e.d
          · have := same_c e he' hed
            subst this
            rw [blkb]
            exact blkn c hc' hcd hlc
          · rw [lset _ (hcne c hc' hcd)] at hlc
            rw [lset _ (hcne e he' hed)] at hle
            rw [hod, put_tmps_ne (fun e => hcd (Option.some.inj e)), put_tmps_ne (fun e => hed (Option.some.inj e))]
            exact hD c hc' e he' hlc hle hne
      by_cases hall : ∃ c ∈ A, (listed.setIfInBounds b.i true).getD c.i true = false
      · exact ih _ T' H _ w' hA hall hL hT2 hHw hS' hSd hP' hD' (by simp [hsz]) (fun x hx => Nat.lt_of_lt_of_le (hm x hx) hsize) (hx0.trans hExt) ((put_defers _ _ _).trans hdef) hQ
      · have hlall : ∀ c ∈ A, (listed.setIfInBounds b.i true).getD c.i true = true := fun c hc' => by
          cases hq : (listed.setIfInBounds b.i true).getD c.i true with
          | true => rfl
          | false => exact absurd ⟨c, hc', hq⟩ hall
        obtain ⟨x, hx1, hx2, hx3⟩ := number_all hV hL hT2 hHw (fun j' c hc' => hSd j' c hc' (hlall c (List.mem_of_getElem? hc'))) (fun c hc' => hP' c hc' (hlall c hc')) (fun c hc' e he' hne => hD' c hc' e he' (hlall c hc') (hlall e he') hne)
        have hx0' := hx0.trans hExt
        have hExtN : Ext m w0 (m ++ x) w' := ⟨⟨x, rfl, fun b hb => .inl (hx1 b hb)⟩, hx0'.os, hx0'.tape, hx0'.output, hx0'.size, hx0'.block⟩
        have hlall' : ∀ c ∈ A, (listed.setIfInBounds b.i true).getD c.i false = true := fun c hc' => by
          obtain ⟨o3, ho3, _⟩ := hV.mem c hc'
          have hlt : c.i < (listed.setIfInBounds b.i true).size := by simp [hsz]; exact (Array.getElem?_eq_some_iff.1 ho3).1
          have := hlall c hc'
          simp only [Array.getD_eq_getD_getElem?, Array.getElem?_eq_getElem hlt, Option.getD_some] at this ⊢
          exact this
        exact v2_sound hE hV hF fuel _ T' _ (m ++ x) _ w' hA hlall' hx2 hx3 fun T3 H3 a3 m3 w3 q1 q2 q3 q4 q5 => hQ T3 H3 a3 m3 w3 q1 q2 (hExtN.trans q3) (q4.trans ((put_defers _ _ _).trans hdef)) q5
/-- A region that draws its order and makes more than one block. -/
theorem aopsV_ok {ρ : Type} (hE : EnvOk P env) {K : Tab → List AB → Option ρ} {r : ρ} {T : Tab} {H : List AB} (hlen : Nat.ble 2 (vasOf P 0 ops.toList).length = true) (h : aopsV P env ops n (vasOf P 0 ops.toList) T H K = some r)
    {m : List Nat} {a : Act} {w : World} {Q : Exit → Act → World → Prop} {id : Nat} (hm : P.follows .mixedOrders = true) (hT : TR m n T a.tmps) (hH : HR m H w)
    (hQ : ∀ T' H' a' m' w', TR m' n T' a'.tmps → HR m' H' w' → Ext m w m' w' → a'.defers = a.defers → K T' H' = some r → Q .normal a' w') : (Code.region id ops true).wp P Q a w := by
  unfold aopsV at h
  cases hb : (distB (vasOf P 0 ops.toList) && (vasOf P 0 ops.toList).all (fun a => Nat.ble (a.d + 1) n && AV.noPtrL a.l) && H.all AB.live && lexOk (ops.map (devirt n)) ops.size 0 (Array.replicate ops.size false)) with
  | false => rw [hb] at h; cases h
  | true =>
    rw [hb] at h
    simp only [Bool.and_eq_true] at hb
    obtain ⟨⟨⟨hb1, hb2⟩, hb3⟩, hb4⟩ := hb
    simp only [cond_true] at h
    obtain ⟨F, e1, _, ⟨e2, e3⟩, e4⟩ := aopsO_lex (ops := ops.map (devirt n)) (ops.map (devirt n)).toList 0 _ _ [] (by simp) (by simp) rfl h
    have hF : F.length = ops.size := by rw [e1]; simp
    have hV := vok_of hb1 hb2 e2
    have hne : ∃ b ∈ vasOf P 0 ops.toList, True := by
      cases hA : vasOf P 0 ops.toList with
      | nil => rw [hA] at hlen; simp at hlen
      | cons b A => exact ⟨b, List.mem_cons_self .., trivial⟩
    generalize vasOf P 0 ops.toList = A at *
    have hA := anyA_lex (P := P) (env := env) (n := n) e1 (ops.map (devirt n)).toList 0 (Array.replicate ops.size false) _ _ (by simp) (by simpa using hb4) (by simpa using e3)
      (fun j _ => by rcases Nat.lt_or_ge j ops.size with h | h <;> simp [h]) (fun j hj => by omega) e4
    have hwD : HR m H { w with drawn := w.drawn + 1 } := hH.drewN 1
    have hxD : Ext m w m { w with drawn := w.drawn + 1 } := ⟨⟨[], by simp⟩, rfl, rfl, rfl, Nat.le_refl _, fun _ _ _ => rfl⟩
    have lst : ∀ c ∈ A, (Array.replicate ops.size false).getD c.i true = false := fun c hc => by
      obtain ⟨o, ho, _⟩ := hV.mem c hc
      have := (Array.getElem?_eq_some_iff.1 ho).1
      simp [this]
    have hml : ∀ b ∈ m, b < w.heap.size := fun b hb => by
      obtain ⟨i, hi⟩ := List.getElem?_of_mem hb
      have hlt : i < H.length := by rw [← hH.len]; exact (List.getElem?_eq_some_iff.1 hi).1
      have hl := List.all_eq_true.1 hb3 _ (List.getElem_mem hlt)
      exact hH.lt hi (List.getElem?_eq_getElem hlt) hl
    have hTm : TR m n (maskA n A (slotsOf n H.length A ++ T)) a.tmps := ⟨hT.1, fun i => by
      rw [get_maskA]
      by_cases q1 : ∃ c ∈ A, c.d = i
      · rw [if_pos q1]; simp only [R]
      · rw [if_neg q1]
        by_cases q2 : ∃ c ∈ A, n + c.d = i
        · rw [if_pos q2]; simp only [R]
        · rw [if_neg q2, slotsOf_other T A _ fun c hc e => q2 ⟨c, hc, e⟩]; exact hT.2 i⟩
    refine wp_region_any hm ?_
    have := v1_sound (Q := Q) (w0 := w) (d0 := a) hE hV hF (ops.map (devirt n)).toList.length (Array.replicate ops.size false) (slotsOf n H.length A ++ T) H a { w with drawn := w.drawn + 1 } hA (by obtain ⟨b, hb, _⟩ := hne; exact ⟨b, hb, lst b hb⟩) rfl hTm hwD
      (fun j b hj => slotsOf_get T A H.length j b hj hV.dist) (fun j b hj hl => by rw [lst b (List.mem_of_getElem? hj)] at hl; cases hl) (fun b hb hl => by rw [lst b hb] at hl; cases hl) (fun b hb c hc hl => by rw [lst b hb] at hl; cases hl) (by simp) hml hxD rfl
      fun T' H' a' m' w' q1 q2 q3 q4 ⟨Tl, t1, t2⟩ => hQ _ H' a' m' w' (q1.teq fun i => by rw [get_maskF, get_maskF, t1 i]) q2 q3 q4 t2
    simpa using this
#print axioms aopsV_ok
end
end Go.Proofs.Ytlkclpkpggapbaa.Ae
