/- Arguments that are structs and arrays of numbers, bools and strings, without memory: how they are opened, and that they read as they did. Conditions: none. -/
import Derived.Test.YtlkclpkpggapbaaRow
namespace Go.Proofs.Ytlkclpkpggapbaa.Row
open Go Go.Proofs.Ytlkclpkpggapbaa.Ae Go.RowKit Go.ChangeShapes Go.WideShapes

/-- No memory in it. -/
def flatT (P : Program) : Nat → TypeId → Bool
  | 0, _ => false
  | n + 1, t =>
    match P.underlying t with
    | some .bool | some (.int _) | some .string => true
    | some (.struct fs) => fs.toList.all fun f => flatT P n f.type
    | some (.array _ e) => flatT P n e
    | _ => false

section
variable {H : Type} {enc : TypeId × Value → H} {P : Program}

theorem mapM_some {α β : Type} {f : α → Option β} : ∀ {l : List α} {xs : List β}, l.mapM f = some xs → ∀ x ∈ xs, ∃ a ∈ l, f a = some x
  | [], xs, h => by simp at h; subst h; intro x hx; cases hx
  | a :: l, xs, h => by
    simp only [List.mapM_cons, Option.bind_eq_bind, Option.bind_eq_some_iff, Option.pure_def, Option.some.injEq] at h
    obtain ⟨b, hb, ys, hys, rfl⟩ := h
    intro x hx
    rcases List.mem_cons.1 hx with rfl | hx
    · exact ⟨a, by simp, hb⟩
    · obtain ⟨a', h1, h2⟩ := mapM_some hys x hx
      exact ⟨a', by simp [h1], h2⟩
theorem mapM_congr {α β : Type} {f g : α → Option β} : ∀ {l : List α} {xs : List β}, l.mapM f = some xs → (∀ a ∈ l, ∀ x, f a = some x → g a = some x) → l.mapM g = some xs
  | [], xs, h, _ => by simpa using h
  | a :: l, xs, h, hc => by
    simp only [List.mapM_cons, Option.bind_eq_bind, Option.bind_eq_some_iff, Option.pure_def, Option.some.injEq] at h ⊢
    obtain ⟨b, hb, ys, hys, rfl⟩ := h
    exact ⟨b, hc a (by simp) b hb, ys, mapM_congr hys (fun a' ha' => hc a' (by simp [ha'])), rfl⟩

theorem trod_flat {w : World} {base : Nat} {spare : Nat → Bool} {held : Bool} : ∀ (k n : Nat) (t : TypeId) (cs : List Value) (x : DataW H × List MemPlace), flatT P k t = true → DataW.trod enc P w base spare held n t cs = some x →
    x.2 = [] ∧ ∀ (w' : World) (base' : Nat) (spare' : Nat → Bool) (held' : Bool), DataW.trod enc P w' base' spare' held' n t cs = some x
  | 0, _, _, _, _, hf, _ => by simp [flatT] at hf
  | k + 1, 0, t, cs, x, _, h => by simp [DataW.trod] at h
  | k + 1, n + 1, t, cs, x, hf, h => by
    simp only [flatT] at hf
    split at hf
    · rename_i hu
      obtain ⟨b, rfl, rfl⟩ := DataW.trod_bool hu h
      exact ⟨rfl, fun _ _ _ _ => by unfold DataW.trod; rw [hu]⟩
    · rename_i kk hu
      obtain ⟨z, rfl, rfl, hw⟩ := DataW.trod_int hu h
      exact ⟨rfl, fun _ _ _ _ => by unfold DataW.trod; rw [hu]; simp [hw]⟩
    · rename_i hu
      obtain ⟨s, rfl, rfl, hs⟩ := DataW.trod_string hu h
      exact ⟨rfl, fun _ _ _ _ => by unfold DataW.trod; rw [hu]; simp [hs]⟩
    · rename_i fs hu
      have h0 := h
      unfold DataW.trod at h
      rw [hu] at h
      have key : ∀ (w : World) (base : Nat) (spare : Nat → Bool) (held : Bool), DataW.trod enc P w base spare held (n + 1) t cs = (if cs.length = P.cellsOf t then (fs.toList.mapM fun f => DataW.trod enc P w base spare held n f.type ((cs.drop f.offset).take (P.cellsOf f.type))).map fun xs => (.agg (xs.map (·.1)), xs.flatMap (·.2)) else none) := fun w base spare held => by
        conv => lhs; unfold DataW.trod
        rw [hu]
      rw [key] at h0
      split at h0
      · rename_i hlen
        obtain ⟨xs, hxs, rfl⟩ := Option.map_eq_some_iff.1 h0
        have ih : ∀ f ∈ fs.toList, ∀ y, DataW.trod enc P w base spare held n f.type ((cs.drop f.offset).take (P.cellsOf f.type)) = some y → y.2 = [] ∧ ∀ (w' : World) (base' : Nat) (spare' : Nat → Bool) (held' : Bool), DataW.trod enc P w' base' spare' held' n f.type ((cs.drop f.offset).take (P.cellsOf f.type)) = some y := fun f hfm y hy =>
          trod_flat k n f.type _ y (List.all_eq_true.1 hf f hfm) hy
        refine ⟨?_, fun w' base' spare' held' => ?_⟩
        · simp only [List.flatMap_eq_nil_iff]
          intro y hy
          obtain ⟨f, hfm, hfy⟩ := mapM_some hxs y hy
          exact (ih f hfm y hfy).1
        · rw [key, if_pos hlen, mapM_congr hxs (fun f hfm y hy => (ih f hfm y hy).2 w' base' spare' held')]; rfl
      · cases h0
    · rename_i len e hu
      have h0 := h
      have key : ∀ (w : World) (base : Nat) (spare : Nat → Bool) (held : Bool), DataW.trod enc P w base spare held (n + 1) t cs = (if cs.length = P.cellsOf t then ((List.range len).mapM fun i => DataW.trod enc P w base spare held n e ((cs.drop (i * P.cellsOf e)).take (P.cellsOf e))).map fun xs => (.agg (xs.map (·.1)), xs.flatMap (·.2)) else none) := fun w base spare held => by
        conv => lhs; unfold DataW.trod
        rw [hu]
      rw [key] at h0
      split at h0
      · rename_i hlen
        obtain ⟨xs, hxs, rfl⟩ := Option.map_eq_some_iff.1 h0
        have ih : ∀ (i : Nat) y, DataW.trod enc P w base spare held n e ((cs.drop (i * P.cellsOf e)).take (P.cellsOf e)) = some y → y.2 = [] ∧ ∀ (w' : World) (base' : Nat) (spare' : Nat → Bool) (held' : Bool), DataW.trod enc P w' base' spare' held' n e ((cs.drop (i * P.cellsOf e)).take (P.cellsOf e)) = some y := fun i y hy =>
          trod_flat k n e _ y hf hy
        refine ⟨?_, fun w' base' spare' held' => ?_⟩
        · simp only [List.flatMap_eq_nil_iff]
          intro y hy
          obtain ⟨i, _, hfy⟩ := mapM_some hxs y hy
          exact (ih i y hfy).1
        · rw [key, if_pos hlen, mapM_congr hxs (fun i _ y hy => (ih i y hy).2 w' base' spare' held')]; rfl
      · cases h0
    · cases hf

/-- What stands in the cells. -/
inductive CK where
  | int (k : IntKind)
  | bool
  | str
def kindT (P : Program) (t : TypeId) : Option CK :=
  match P.underlying t with
  | some (.int k) => some (.int k)
  | some .bool => some .bool
  | some .string => some .str
  | _ => none
def Match : List CK → List Value → Prop
  | [], vs => vs = []
  | .int k :: ks, vs => ∃ n vs', vs = .int k n :: vs' ∧ (Lit.int k n).wf = true ∧ Match ks vs'
  | .bool :: ks, vs => ∃ b vs', vs = .bool b :: vs' ∧ Match ks vs'
  | .str :: ks, vs => ∃ s vs', vs = .string s :: vs' ∧ Match ks vs'
def kindsL (P : Program) : List TypeId → Option (List CK)
  | [] => some []
  | t :: ts =>
    match kindT P t, kindsL P ts with
    | some k, some ks => some (k :: ks)
    | _, _ => none

theorem match_ok {w : World} {r : Reach} {base : Nat} : ∀ {ts : List TypeId} {ks : List CK} {l : List Value}, kindsL P ts = some ks → l.length = ts.length → (∀ (i : Nat) v, l[i]? = some v → ∃ u, ts[i]? = some u ∧ Cell.okWide P w r base u v) → Match ks l
  | [], ks, l, h, hl, _ => by
    simp [kindsL] at h; subst h
    simp at hl
    simpa [Match] using hl
  | t :: ts, ks, l, h, hl, hok => by
    match l, hl with
    | v :: l, hl =>
      simp only [kindsL] at h
      split at h
      · rename_i k ks' hk hks
        cases h
        have hrest := match_ok (w := w) (r := r) (base := base) hks (by simpa using hl) (l := l) (fun i v' hv => by
          have := hok (i + 1) v' (by simpa using hv)
          simpa using this)
        obtain ⟨u, hu, hc⟩ := hok 0 v rfl
        simp at hu
        subst hu
        unfold kindT at hk
        split at hk
        · rename_i kk hun
          cases hk
          simp only [Cell.okWide, hun] at hc
          cases v <;> simp only [Cell.ok, hun] at hc <;> try (exact hc.elim)
          rename_i k' n
          have hh : k' = kk ∧ kk.has n = true := by simpa [Cell.ok, hun] using hc
          obtain ⟨rfl, hn⟩ := hh
          exact ⟨n, l, rfl, by simpa [Lit.wf, IntKind.has] using hn, hrest⟩
        · rename_i hun
          cases hk
          simp only [Cell.okWide, hun] at hc
          cases v <;> simp only [Cell.ok, hun] at hc <;> try (exact hc.elim)
          rename_i b
          exact ⟨b, l, rfl, hrest⟩
        · rename_i hun
          cases hk
          simp only [Cell.okWide, hun] at hc
          cases v <;> simp only [Cell.ok, hun] at hc <;> try (exact hc.elim)
          rename_i s
          exact ⟨s, l, rfl, hrest⟩
        · cases hk
      · cases h

def isAggT (P : Program) (t : TypeId) : Bool :=
  match P.underlying t with
  | some (.struct _) | some (.array _ _) => true
  | _ => false
/-- An aggregate without memory: its cells. -/
theorem open_flat {w : World} {r : Reach} {b0 base : Nat} {spare : Nat → Bool} {held : Bool} {t : TypeId} {v : Value} {d : DataW H} {ps : List MemPlace} {ts : List TypeId} {ks : List CK} (hagg : isAggT P t = true) (hfl : flatT P 30 t = true)
    (hts : P.cellTypes P.depth t = some ts) (hlen : P.cellsOf t = ts.length) (hks : kindsL P ts = some ks)
    (hval : Value.okWide P w r b0 t v) (h : DataW.Trod enc P w base spare held t v d ps) :
    ∃ cs, v = .agg ⟨cs⟩ ∧ Match ks cs ∧ ps = [] ∧ ∀ (w' : World) (base' : Nat) (spare' : Nat → Bool) (held' : Bool), DataW.Trod enc P w' base' spare' held' t v d [] := by
  obtain ⟨n, hn⟩ := h
  obtain ⟨h1, h2⟩ := trod_flat 30 n t _ _ hfl hn
  simp only at h1
  subst h1
  have hv : ∃ cs, v = .agg cs ∧ cs.size = P.cellsOf t ∧ Row.okWide P w r b0 t cs := by
    unfold isAggT at hagg
    unfold Value.okWide at hval
    split at hagg
    · rename_i fs hu; rw [hu] at hval; exact hval
    · rename_i n e hu; rw [hu] at hval; exact hval
    · cases hagg
  obtain ⟨cs, rfl, hsz, ts', hts', hn', hok⟩ := hv
  rw [hts] at hts'
  cases hts'
  refine ⟨cs.toList, rfl, match_ok (w := w) (r := r) (base := b0) hks (by simpa [hsz] using hlen) (fun i v hv => ?_), rfl, fun w' base' spare' held' => ⟨n, h2 w' base' spare' held'⟩⟩
  have hi : i < ts.length := by
    have := (List.getElem?_eq_some_iff.1 hv).1
    simp at this; omega
  obtain ⟨u, hu, hc⟩ := hok i v (by simpa using hv)
  rw [Nat.mod_eq_of_lt hi] at hu
  exact ⟨u, hu, hc⟩
end
#print axioms open_flat
end Go.Proofs.Ytlkclpkpggapbaa.Row
