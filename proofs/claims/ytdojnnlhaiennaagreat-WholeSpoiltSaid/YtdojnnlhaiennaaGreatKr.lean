/- An argument that holds a slice of steps: how it is opened. Conditions: none. -/
import Derived.Test.YtdojnnlhaiennaaGreatKq
import Derived.Test.YtdojnnlhaiennaaGreatKi
import Derived.SizedLaws
import Derived.Deep.SlicePairs
import Derived.Carry
namespace Go.Proofs.YtdojnnlhaiennaaGreat.Row
open Go Go.Proofs.YtdojnnlhaiennaaGreat.Ae Go.RowKit Go.ChangeShapes Go.WideShapes Go.Deep
open Go.Proofs.YtdojnnlhaiennaaGreat.Tp (rkP isRec)

section
variable {H : Type} {enc : TypeId × Value → H}
theorem weightsAll_mem {P : Program} {e : TypeId} : ∀ {ds : List (DataW H)} {d : DataW H} {n : Nat}, d ∈ ds → n ∈ d.weights P e → n ∈ DataW.weightsAll P e ds
  | [], _, _, h, _ => by cases h
  | c :: ds, d, n, h, hn => by
    simp only [DataW.weightsAll, List.mem_append]
    rcases List.mem_cons.1 h with rfl | h
    · exact .inl hn
    · exact .inr (weightsAll_mem h hn)
def intV : Value → Int
  | .int _ n => n
  | _ => 0
def strV : Value → ByteArray
  | .string s => s
  | _ => ⟨#[]⟩
set_option maxRecDepth 100000 in
theorem open_play {W : World} {b0 : Nat} {v : Value} {d : DataW H} {ps : List MemPlace} (hval : Value.okWide Tryz.prog W .any b0 24 v) (h : DataW.Trod enc Tryz.prog W 0 (fun _ => true) true 24 v d ps)
    (hw : ∀ n ∈ d.weights Tryz.prog 24, n ≤ reachBytes) :
    ∃ bg : Int, v = .agg ⟨[.int .i64 bg, .slice none 0 0]⟩ ∨ ∃ (b o n c : Nat) (ob : Obj) (rt : TypeId) (f : Nat → List AV), v = .agg ⟨[.int .i64 bg, .slice (some ⟨b, o, none⟩) n c]⟩ ∧ W.heap[b]? = some ob ∧ rkP n f = true ∧ ∀ m, RB m (.tabO ob o f 2 n rt) ob := by
  unfold Value.okWide at hval
  rw [Tryz.underlying24] at hval
  simp only at hval
  obtain ⟨cs, rfl, hsz, hrow⟩ := hval
  obtain ⟨fuel, ht⟩ := h
  have ht : DataW.trod enc Tryz.prog W 0 (fun _ => true) true fuel 24 cs.toList = some (d, ps) := ht
  obtain ⟨y0, y1, k, hx, hl, h0, h1⟩ := trod_struct2 Tryz.underlying24 ht
  have c2 : Tryz.prog.cellsOf 2 = 1 := by kernel_rfl
  have c22 : Tryz.prog.cellsOf 22 = 1 := by kernel_rfl
  have c24 : Tryz.prog.cellsOf 24 = 2 := by kernel_rfl
  rw [c24] at hl
  match hcs : cs.toList, hl with
  | [x0, x1], _ =>
    rw [hcs] at h0 h1
    simp only [c2, c22, List.drop_zero, List.take_succ_cons, List.take_zero, List.drop_succ_cons] at h0 h1
    obtain ⟨bg, e0, e0', _⟩ := DataW.trod_int Tryz.underlying2 h0
    simp only [List.cons.injEq, and_true] at e0
    subst e0
    have hcs' : cs = ⟨[.int .i64 bg, x1]⟩ := Array.toList_inj.1 hcs
    refine ⟨bg, ?_⟩
    rcases open_slice_pairs Tryz.underlying22 Tryz.underlying66 (by kernel_rfl) rfl rfl (by kernel_rfl) (by kernel_rfl) h1 with ⟨e1, _⟩ | ⟨a, len, cap, m, n', V0, V1, D0, D1, P0, P1, e1, hb, hle, hmax, hm, hy, hc⟩
    · simp only [List.cons.injEq, and_true] at e1
      subst e1
      exact .inl (by rw [hcs'])
    · simp only [List.cons.injEq, and_true] at e1
      subst e1
      simp only [if_true] at hm
      subst hm
      obtain ⟨ts, hts, _, hcell⟩ := hrow
      have hts' : Tryz.prog.cellTypes Tryz.prog.depth 24 = some [2, 22] := by kernel_rfl
      rw [hts'] at hts
      cases hts
      obtain ⟨u, hu, hok⟩ := hcell 1 (.slice (some a) len m) (by rw [hcs']; rfl)
      have hu : some 22 = some u := hu
      cases hu
      unfold Cell.okWide at hok
      rw [Tryz.underlying22] at hok
      simp only [Cell.ok] at hok
      rw [Tryz.underlying22] at hok
      simp only at hok
      obtain ⟨_, _, _, hspot, rt, cells, hshape, _⟩ := hok
      obtain ⟨b, o, sp⟩ := a
      simp only at hspot
      subst hspot
      simp only [World.shape?] at hshape
      split at hshape
      · rename_i carr el fz hheap
        have hwd : ∀ x ∈ (DataW.slice ((List.range len).map fun i => DataW.agg [D0 i, D1 i]) ((List.range (m - len)).map fun j => DataW.agg [D0 (len + j), D1 (len + j)])).weights Tryz.prog 22, x ≤ reachBytes := fun x hxm => by
          refine hw x ?_
          simp only [Prod.mk.injEq] at hx
          rw [hx.1, e0', hy]
          simp only [DataW.weights, Tryz.underlying24, List.map, DataW.weightsEach, List.nil_append, List.append_nil]
          simpa [DataW.weights] using hxm
        have hlen : len ≤ 140737488355328 := by
          have := hwd _ (by simp only [DataW.weights, Tryz.underlying22]; exact List.mem_cons_self ..)
          have hby : Tryz.prog.bytesOf 66 = 24 := by kernel_rfl
          rw [hby] at this
          have hr := reachBytes_lt
          simp only [List.length_map, List.length_range] at this
          omega
        have hV0 : ∀ i, i < len → V0 i = .int .i64 (intV (V0 i)) := fun i hi => by
          obtain ⟨q, hq, _, _⟩ := DataW.trod_int Tryz.underlying2 (hc i (by omega)).2.2.1
          simp only [List.cons.injEq, and_true] at hq
          rw [hq]; rfl
        have hV1 : ∀ i, i < len → V1 i = .string (strV (V1 i)) ∧ (strV (V1 i)).size ≤ 140737488355328 := fun i hi => by
          obtain ⟨s, hq, hq2, _⟩ := DataW.trod_string Tryz.underlying9 (hc i (by omega)).2.2.2
          simp only [List.cons.injEq, and_true] at hq
          simp only [Prod.mk.injEq] at hq2
          rw [hq]
          refine ⟨rfl, ?_⟩
          have hmem : s.data.toList.length ∈ (DataW.slice ((List.range len).map fun i => DataW.agg [D0 i, D1 i]) ((List.range (m - len)).map fun j => DataW.agg [D0 (len + j), D1 (len + j)])).weights Tryz.prog 22 := by
            simp only [DataW.weights, Tryz.underlying22]
            refine List.mem_cons_of_mem _ (List.mem_append_left _ (weightsAll_mem (d := .agg [D0 i, D1 i]) (List.mem_map.2 ⟨i, List.mem_range.2 hi, rfl⟩) ?_))
            simp only [DataW.weights, Tryz.underlying66, List.map, DataW.weightsEach]
            refine List.mem_append_right _ (List.mem_append_left _ ?_)
            rw [hq2.1]
            simp [DataW.weights]
          have := hwd _ hmem
          have hr := reachBytes_lt
          rw [Array.length_toList] at this
          show s.data.size ≤ _
          omega
        refine .inr ⟨b, o, len, m, _, el, fun i => [.int .i64 (intV (V0 i)), .str (strV (V1 i))], by rw [hcs'], hheap, ?_, fun mm => ⟨rfl, carr.toList, fz, rfl, fun i hi => ?_⟩⟩
        · unfold rkP
          rw [Nat.ble_eq_true_of_le hlen, Bool.true_and, List.all_eq_true]
          intro i hi
          exact Nat.ble_eq_true_of_le (hV1 i (List.mem_range.1 hi)).2
        · have g0 := (hc i (by omega)).1
          have g1 := (hc i (by omega)).2.1
          have ea : ∀ q, (⟨b, o, none⟩ : Addr).add q = ⟨b, o + q, none⟩ := fun q => addr_add _ _ _
          rw [ea, World.cell?, hheap] at g0 g1
          simp only [Option.isSome_none] at g0 g1
          have g0' : carr.toList[o + i * 2]? = some (V0 i) := by simpa using g0
          have g1' : carr.toList[o + i * 2 + 1]? = some (V1 i) := by simpa [Nat.add_assoc] using g1
          have l1 := (List.getElem?_eq_some_iff.1 g1').1
          refine ⟨by omega, rfl, ?_⟩
          have e : (carr.toList.drop (o + i * 2)).take 2 = [V0 i, V1 i] := by
            rw [List.drop_eq_getElem_cons (by omega), List.drop_eq_getElem_cons l1]
            rw [List.getElem?_eq_getElem (by omega)] at g0'
            rw [List.getElem?_eq_getElem l1] at g1'
            rw [Option.some.inj g0', Option.some.inj g1']
            rfl
          rw [e]
          exact RL.cons (by simp only [R]; exact hV0 i hi) (RL.cons (by simp only [R]; exact (hV1 i hi).1) (RL_nil.2 rfl))
      · cases hshape
end
end Go.Proofs.YtdojnnlhaiennaaGreat.Row

/- WholeOrders, of what came as its argument. Conditions: none. -/
namespace Go.Proofs.YtdojnnlhaiennaaGreat.Tp
open Go Go.Proofs.YtdojnnlhaiennaaGreat.Ae Go.Proofs.YtdojnnlhaiennaaGreat.Fx Go.RowKit Go.Proofs.YtdojnnlhaiennaaGreat.Row

/-- Old memory is as it was, where the one block that was known is known wholly. -/
theorem below_of {m : List Nat} {b : Nat} {w w' : World} {m' : List Nat} {ob : Obj} {o n : Nat} {rt : TypeId} {f : Nat → List AV} (hm : m = [b]) (hob : w.heap[b]? = some ob) (he : Ext m w m' w') (hh : HR m [.tabO ob o f 2 n rt] w') : Below w.heap.size w w' := by
  refine ⟨he.os, he.tape, he.output, he.size, fun k hk => ?_⟩
  by_cases hkb : k = b
  · subst hkb
    obtain ⟨b', o', h1, h2, h3, _⟩ := hh.all 0 _ rfl rfl
    rw [hm] at h1
    have h1 : some k = some b' := h1
    cases h1
    rw [h2, hob, h3.1]
  · exact he.block k hk (by rw [hm]; simpa using hkb)
theorem hr_one {b : Nat} {w : World} {ob : Obj} {o n : Nat} {rt : TypeId} {f : Nat → List AV} (hob : w.heap[b]? = some ob) (hR : ∀ m, RB m (.tabO ob o f 2 n rt) ob) : HR [b] [.tabO ob o f 2 n rt] w := by
  refine ⟨rfl, fun i j c B C h1 h2 _ _ _ _ => ?_, fun i B hB _ => ?_⟩
  · have a1 := (List.getElem?_eq_some_iff.1 h1).1
    have a2 := (List.getElem?_eq_some_iff.1 h2).1
    simp at a1 a2
    omega
  · cases i with
    | zero =>
      simp at hB
      subst hB
      exact ⟨b, ob, rfl, hob, hR [b], trivial⟩
    | succ i => simp at hB
end Go.Proofs.YtdojnnlhaiennaaGreat.Tp

/- WholeSpoilt, of what came as its arguments. Conditions: none. -/
namespace Go.Proofs.YtdojnnlhaiennaaGreat.Tp
open Go Go.Proofs.YtdojnnlhaiennaaGreat.Ae Go.Proofs.YtdojnnlhaiennaaGreat.Fx Go.RowKit Go.Proofs.YtdojnnlhaiennaaGreat.Row
open Go.Proofs.YtdojnnlhaiennaaGreat.Md (J)

theorem below_none {m' : List Nat} {w w' : World} (he : Ext [w.heap.size] w m' w') : Below w.heap.size w w' :=
  ⟨he.os, he.tape, he.output, he.size, fun k hk => he.block k hk (by simp; omega)⟩
theorem hr_dead (b : Nat) (w : World) : HR [b] [.dead] w := by
  refine ⟨rfl, fun i j c B C _ _ h3 _ h5 _ => ?_, fun i B hB hl => ?_⟩
  · cases i with
    | zero => simp at h3; subst h3; cases h5
    | succ i => simp at h3
  · cases i with
    | zero => simp at hB; subst hB; cases hl
    | succ i => simp at hB
theorem rl_two {m : List Nat} {v : Value} {p : AV} (h : R m p v) (k x y : Int) (d : ByteArray) :
    RL m [p, .agg [J k, .str d], .agg [J x, .int .u8 y]] (#[v, Value.agg ⟨[.int .i64 k, .string d]⟩, Value.agg ⟨[.int .i64 x, .int .u8 y]⟩] : Array Value).toList := by
  refine RL.cons h (RL.cons ?_ (RL.cons ?_ (RL_nil.2 rfl)))
  · simp only [R]
    exact ⟨_, rfl, RL.cons (by simp only [R]) (RL.cons (by simp only [R]) (RL_nil.2 rfl))⟩
  · simp only [R]
    exact ⟨_, rfl, RL.cons (by simp only [R]) (RL.cons (by simp only [R]) (RL_nil.2 rfl))⟩
theorem spoilt_walk {W : World} {v : Value} (k x y : Int) (d : ByteArray) (hy : 0 ≤ y ∧ y < 256)
    (hv : ∃ bg : Int, v = .agg ⟨[.int .i64 bg, .slice none 0 0]⟩ ∨ ∃ (b o n c : Nat) (ob : Obj) (rt : TypeId) (f : Nat → List AV), v = .agg ⟨[.int .i64 bg, .slice (some ⟨b, o, none⟩) n c]⟩ ∧ W.heap[b]? = some ob ∧ rkP n f = true ∧ ∀ m, RB m (.tabO ob o f 2 n rt) ob) :
    Calls Tryz.prog 4 #[v, .agg ⟨[.int .i64 k, .string d]⟩, .agg ⟨[.int .i64 x, .int .u8 y]⟩] W fun e w' => e = .returned (.bool true) ∧ Below W.heap.size W w' := by
  obtain ⟨bg, rfl | ⟨b, o, n, c, ob, rt, f, rfl, hob, hrk, hR⟩⟩ := hv
  · refine (spoilt_nil bg k x y d hy (m := [W.heap.size]) rfl (rl_two ?_ k x y d) (hr_dead _ W)).mono fun e w' ⟨h1, m', h2⟩ => ⟨h1, below_none h2⟩
    simp only [R]
    exact ⟨_, rfl, RL.cons (by simp only [R]) (RL.cons (by simp only [R]) (RL_nil.2 rfl))⟩
  · refine (spoilt_calls bg rt ob o n c f hrk k x y d hy (m := [b]) (rl_two ?_ k x y d) (hr_one hob hR)).mono fun e w' ⟨h1, m', h2, h3⟩ => ⟨h1, below_of rfl hob h2 h3⟩
    simp only [R]
    exact ⟨_, rfl, RL.cons (by simp only [R]) (RL.cons (by simp only [R]; exact ⟨b, rfl, rfl⟩) (RL_nil.2 rfl))⟩
end Go.Proofs.YtdojnnlhaiennaaGreat.Tp

/- Arguments that are structs and arrays of numbers, bools and strings, without memory: how they are opened, and that they read as they did. Conditions: none. -/
namespace Go.Proofs.YtdojnnlhaiennaaGreat.Row
open Go Go.Proofs.YtdojnnlhaiennaaGreat.Ae Go.RowKit Go.ChangeShapes Go.WideShapes

/-- No memory in it. -/
def flatT (P : Program) : Nat → TypeId → Bool
  | 0, _ => false
  | n + 1, t =>
    match P.underlying t with
    | some .bool | some (.int _) | some .string => true
    | some (.struct fs) => fs.toList.all fun f => flatT P n f.type
    | some (.array _ e) => flatT P n e
    | _ => false

section
variable {H : Type} {enc : TypeId × Value → H} {P : Program}

theorem mapM_some {α β : Type} {f : α → Option β} : ∀ {l : List α} {xs : List β}, l.mapM f = some xs → ∀ x ∈ xs, ∃ a ∈ l, f a = some x
  | [], xs, h => by simp at h; subst h; intro x hx; cases hx
  | a :: l, xs, h => by
    simp only [List.mapM_cons, Option.bind_eq_bind, Option.bind_eq_some_iff, Option.pure_def, Option.some.injEq] at h
    obtain ⟨b, hb, ys, hys, rfl⟩ := h
    intro x hx
    rcases List.mem_cons.1 hx with rfl | hx
    · exact ⟨a, by simp, hb⟩
    · obtain ⟨a', h1, h2⟩ := mapM_some hys x hx
      exact ⟨a', by simp [h1], h2⟩
theorem mapM_congr {α β : Type} {f g : α → Option β} : ∀ {l : List α} {xs : List β}, l.mapM f = some xs → (∀ a ∈ l, ∀ x, f a = some x → g a = some x) → l.mapM g = some xs
  | [], xs, h, _ => by simpa using h
  | a :: l, xs, h, hc => by
    simp only [List.mapM_cons, Option.bind_eq_bind, Option.bind_eq_some_iff, Option.pure_def, Option.some.injEq] at h ⊢
    obtain ⟨b, hb, ys, hys, rfl⟩ := h
    exact ⟨b, hc a (by simp) b hb, ys, mapM_congr hys (fun a' ha' => hc a' (by simp [ha'])), rfl⟩

theorem trod_flat {w : World} {base : Nat} {spare : Nat → Bool} {held : Bool} : ∀ (k n : Nat) (t : TypeId) (cs : List Value) (x : DataW H × List MemPlace), flatT P k t = true → DataW.trod enc P w base spare held n t cs = some x →
    x.2 = [] ∧ ∀ (w' : World) (base' : Nat) (spare' : Nat → Bool) (held' : Bool), DataW.trod enc P w' base' spare' held' n t cs = some x
  | 0, _, _, _, _, hf, _ => by simp [flatT] at hf
  | k + 1, 0, t, cs, x, _, h => by simp [DataW.trod] at h
  | k + 1, n + 1, t, cs, x, hf, h => by
    simp only [flatT] at hf
    split at hf
    · rename_i hu
      obtain ⟨b, rfl, rfl⟩ := DataW.trod_bool hu h
      exact ⟨rfl, fun _ _ _ _ => by unfold DataW.trod; rw [hu]⟩
    · rename_i kk hu
      obtain ⟨z, rfl, rfl, hw⟩ := DataW.trod_int hu h
      exact ⟨rfl, fun _ _ _ _ => by unfold DataW.trod; rw [hu]; simp [hw]⟩
    · rename_i hu
      obtain ⟨s, rfl, rfl, hs⟩ := DataW.trod_string hu h
      exact ⟨rfl, fun _ _ _ _ => by unfold DataW.trod; rw [hu]; simp [hs]⟩
    · rename_i fs hu
      have h0 := h
      unfold DataW.trod at h
      rw [hu] at h
      have key : ∀ (w : World) (base : Nat) (spare : Nat → Bool) (held : Bool), DataW.trod enc P w base spare held (n + 1) t cs = (if cs.length = P.cellsOf t then (fs.toList.mapM fun f => DataW.trod enc P w base spare held n f.type ((cs.drop f.offset).take (P.cellsOf f.type))).map fun xs => (.agg (xs.map (·.1)), xs.flatMap (·.2)) else none) := fun w base spare held => by
        conv => lhs; unfold DataW.trod
        rw [hu]
      rw [key] at h0
      split at h0
      · rename_i hlen
        obtain ⟨xs, hxs, rfl⟩ := Option.map_eq_some_iff.1 h0
        have ih : ∀ f ∈ fs.toList, ∀ y, DataW.trod enc P w base spare held n f.type ((cs.drop f.offset).take (P.cellsOf f.type)) = some y → y.2 = [] ∧ ∀ (w' : World) (base' : Nat) (spare' : Nat → Bool) (held' : Bool), DataW.trod enc P w' base' spare' held' n f.type ((cs.drop f.offset).take (P.cellsOf f.type)) = some y := fun f hfm y hy =>
          trod_flat k n f.type _ y (List.all_eq_true.1 hf f hfm) hy
        refine ⟨?_, fun w' base' spare' held' => ?_⟩
        · simp only [List.flatMap_eq_nil_iff]
          intro y hy
          obtain ⟨f, hfm, hfy⟩ := mapM_some hxs y hy
          exact (ih f hfm y hfy).1
        · rw [key, if_pos hlen, mapM_congr hxs (fun f hfm y hy => (ih f hfm y hy).2 w' base' spare' held')]; rfl
      · cases h0
    · rename_i len e hu
      have h0 := h
      have key : ∀ (w : World) (base : Nat) (spare : Nat → Bool) (held : Bool), DataW.trod enc P w base spare held (n + 1) t cs = (if cs.length = P.cellsOf t then ((List.range len).mapM fun i => DataW.trod enc P w base spare held n e ((cs.drop (i * P.cellsOf e)).take (P.cellsOf e))).map fun xs => (.agg (xs.map (·.1)), xs.flatMap (·.2)) else none) := fun w base spare held => by
        conv => lhs; unfold DataW.trod
        rw [hu]
      rw [key] at h0
      split at h0
      · rename_i hlen
        obtain ⟨xs, hxs, rfl⟩ := Option.map_eq_some_iff.1 h0
        have ih : ∀ (i : Nat) y, DataW.trod enc P w base spare held n e ((cs.drop (i * P.cellsOf e)).take (P.cellsOf e)) = some y → y.2 = [] ∧ ∀ (w' : World) (base' : Nat) (spare' : Nat → Bool) (held' : Bool), DataW.trod enc P w' base' spare' held' n e ((cs.drop (i * P.cellsOf e)).take (P.cellsOf e)) = some y := fun i y hy =>
          trod_flat k n e _ y hf hy
        refine ⟨?_, fun w' base' spare' held' => ?_⟩
        · simp only [List.flatMap_eq_nil_iff]
          intro y hy
          obtain ⟨i, _, hfy⟩ := mapM_some hxs y hy
          exact (ih i y hfy).1
        · rw [key, if_pos hlen, mapM_congr hxs (fun i _ y hy => (ih i y hy).2 w' base' spare' held')]; rfl
      · cases h0
    · cases hf

/-- What stands in the cells. -/
inductive CK where
  | int (k : IntKind)
  | bool
  | str
def kindT (P : Program) (t : TypeId) : Option CK :=
  match P.underlying t with
  | some (.int k) => some (.int k)
  | some .bool => some .bool
  | some .string => some .str
  | _ => none
def Match : List CK → List Value → Prop
  | [], vs => vs = []
  | .int k :: ks, vs => ∃ n vs', vs = .int k n :: vs' ∧ (Lit.int k n).wf = true ∧ Match ks vs'
  | .bool :: ks, vs => ∃ b vs', vs = .bool b :: vs' ∧ Match ks vs'
  | .str :: ks, vs => ∃ s vs', vs = .string s :: vs' ∧ Match ks vs'
def kindsL (P : Program) : List TypeId → Option (List CK)
  | [] => some []
  | t :: ts =>
    match kindT P t, kindsL P ts with
    | some k, some ks => some (k :: ks)
    | _, _ => none

theorem match_ok {w : World} {r : Reach} {base : Nat} : ∀ {ts : List TypeId} {ks : List CK} {l : List Value}, kindsL P ts = some ks → l.length = ts.length → (∀ (i : Nat) v, l[i]? = some v → ∃ u, ts[i]? = some u ∧ Cell.okWide P w r base u v) → Match ks l
  | [], ks, l, h, hl, _ => by
    simp [kindsL] at h; subst h
    simp at hl
    simpa [Match] using hl
  | t :: ts, ks, l, h, hl, hok => by
    match l, hl with
    | v :: l, hl =>
      simp only [kindsL] at h
      split at h
      · rename_i k ks' hk hks
        cases h
        have hrest := match_ok (w := w) (r := r) (base := base) hks (by simpa using hl) (l := l) (fun i v' hv => by
          have := hok (i + 1) v' (by simpa using hv)
          simpa using this)
        obtain ⟨u, hu, hc⟩ := hok 0 v rfl
        simp at hu
        subst hu
        unfold kindT at hk
        split at hk
        · rename_i kk hun
          cases hk
          simp only [Cell.okWide, hun] at hc
          cases v <;> simp only [Cell.ok, hun] at hc <;> try (exact hc.elim)
          rename_i k' n
          have hh : k' = kk ∧ kk.has n = true := by simpa [Cell.ok, hun] using hc
          obtain ⟨rfl, hn⟩ := hh
          exact ⟨n, l, rfl, by simpa [Lit.wf, IntKind.has] using hn, hrest⟩
        · rename_i hun
          cases hk
          simp only [Cell.okWide, hun] at hc
          cases v <;> simp only [Cell.ok, hun] at hc <;> try (exact hc.elim)
          rename_i b
          exact ⟨b, l, rfl, hrest⟩
        · rename_i hun
          cases hk
          simp only [Cell.okWide, hun] at hc
          cases v <;> simp only [Cell.ok, hun] at hc <;> try (exact hc.elim)
          rename_i s
          exact ⟨s, l, rfl, hrest⟩
        · cases hk
      · cases h

def isAggT (P : Program) (t : TypeId) : Bool :=
  match P.underlying t with
  | some (.struct _) | some (.array _ _) => true
  | _ => false
/-- An aggregate without memory: its cells. -/
theorem open_flat {w : World} {r : Reach} {b0 base : Nat} {spare : Nat → Bool} {held : Bool} {t : TypeId} {v : Value} {d : DataW H} {ps : List MemPlace} {ts : List TypeId} {ks : List CK} (hagg : isAggT P t = true) (hfl : flatT P 30 t = true)
    (hts : P.cellTypes P.depth t = some ts) (hlen : P.cellsOf t = ts.length) (hks : kindsL P ts = some ks)
    (hval : Value.okWide P w r b0 t v) (h : DataW.Trod enc P w base spare held t v d ps) :
    ∃ cs, v = .agg ⟨cs⟩ ∧ Match ks cs ∧ ps = [] ∧ ∀ (w' : World) (base' : Nat) (spare' : Nat → Bool) (held' : Bool), DataW.Trod enc P w' base' spare' held' t v d [] := by
  obtain ⟨n, hn⟩ := h
  obtain ⟨h1, h2⟩ := trod_flat 30 n t _ _ hfl hn
  simp only at h1
  subst h1
  have hv : ∃ cs, v = .agg cs ∧ cs.size = P.cellsOf t ∧ Row.okWide P w r b0 t cs := by
    unfold isAggT at hagg
    unfold Value.okWide at hval
    split at hagg
    · rename_i fs hu; rw [hu] at hval; exact hval
    · rename_i n e hu; rw [hu] at hval; exact hval
    · cases hagg
  obtain ⟨cs, rfl, hsz, ts', hts', hn', hok⟩ := hv
  rw [hts] at hts'
  cases hts'
  refine ⟨cs.toList, rfl, match_ok (w := w) (r := r) (base := b0) hks (by simpa [hsz] using hlen) (fun i v hv => ?_), rfl, fun w' base' spare' held' => ⟨n, h2 w' base' spare' held'⟩⟩
  have hi : i < ts.length := by
    have := (List.getElem?_eq_some_iff.1 hv).1
    simp at this; omega
  obtain ⟨u, hu, hc⟩ := hok i v (by simpa using hv)
  rw [Nat.mod_eq_of_lt hi] at hu
  exact ⟨u, hu, hc⟩
end
end Go.Proofs.YtdojnnlhaiennaaGreat.Row
