/- The interpreter's memory operations are the model's. Conditions: none. -/
import Derived.Test.YtcagaaaibhifdaaJa
import Derived.Laws.Cells
import Derived.Laws.AppendOwn
import Derived.Laws.BytesString
import Derived.Lib.ConvBytes
namespace Go.Proofs.Ytcagaaaibhifdaa.Ae
open Go

def AV.scalar : AV → Bool
  | .agg _ | .tup _ | .any => false
  | _ => true

def AV.scalars : List AV → Bool
  | [] => true
  | v :: l => v.scalar && AV.scalars l

theorem R_oneCell {m : List Nat} {v : AV} {V : Value} (h : R m v V) (hs : v.scalar = true) : V.oneCell' = true := by
  cases v <;> simp [AV.scalar] at hs <;> simp only [R] at h
  all_goals first
    | (subst h; rfl)
    | (obtain ⟨hb, _, _⟩ := h; subst hb; rfl)
    | (obtain ⟨b, _, hb⟩ := h; subst hb; rfl)
    | (obtain ⟨b, hb, _⟩ := h; subst hb; rfl)
    | (obtain ⟨_, _, _, _, hb⟩ := h; subst hb; rfl)

/-- What is known of a block's cells. -/
def blkL : AB → Option (List AV)
  | .cells l _ => some l
  | .row l _ => some l
  | .ro l _ => some l
  | _ => none

theorem blk_ok {m : List Nat} {H : List AB} {w : World} (hH : HR m H w) {i : Nat} {l : List AV} (h : (H[i]?).bind blkL = some l) :
    ∃ b Vs t fz, m[i]? = some b ∧ w.heap[b]? = some (.cells ⟨Vs⟩ t fz) ∧ l.length ≤ Vs.length ∧ RL m l (Vs.take l.length) := by
  obtain ⟨B, hB, hl⟩ := Option.bind_eq_some_iff.1 h
  cases B with
  | cells l' t =>
    cases hl
    obtain ⟨b, o, h1, h2, Vs, rfl, h3⟩ := hH.at_ i hB
    have hlen := RL_len h3
    exact ⟨b, Vs, t, _, h1, h2, by omega, by rw [← hlen, List.take_length]; exact h3⟩
  | row l' t =>
    cases hl
    obtain ⟨b, o, h1, h2, Vs, rfl, h0, h3⟩ := hH.at_ i hB
    exact ⟨b, Vs, t, _, h1, h2, h0, h3⟩
  | ro l' t =>
    cases hl
    obtain ⟨b, o, h1, h2, Vs, fz, rfl, h0, h3⟩ := hH.at_ i hB
    exact ⟨b, Vs, t, fz, h1, h2, h0, h3⟩
  | map _ => cases hl
  | dead => cases hl

/-- What lies at an address. -/
def loadA (P : Program) (H : List AB) (t : TypeId) (a : AV) : Option AV :=
  match a with
  | .ptr i o =>
    match (H[i]?).bind blkL with
    | some l =>
      match isAggA P t with
      | some true =>
        match sizeA P t with
        | some n => bif Nat.ble (o + n) l.length then some (.agg ((l.drop o).take n)) else none
        | none => none
      | some false => l[o]?
      | none => none
    | none => none
  | _ => none

theorem cell_of {w : World} {b : Nat} {Vs : List Value} {t : TypeId} {fz : Nat × Nat} (h : w.heap[b]? = some (.cells ⟨Vs⟩ t fz)) (o : Nat) : w.cell? ⟨b, o, none⟩ = Vs[o]? := by
  simp [World.cell?, h]

theorem drop_take_take {α : Type} (Vs : List α) {o n k : Nat} (h : o + n ≤ k) : ((Vs.take k).drop o).take n = (Vs.drop o).take n := by
  rw [List.drop_take, List.take_take]; congr 1; omega

theorem loadA_ok {P : Program} {m : List Nat} {H : List AB} {w : World} (hH : HR m H w) {t : TypeId} {a v : AV} {A : Value} (ha : R m a A) (h : loadA P H t a = some v) :
    ∃ V, R m v V ∧ ∀ w' : World, (∀ b, b < w.heap.size → w'.heap[b]? = w.heap[b]?) → (Instr.loadAt t A).run P w' = .ok V w' := by
  unfold loadA at h
  split at h
  · rename_i i o
    simp only [R] at ha
    obtain ⟨b, hb, rfl⟩ := ha
    split at h
    · rename_i l hbl
      obtain ⟨b', Vs, bt, fz, h1, h2, h0, hR⟩ := blk_ok hH hbl
      rw [hb] at h1; cases h1
      have hlt : b < w.heap.size := (Array.getElem?_eq_some_iff.1 h2).1
      split at h
      · rename_i hag
        split at h
        · rename_i n hn
          cases hc : Nat.ble (o + n) l.length with
          | false => rw [hc] at h; cases h
          | true =>
            rw [hc] at h
            simp only [cond_true, Option.some.injEq] at h
            subst h
            have hle := Nat.le_of_ble_eq_true hc
            refine ⟨.agg ⟨(Vs.drop o).take n⟩, by simp only [R]; exact ⟨_, rfl, by rw [← drop_take_take Vs hle]; exact RL_take n (RL_drop o hR)⟩, fun w' hw => ?_⟩
            have hblk : w'.heap[b]? = some (.cells ⟨Vs⟩ bt fz) := by rw [hw b hlt]; exact h2
            have hcells : (loadCells ⟨b, o, none⟩ n).run P w' = .ok ⟨(Vs.drop o).take n⟩ w' := by
              have := run_loadCells_list (P := P) (w := w') ⟨b, o, none⟩ ((Vs.drop o).take n) (fun j v hj => by
                rw [addr_add, cell_of hblk]
                rw [List.getElem?_take] at hj
                split at hj
                · rw [List.getElem?_drop] at hj; exact hj
                · cases hj)
              have hl : ((Vs.drop o).take n).length = n := by simp; omega
              rw [hl] at this
              exact this
            simp [Instr.loadAt, Instr.sureAddr, loadVar, run_isAgg hag, run_sizeA hn, hcells]
        · cases h
      · rename_i hag
        obtain ⟨V, hV, hRV⟩ := RL_get hR h
        have hol : o < l.length := (List.getElem?_eq_some_iff.1 h).1
        rw [List.getElem?_take, if_pos hol] at hV
        refine ⟨V, hRV, fun w' hw => ?_⟩
        have hblk : w'.heap[b]? = some (.cells ⟨Vs⟩ bt fz) := by rw [hw b hlt]; exact h2
        have hc : w'.cell? ⟨b, o, none⟩ = some V := by rw [cell_of hblk]; exact hV
        simp [Instr.loadAt, Instr.sureAddr, loadVar, run_isAgg hag, load, Sem.run, hc]
      · cases h
    · cases h
  · cases h

section
variable {ρ : Type}

/-- Operations that make or write memory. -/
def amem (P : Program) (e : Operand → AV) (H : List AB) (o : Op) (K : AV → List AB → Option ρ) : Option ρ :=
  match o with
  | .alloc t =>
    match zeroA P t with
    | some z =>
      match cellsOf? z with
      | some l => K (.ptr H.length 0) (H ++ [.cells l t])
      | none => none
    | none => none
  | .box t x =>
    match cellsOf? (e x) with
    | some l => K (.ptr H.length 0) (H ++ [.cells l t])
    | none => none
  | .buildSlice t len parts =>
    match P.underlying t with
    | some (.slice el) =>
      match sizeA P el, (zeroA P el).bind cellsOf? with
      | some n, some z =>
        bif Nat.ble (len * n) 16777216 && Nat.ble 1 (len * n) && Nat.ble 1 z.length then
          match fillA (fun i => some (i * n, n)) ((List.range (len * n)).map fun i => z.getD (i % z.length) .any) (parts.toList.map fun (i, x) => (i, e x)) with
          | some cs => K (.slice H.length 0 len len) (H ++ [.cells cs el])
          | none => none
        else none
      | _, _ => none
    | _ => none
  | .store t a x =>
    match e a, cellsOf? (e x), sizeA P t with
    | .ptr i o, some vs, some n =>
      match H[i]? with
      | some (.cells l bt) => bif Nat.beq vs.length n && Nat.ble (o + vs.length) l.length && AV.scalars vs then K .any (H.set i (.cells (setL l o vs) bt)) else none
      | _ => none
    | _, _, _ => none
  | .makeMap t none =>
    match mapT P t with
    | some (two, _) => K (.map H.length) (H ++ [.map two []])
    | none => none
  | .mapUpdate t x k y | .insert t x k y =>
    match mapPutA P H t (e x) (e k) (e y) with
    | some H' => K .any H'
    | none => none
  | _ => none

/-- What an operation is to have done. -/
def Done (P : Program) (m : List Nat) (w : World) (s : Sem Next) (v : AV) (H' : List AB) : Prop :=
  ∃ nx V w' m', s.run P w = .ok nx w' ∧ (nx = .value V ∨ (nx = .skip ∧ V = undef)) ∧ R m' v V ∧ HR m' H' w' ∧ Ext m w m' w'

theorem newBlock {m : List Nat} {H : List AB} {w : World} (hH : HR m H w) {l : List AV} {L : List Value} (hl : RL m l L) (t : TypeId) :
    HR (m ++ [w.heap.size]) (H ++ [.cells l t]) { w with heap := w.heap.push (.cells ⟨L⟩ t) } ∧ Ext m w (m ++ [w.heap.size]) { w with heap := w.heap.push (.cells ⟨L⟩ t) } ∧ (m ++ [w.heap.size])[H.length]? = some w.heap.size :=
  ⟨hH.push (l := l) (t := t) (o := .cells ⟨L⟩ t (0, 0)) ⟨L, rfl, hl⟩, (Ext.refl m w).push _, by rw [← hH.len]; simp⟩

theorem storeCells_ok {P : Program} {m : List Nat} {b i : Nat} {bt : TypeId} : ∀ {vs : List AV} {Vs : List Value} (_ : RL m vs Vs) (_ : AV.scalars vs = true) {H : List AB} {w : World} (_ : HR m H w) (_ : m[i]? = some b) {l : List AV} (_ : H[i]? = some (.cells l bt)) (o k : Nat) (_ : o + k + vs.length ≤ l.length),
    ∃ w', (storeCells ⟨b, o, none⟩ Vs k).run P w = .ok () w' ∧ HR m (H.set i (.cells (setL l (o + k) vs) bt)) w' ∧ Ext m w m w'
  | [], _, h, _, H, w, hH, hb, l, hl, o, k, _ => by
    rw [RL_nil.1 h]
    refine ⟨w, by simp [storeCells], ?_, Ext.refl m w⟩
    simp only [setL]
    have : H.set i (.cells l bt) = H := by
      obtain ⟨hi, e⟩ := List.getElem?_eq_some_iff.1 hl
      rw [← e]; exact List.set_getElem_self hi
    rw [this]; exact hH
  | v :: vs, _, h, hs, H, w, hH, hb, l, hl, o, k, hle => by
    obtain ⟨V, Vs', rfl, h2, h3⟩ := RL_cons.1 h
    simp only [AV.scalars, Bool.and_eq_true] at hs
    simp only [List.length_cons] at hle
    obtain ⟨b', ob, h1, h4, h5⟩ := hH.at_ i hl
    rw [hb] at h1; cases h1
    obtain ⟨Cs, rfl, hR⟩ := h5
    have hlen := RL_len hR
    have hlt : o + k < Cs.length := by omega
    have hcell : w.cell? ⟨b, o + k, none⟩ = some Cs[o + k] := by rw [cell_of h4]; exact List.getElem?_eq_getElem hlt
    have hfr : w.frozen? ⟨b, o + k, none⟩ = false := by simp [World.frozen?, h4]
    have hst : (store ⟨b, o + k, none⟩ V).run P w = .ok () (w.setCell ⟨b, o + k, none⟩ V) := by
      rw [run_store P w _ _ _ (R_oneCell h2 hs.1)]
      simp [hcell, hfr]
    have hheap : (w.setCell ⟨b, o + k, none⟩ V).heap[b]? = some (.cells ⟨Cs.set (o + k) V⟩ bt (0, 0)) := by
      simp [World.setCell, Array.getElem?_modify, h4]
    have hrest : ∀ j, j ≠ b → (w.setCell ⟨b, o + k, none⟩ V).heap[j]? = w.heap[j]? := fun j hj => by
      simp [World.setCell, Array.getElem?_modify, Ne.symm hj]
    have hsz : (w.setCell ⟨b, o + k, none⟩ V).heap.size = w.heap.size := by simp [World.setCell]
    have hH' := hH.put hb hl rfl (B := .cells (l.set (o + k) v) bt) (o := .cells ⟨Cs.set (o + k) V⟩ bt (0, 0)) ⟨_, rfl, RL_set h2 _ hR⟩ trivial hheap hrest
    have hE' := (Ext.refl m w).put hb hsz rfl rfl rfl hrest
    have hget : (H.set i (.cells (l.set (o + k) v) bt))[i]? = some (.cells (l.set (o + k) v) bt) := by
      have := (List.getElem?_eq_some_iff.1 hl).1
      simp [this]
    obtain ⟨w', hr, hH'', hE''⟩ := storeCells_ok (P := P) h3 hs.2 hH' hb hget o (k + 1) (by simp; omega)
    refine ⟨w', ?_, ?_, hE'.trans hE''⟩
    · simp only [storeCells, addr_add, Sem.run_bind, hst, Result.andThen_ok]
      exact hr
    · have : (H.set i (.cells (l.set (o + k) v) bt)).set i (.cells (setL (l.set (o + k) v) (o + (k + 1)) vs) bt) = H.set i (.cells (setL l (o + k) (v :: vs)) bt) := by
        rw [List.set_set]; simp [setL, Nat.add_assoc]
      rw [← this]; exact hH''

theorem amem_ok {P : Program} {m : List Nat} {e : Operand → AV} {E : Operand → Value} (he : ∀ x, R m (e x) (E x)) {H : List AB} {w : World} (hH : HR m H w) {o : Oper} {K : AV → List AB → Option ρ} {r : ρ}
    (h : amem P e H o.op K = some r) : ∃ v H', K v H' = some r ∧ Done P m w (execOp E o) v H' := by
  obtain ⟨dst, op, type, pos, after, guard⟩ := o
  cases op <;> simp only [amem, reduceCtorEq] at h <;> (try (cases h; done)) <;> simp only [execOp]
  case alloc t =>
    split at h
    · rename_i z hz
      obtain ⟨Z, hZ, hRZ⟩ := run_zeroA hz m
      split at h
      · rename_i l hl
        have hc := R_cells hRZ hl
        obtain ⟨n1, n2, n3⟩ := newBlock hH hc t
        refine ⟨_, _, h, .value (.pointer (some ⟨w.heap.size, 0, none⟩)), _, _, _, ?_, .inl rfl, ?_, n1, n2⟩
        · simp [Instr.alloc, hZ, newVar, newRow, newObj, Sem.run]
        · simp only [R]; exact ⟨_, n3, rfl⟩
      · cases h
    · cases h
  case box t x =>
    split at h
    · rename_i l hl
      have hc := R_cells (he x) hl
      obtain ⟨n1, n2, n3⟩ := newBlock hH hc t
      refine ⟨_, _, h, .value (.pointer (some ⟨w.heap.size, 0, none⟩)), _, _, _, ?_, .inl rfl, ?_, n1, n2⟩
      · simp [Instr.box, newVar, newRow, newObj, Sem.run]
      · simp only [R]; exact ⟨_, n3, rfl⟩
    · cases h
  case buildSlice t len parts =>
    split at h
    · rename_i el hu
      split at h
      · rename_i n z hn hz
        obtain ⟨z0, hz0, hzc⟩ := Option.bind_eq_some_iff.1 hz
        obtain ⟨Z, hZ, hRZ⟩ := run_zeroA hz0 m
        have hcz := R_cells hRZ hzc
        cases hb : (Nat.ble (len * n) 16777216 && Nat.ble 1 (len * n) && Nat.ble 1 z.length) with
        | false => rw [hb] at h; cases h
        | true =>
          rw [hb] at h
          simp only [Bool.and_eq_true] at hb
          obtain ⟨⟨b1, b2⟩, b3⟩ := hb
          have b1 := Nat.le_of_ble_eq_true b1
          have b2 := Nat.le_of_ble_eq_true b2
          have b3 := Nat.le_of_ble_eq_true b3
          simp only [cond_true] at h
          split at h
          · rename_i cs hcs
            have hp := RP_map (m := m) he parts.toList
            have hzl : Z.cells.size = z.length := by have := RL_len hcz; simpa using this
            have hbase : RL m ((List.range (len * n)).map fun i => z.getD (i % z.length) .any) ((Array.range (len * n)).map (Z.cells[· % Z.cells.size]!)).toList := by
              rw [Array.toList_map, Array.toList_range]
              generalize List.range (len * n) = is
              induction is with
              | nil => exact RL_nil.2 rfl
              | cons j is ih =>
                refine RL.cons ?_ ih
                have hj : j % z.length < z.length := Nat.mod_lt _ (by omega)
                obtain ⟨V, hV, hRV⟩ := RL_get hcz (List.getElem?_eq_getElem hj)
                have e1 : z.getD (j % z.length) .any = z[j % z.length] := by simp [hj]
                show R m (z.getD (j % z.length) .any) (Z.cells[j % Z.cells.size]!)
                rw [e1, hzl]
                have hV' : Z.cells[j % z.length]? = some V := by simpa using hV
                have : Z.cells[j % z.length]! = V := by rw [getElem!_def, hV']
                rw [this]; exact hRV
            obtain ⟨L, hL, hRL⟩ := fillA_ok hp hbase hcs
            obtain ⟨n1, n2, n3⟩ := newBlock hH hRL el
            refine ⟨_, _, h, .value (.slice (some ⟨w.heap.size, 0, none⟩) len len), _, _, _, ?_, .inl rfl, ?_, n1, n2⟩
            · have c1 : ¬ len * n > 2 ^ 24 := by omega
              have c2 : ¬ len * n = 0 := by omega
              simp only [Instr.buildSlice, Sem.run_bind, run_underlying hu, Result.andThen_ok, run_sizeA hn, c1, if_false, c2, hZ, Sem.run_pure]
              rw [Array.toList_map, hL]
              simp [newRow, newObj, Sem.run]
            · simp only [R]; exact ⟨_, n3, rfl⟩
          · cases h
      · cases h
    · cases h
  case store t a x =>
    have ha := he a
    split at h
    · rename_i i o vs n hea hvs hn
      rw [hea] at ha
      simp only [R] at ha
      obtain ⟨b, hb, hA⟩ := ha
      have hc := R_cells (he x) hvs
      split at h
      · rename_i l bt hl
        cases hbb : (Nat.beq vs.length n && Nat.ble (o + vs.length) l.length && AV.scalars vs) with
        | false => rw [hbb] at h; cases h
        | true =>
          rw [hbb] at h
          simp only [Bool.and_eq_true] at hbb
          obtain ⟨⟨b1, b2⟩, b3⟩ := hbb
          have b1 := Nat.eq_of_beq_eq_true b1
          have b2 := Nat.le_of_ble_eq_true b2
          simp only [cond_true] at h
          obtain ⟨w', hr, hH', hE'⟩ := storeCells_ok (P := P) hc b3 hH hb hl o 0 (by omega)
          refine ⟨_, _, h, .skip, undef, w', m, ?_, .inr ⟨rfl, rfl⟩, by simp only [R], hH', hE'⟩
          have hsz : (E x).cells.size = n := by have := RL_len hc; simp at this; omega
          simp [Instr.storeAt, hA, Instr.sureAddr, storeVar, run_sizeA hn, hsz, hr]
      · cases h
    · cases h
  case makeMap t res =>
    cases res with
    | some _ => cases h
    | none =>
      simp only at h
      split at h
      · rename_i two el hm
        obtain ⟨n0, n1, n2, n3⟩ := newMap_ok two (P := P) hH t
        refine ⟨_, _, h, .value (.map (some w.heap.size)), _, _, _, ?_, .inl rfl, ?_, n1, n2⟩
        · simp only [Option.map_none, Sem.run_bind, n0, Result.andThen_ok, Sem.run_pure]
        · simp only [R]; exact ⟨_, n3, rfl⟩
      · cases h
  case mapUpdate t x k y =>
    split at h
    · rename_i H' hp
      obtain ⟨w', h1, h2, h3⟩ := mapPutA_ok (P := P) hH (he x) (he k) (he y) hp
      refine ⟨_, _, h, .skip, undef, w', m, ?_, .inr ⟨rfl, rfl⟩, by simp only [R], h2, h3⟩
      simp only [Sem.run_bind, h1, Result.andThen_ok, Sem.run_pure]
    · cases h
  case insert t x k y =>
    split at h
    · rename_i H' hp
      obtain ⟨w', h1, h2, h3⟩ := mapPutA_ok (P := P) hH (he x) (he k) (he y) hp
      refine ⟨_, _, h, .skip, undef, w', m, ?_, .inr ⟨rfl, rfl⟩, by simp only [R], h2, h3⟩
      simp only [Sem.run_bind, h1, Result.andThen_ok, Sem.run_pure]
    · cases h

end
#print axioms amem_ok
end Go.Proofs.Ytcagaaaibhifdaa.Ae

/- The interpreter's operations on rows that grow: append, make, strings and bytes. Conditions: none. -/
namespace Go.Proofs.Ytcagaaaibhifdaa.Ae
open Go

/-- What stands in a slice. -/
def rowOf (H : List AB) : AV → Option (List AV)
  | .nils => some []
  | .slice i o len _ =>
    match (H[i]?).bind blkL with
    | some l => bif Nat.ble (o + len) l.length then some ((l.drop o).take len) else none
    | none => none
  | .own i n =>
    match (H[i]?).bind blkL with
    | some l => bif Nat.ble n l.length then some (l.take n) else none
    | none => none
  | _ => none

/-- What it says of a slice in a world. -/
def RowIn (w : World) (X : Value) (L : List Value) : Prop :=
  (X = .slice none 0 0 ∧ L = []) ∨ ∃ b o cap, X = .slice (some ⟨b, o, none⟩) L.length cap ∧ b < w.heap.size ∧ ∀ (j : Nat) (v : Value), L[j]? = some v → w.cell? ⟨b, o + j, none⟩ = some v

theorem rowOf_ok {m : List Nat} {H : List AB} {w : World} (hH : HR m H w) {x : AV} {X : Value} (hx : R m x X) {l : List AV} (h : rowOf H x = some l) : ∃ L, RL m l L ∧ RowIn w X L := by
  unfold rowOf at h
  split at h
  · cases h; simp only [R] at hx; exact ⟨[], RL_nil.2 rfl, .inl ⟨hx, rfl⟩⟩
  · rename_i i o len cap
    split at h
    · rename_i l0 hl0
      obtain ⟨b, Vs, t, fz, h1, h2, h0, hR⟩ := blk_ok hH hl0
      cases hc : Nat.ble (o + len) l0.length with
      | false => rw [hc] at h; cases h
      | true =>
        rw [hc] at h
        simp only [cond_true, Option.some.injEq] at h
        subst h
        have hle := Nat.le_of_ble_eq_true hc
        simp only [R] at hx
        obtain ⟨b', hb, rfl⟩ := hx
        rw [h1] at hb; cases hb
        have hlen : ((Vs.drop o).take len).length = len := by simp; omega
        refine ⟨(Vs.drop o).take len, by rw [← drop_take_take Vs hle]; exact RL_take _ (RL_drop _ hR), .inr ⟨b, o, cap, by rw [hlen], (Array.getElem?_eq_some_iff.1 h2).1, fun j v hj => ?_⟩⟩
        rw [cell_of h2]
        rw [List.getElem?_take] at hj
        split at hj
        · rw [List.getElem?_drop] at hj; exact hj
        · cases hj
    · cases h
  · rename_i i n
    split at h
    · rename_i l0 hl0
      obtain ⟨b, Vs, t, fz, h1, h2, h0, hR⟩ := blk_ok hH hl0
      cases hc : Nat.ble n l0.length with
      | false => rw [hc] at h; cases h
      | true =>
        rw [hc] at h
        simp only [cond_true, Option.some.injEq] at h
        subst h
        have hle := Nat.le_of_ble_eq_true hc
        simp only [R] at hx
        obtain ⟨b', c, hb, _, rfl⟩ := hx
        rw [h1] at hb; cases hb
        have hlen : (Vs.take n).length = n := by simp; omega
        refine ⟨Vs.take n, ?_, .inr ⟨b, 0, c, by rw [hlen], (Array.getElem?_eq_some_iff.1 h2).1, fun j v hj => ?_⟩⟩
        · have := RL_take n hR
          rw [List.take_take, Nat.min_eq_left hle] at this; exact this
        · rw [cell_of h2]
          rw [List.getElem?_take] at hj
          split at hj
          · rw [Nat.zero_add]; exact hj
          · cases hj
    · cases h
  · cases h

/-- Elements of one cell, that are not large. -/
def smallEl (P : Program) (t : TypeId) : Option TypeId :=
  match P.underlying t with
  | some (.slice el) =>
    match P.info? el with
    | some i =>
      match i.zero with
      | some z => bif Nat.beq i.size 1 && Nat.beq z.cells.size 1 && Nat.ble i.bytes 16 then some el else none
      | none => none
    | none => none
  | _ => none

theorem smallEl_ok {P : Program} {t el : TypeId} (h : smallEl P t = some el) : ∃ i z, P.underlying t = some (.slice el) ∧ P.info? el = some i ∧ i.zero = some z ∧ i.size = 1 ∧ z.cells.size = 1 ∧ i.bytes ≤ 16 := by
  unfold smallEl at h
  split at h
  · rename_i el' hu
    split at h
    · rename_i i hi
      split at h
      · rename_i z hz
        cases hb : (Nat.beq i.size 1 && Nat.beq z.cells.size 1 && Nat.ble i.bytes 16) with
        | false => rw [hb] at h; cases h
        | true =>
          rw [hb] at h
          simp only [cond_true, Option.some.injEq] at h
          subst h
          simp only [Bool.and_eq_true] at hb
          exact ⟨i, z, hu, hi, hz, Nat.eq_of_beq_eq_true hb.1.1, Nat.eq_of_beq_eq_true hb.1.2, Nat.le_of_ble_eq_true hb.2⟩
      · cases h
    · cases h
  · cases h

section
variable {ρ : Type}

def aappend (P : Program) (ts : Array TypeId) (args : List AV) (H : List AB) (K : AV → List AB → Option ρ) : Option ρ :=
  match ts.toList, args with
  | [t, u], [s, x] =>
    match smallEl P t, rowOf H x with
    | some el, some news =>
      bif Nat.beq t u && AV.scalars news && Nat.ble 1 news.length && Nat.ble news.length 100000 then
        match s with
        | .nils => K (.own H.length news.length) (H ++ [.row news el, .dead])
        | .own i n =>
          match H[i]? with
          | some (.row l el') => bif Nat.beq l.length n && Nat.beq el el' && Nat.ble n 100000 then K (.own H.length (n + news.length)) (H.set i .dead ++ [.row (l ++ news) el, .dead]) else none
          | _ => none
        | .slice i o len cap =>
          bif Nat.beq len cap && Nat.ble cap 100000 then
            match rowOf H (.slice i o len cap) with
            | some olds => K (.own H.length (len + news.length)) (H ++ [.row (olds ++ news) el, .dead])
            | none => none
          else none
        | _ => none
      else none
    | _, _ => none
  | _, _ => none

theorem scalars_ok {m : List Nat} : ∀ {l : List AV} {L : List Value}, RL m l L → AV.scalars l = true → ∀ u ∈ L, u.oneCell' = true
  | [], _, h, _, u, hu => by rw [RL_nil.1 h] at hu; cases hu
  | v :: l, _, h, hs, u, hu => by
    obtain ⟨V, L', rfl, h1, h2⟩ := RL_cons.1 h
    simp only [AV.scalars, Bool.and_eq_true] at hs
    rcases List.mem_cons.1 hu with rfl | hu
    · exact R_oneCell h1 hs.1
    · exact scalars_ok h2 hs.2 u hu

theorem zero_len (z : Value) (hz : z.cells.size = 1) (n : Nat) : (Builtin.zeroCells z.cells n).toList.length = n := by
  have := size_zeroCells z.cells n
  rw [hz, Nat.mul_one] at this
  simpa using this

/-- What append is to have done. -/
def Appended (P : Program) (m : List Nat) (w : World) (s : Sem Value) (v : AV) (H' : List AB) : Prop :=
  ∃ V w' m', s.run P w = .ok V w' ∧ R m' v V ∧ HR m' H' w' ∧ Ext m w m' w'

theorem grownCap_ge (w : World) (need old : Nat) (e : TypeId) : ∃ k, grownCap w need old e = need + k := ⟨_, rfl⟩

/-- A new row with room behind it. -/
theorem grown_row {m : List Nat} {H : List AB} {w : World} (hH : HR m H w) {l : List AV} {L : List Value} (hl : RL m l L) (el : TypeId) {z : Value} (hz : z.cells.size = 1) (k : Nat) {cs : Array Value} (hcs : cs.toList = L ++ (Builtin.zeroCells z.cells k).toList) :
    HR (m ++ [w.heap.size, w.heap.size + (L.length + k)]) (H ++ [.row l el, .dead]) (w.drew.alloc (.cells cs el)) ∧
    R (m ++ [w.heap.size, w.heap.size + (L.length + k)]) (.own H.length L.length) (.slice (some ⟨w.heap.size, 0, none⟩) L.length (L.length + k)) ∧
    Ext m w (m ++ [w.heap.size, w.heap.size + (L.length + k)]) (w.drew.alloc (.cells cs el)) := by
  have hlen := RL_len hl
  have hp := (hH.drewN 1).pushRow (l := l) (t := el) (Vs := L ++ (Builtin.zeroCells z.cells k).toList) (by simp; omega) (by rw [List.take_append_of_le_length (by omega), ← hlen, List.take_length]; exact hl)
  have hlen2 : (L ++ (Builtin.zeroCells z.cells k).toList).length = L.length + k := by rw [List.length_append, zero_len z hz]
  rw [hlen2] at hp
  have ecs : cs = ⟨L ++ (Builtin.zeroCells z.cells k).toList⟩ := Array.toList_inj.1 hcs
  refine ⟨by rw [ecs]; exact hp, ?_, ?_⟩
  · simp only [R]
    exact ⟨w.heap.size, L.length + k, by rw [← hH.len]; simp, by rw [← hH.len]; simp, rfl⟩
  · exact (Ext.refl m w).grown (by intro b hb; simp at hb; omega) rfl rfl rfl (by show _ ≤ (w.heap.push _).size; simp) (fun k hk => by show (w.heap.push _)[k]? = _; rw [Array.getElem?_push, if_neg (by omega)])

theorem aappend_ok {P : Program} {m : List Nat} {ts : Array TypeId} {args : List AV} {Args : Array Value} (hA : RL m args Args.toList) {H : List AB} {w : World} (hH : HR m H w) {K : AV → List AB → Option ρ} {r : ρ}
    (h : aappend P ts args H K = some r) (type : TypeId) : ∃ v H', K v H' = some r ∧ Appended P m w (Builtin.append_ ts type Args) v H' := by
  unfold aappend at h
  split at h
  · rename_i t u s x hts
    have hts' : ts = #[t, u] := Array.toList_inj.1 hts
    obtain ⟨S, A1, e1, hs, hA1⟩ := RL_cons.1 hA
    obtain ⟨X, A2, rfl, hx, hA2⟩ := RL_cons.1 hA1
    rw [RL_nil.1 hA2] at e1
    have hArgs : Args = #[S, X] := Array.toList_inj.1 e1
    subst hArgs; subst hts'
    split at h
    · rename_i el news hel hnews
      cases hb : (Nat.beq t u && AV.scalars news && Nat.ble 1 news.length && Nat.ble news.length 100000) with
      | false => rw [hb] at h; cases h
      | true =>
        rw [hb] at h
        simp only [cond_true] at h
        simp only [Bool.and_eq_true] at hb
        obtain ⟨⟨⟨b1, b2⟩, b3⟩, b4⟩ := hb
        obtain rfl := Nat.eq_of_beq_eq_true b1
        have b3 := Nat.le_of_ble_eq_true b3
        have b4 := Nat.le_of_ble_eq_true b4
        obtain ⟨i, z, hu, hi, hz, hsz, hzs, hby⟩ := smallEl_ok hel
        obtain ⟨N, hN, hrow⟩ := rowOf_ok hH hx hnews
        have hNlen := RL_len hN
        rcases hrow with ⟨_, rfl⟩ | ⟨xb, xo, xc, hX, hxb, hcell⟩
        · simp at hNlen; omega
        have hnl : N.length = N.length * i.size := by rw [hsz, Nat.mul_one]
        have hcell' : ∀ (j : Nat) (v : Value), N[j]? = some v → w.cell? ((⟨xb, xo, none⟩ : Addr).add j) = some v := fun j v hj => by rw [addr_add]; exact hcell j v hj
        have hone := scalars_ok hN b2
        have hmul : N.length * i.bytes ≤ 100000 * 16 := Nat.mul_le_mul (by omega) hby
        split at h
        · -- nil
          simp only [R] at hs
          have hr := run_append_nil (P := P) w t type el i z hu hi hz ⟨xb, xo, none⟩ N.length xc N hnl hcell' (by omega) (by omega) (by omega)
          obtain ⟨k, hk⟩ := grownCap_ge w N.length 0 el
          rw [hk, Nat.add_sub_cancel_left] at hr
          obtain ⟨g1, g2, g3⟩ := grown_row hH hN el hzs k (cs := N.toArray ++ Builtin.zeroCells z.cells k) (by simp)
          exact ⟨_, _, h, .slice (some ⟨w.heap.size, 0, none⟩) N.length (N.length + k), _, _, by rw [hs, hX, hr], by rw [← hNlen]; exact g2, g1, g3⟩
        · -- own
          rename_i si sn
          split at h
          · rename_i l el' hl
            cases hb' : (Nat.beq l.length sn && Nat.beq el el' && Nat.ble sn 100000) with
            | false => rw [hb'] at h; cases h
            | true =>
              rw [hb'] at h
              simp only [cond_true] at h
              simp only [Bool.and_eq_true] at hb'
              obtain ⟨⟨c1, c2⟩, c3⟩ := hb'
              obtain rfl := Nat.eq_of_beq_eq_true c1
              obtain rfl := Nat.eq_of_beq_eq_true c2
              have c3 := Nat.le_of_ble_eq_true c3
              simp only [R] at hs
              obtain ⟨b, c, s1, s2, rfl⟩ := hs
              obtain ⟨b', o, e1, e2, ⟨Vs, rfl, v0, v1⟩, e4⟩ := hH.all si _ hl rfl
              rw [s1] at e1; cases e1
              have ec := e4 _ _ _ rfl
              rw [s2] at ec
              have ec : c = Vs.length := by simp at ec; omega
              subst ec
              have holds : ∀ (j : Nat) (v : Value), (Vs.take l.length)[j]? = some v → w.cell? ((⟨b, 0, none⟩ : Addr).add j) = some v := fun j v hj => by
                rw [addr_add, cell_of e2, Nat.zero_add]
                rw [List.getElem?_take] at hj
                split at hj
                · exact hj
                · cases hj
              have hvl := RL_len v1
              by_cases hfit : l.length + N.length ≤ Vs.length
              · have hr := run_append_room (P := P) w t type el i hu hi b l.length Vs.length ⟨Vs⟩ e2 ⟨xb, xo, none⟩ N.length xc N hnl hcell' hone hfit (by rw [hsz, Nat.mul_one]; exact hfit)
                rw [hsz, Nat.mul_one] at hr
                have hblt : b < w.heap.size := (Array.getElem?_eq_some_iff.1 e2).1
                have hcl : (Vs.take l.length ++ N ++ Vs.drop (l.length + N.length)).length = Vs.length := by simp; omega
                have hat : (w.setRow b (Vs.take l.length ++ N ++ Vs.drop (l.length + N.length)).toArray).heap[b]? = some (.cells ⟨Vs.take l.length ++ N ++ Vs.drop (l.length + N.length)⟩ el (0, 0)) := by
                  simp [World.setRow, Array.getElem?_modify, e2]
                have hrest : ∀ k, k ≠ b → (w.setRow b (Vs.take l.length ++ N ++ Vs.drop (l.length + N.length)).toArray).heap[k]? = w.heap[k]? := fun k hk => by
                  simp [World.setRow, Array.getElem?_modify, Ne.symm hk]
                have hcl0 : (Vs.take l.length).length = l.length := by simp; omega
                have hm := hH.moveRow (w' := w.setRow b (Vs.take l.length ++ N ++ Vs.drop (l.length + N.length)).toArray) s1 hl rfl (l := l ++ news) (t := el) (Vs := Vs.take l.length ++ N ++ Vs.drop (l.length + N.length)) (by rw [hcl]; simp; omega)
                  (by
                    rw [List.length_append, List.take_append_of_le_length (by simp; omega), ← hNlen, List.take_of_length_le (by simp; omega)]
                    exact RL_append hN v1) hat hrest
                rw [hcl] at hm
                refine ⟨_, _, h, .slice (some ⟨b, 0, none⟩) (l.length + N.length) Vs.length, _, _, by rw [hX]; exact hr, ?_, hm, ?_⟩
                · simp only [R]
                  exact ⟨b, Vs.length, by rw [← hH.len]; simp, by rw [← hH.len]; simp, by rw [hNlen]⟩
                · refine ⟨⟨_, rfl, fun q hq => ?_⟩, rfl, rfl, rfl, by simp [World.setRow], fun k _ hk => hrest k (fun e => hk (e ▸ List.mem_of_getElem? s1))⟩
                  simp at hq
                  rcases hq with rfl | rfl
                  · exact .inr (List.mem_of_getElem? s1)
                  · exact .inr (List.mem_of_getElem? s2)
              · have hr := run_append_grow (P := P) w t type el i z hu hi hz ⟨b, 0, none⟩ l.length Vs.length (Vs.take l.length) (by rw [hsz, Nat.mul_one]; exact hvl) holds ⟨xb, xo, none⟩ N.length xc N hnl hcell' (by omega) (by omega)
                  (growslice_fits (by omega) (by
                    have : (l.length + N.length) * i.bytes ≤ 200000 * 16 := Nat.mul_le_mul (by omega) hby
                    omega))
                obtain ⟨k, hk⟩ := grownCap_ge w (l.length + N.length) Vs.length el
                rw [hk, Nat.add_sub_cancel_left] at hr
                obtain ⟨g1, g2, g3⟩ := grown_row (hH.kill si) (RL_append hN v1) el hzs k (cs := (Vs.take l.length).toArray ++ N.toArray ++ Builtin.zeroCells z.cells k) (by simp)
                have e5 : (Vs.take l.length ++ N).length = l.length + N.length := by rw [List.length_append, hvl]
                rw [e5] at g1 g2 g3
                rw [List.length_set] at g2
                exact ⟨_, _, h, .slice (some ⟨w.heap.size, 0, none⟩) (l.length + N.length) (l.length + N.length + k), _, _, by rw [hX, hr], by rw [← hNlen]; exact g2, g1, g3⟩
          · cases h
        · -- slice
          rename_i si so sl sc
          cases hb' : (Nat.beq sl sc && Nat.ble sc 100000) with
          | false => rw [hb'] at h; cases h
          | true =>
            rw [hb'] at h
            simp only [cond_true] at h
            simp only [Bool.and_eq_true] at hb'
            obtain rfl := Nat.eq_of_beq_eq_true hb'.1
            have c3 := Nat.le_of_ble_eq_true hb'.2
            split at h
            · rename_i olds holds
              obtain ⟨O, hO, horow⟩ := rowOf_ok hH hs holds
              have hOlen := RL_len hO
              simp only [R] at hs
              obtain ⟨b, s1, rfl⟩ := hs
              rcases horow with ⟨e, _⟩ | ⟨sb, so', cp, e, hsb, hcell2⟩
              · cases e
              · simp only [Value.slice.injEq, Option.some.injEq, Addr.mk.injEq] at e
                obtain ⟨⟨rfl, rfl, _⟩, e1, e2⟩ := e
                subst e1
                have hr := run_append_grow (P := P) w t type el i z hu hi hz ⟨b, so, none⟩ O.length O.length O (by rw [hsz, Nat.mul_one]) (fun j v hj => by rw [addr_add]; exact hcell2 j v hj) ⟨xb, xo, none⟩ N.length xc N hnl hcell' (by omega) (by omega)
                  (growslice_fits (by omega) (by
                    have : (O.length + N.length) * i.bytes ≤ 200000 * 16 := Nat.mul_le_mul (by omega) hby
                    omega))
                obtain ⟨k, hk⟩ := grownCap_ge w (O.length + N.length) O.length el
                rw [hk, Nat.add_sub_cancel_left] at hr
                obtain ⟨g1, g2, g3⟩ := grown_row hH (RL_append hN hO) el hzs k (cs := O.toArray ++ N.toArray ++ Builtin.zeroCells z.cells k) (by simp)
                have e5 : (O ++ N).length = O.length + N.length := List.length_append
                rw [e5] at g1 g2 g3
                exact ⟨_, _, h, .slice (some ⟨w.heap.size, 0, none⟩) (O.length + N.length) (O.length + N.length + k), _, _, by rw [hX, hr], by rw [← hNlen]; exact g2, g1, g3⟩
            · cases h
        · cases h
    · cases h
  · cases h

/-- make([]T, len, cap). -/
def amake (P : Program) (t : TypeId) (len cap : AV) (H : List AB) (K : AV → List AB → Option ρ) : Option ρ :=
  match len, cap with
  | .int _ l, .int _ c =>
    bif decide (0 ≤ l) && decide (l ≤ c) && decide (c ≤ 100000) then
      match smallEl P t with
      | some el =>
        match (zeroA P el).bind cellsOf? with
        | some [z] => K (.own H.length l.toNat) (H ++ [.row (List.replicate l.toNat z) el, .dead])
        | _ => none
      | none => none
    else none
  | _, _ => none

theorem RL_replicate {m : List Nat} {v : AV} {V : Value} (h : R m v V) : ∀ n, RL m (List.replicate n v) (List.replicate n V)
  | 0 => RL_nil.2 rfl
  | n + 1 => RL.cons h (RL_replicate h n)

theorem amake_ok {P : Program} {m : List Nat} {t : TypeId} {len cap : AV} {Len Cap : Value} (hl : R m len Len) (hc : R m cap Cap) {H : List AB} {w : World} (hH : HR m H w) {K : AV → List AB → Option ρ} {r : ρ}
    (h : amake P t len cap H K = some r) : ∃ v H', K v H' = some r ∧ Appended P m w (Instr.makeSlice t Len Cap) v H' := by
  unfold amake at h
  split at h
  · rename_i k l k' c
    simp only [R] at hl hc
    subst hl; subst hc
    cases hb : (decide (0 ≤ l) && decide (l ≤ c) && decide (c ≤ 100000)) with
    | false => rw [hb] at h; cases h
    | true =>
      rw [hb] at h
      simp only [cond_true] at h
      simp only [Bool.and_eq_true, decide_eq_true_eq] at hb
      obtain ⟨⟨l0, lc⟩, c0⟩ := hb
      split at h
      · rename_i el hel
        obtain ⟨i, z, hu, hi, hz, hsz, hzs, hby⟩ := smallEl_ok hel
        split at h
        · rename_i z' hz'
          obtain ⟨z0, hz0, hzc⟩ := Option.bind_eq_some_iff.1 hz'
          have ez : z0 = cAV z := by
            unfold zeroA at hz0
            rw [hi] at hz0
            simp [hz] at hz0
            exact hz0.symm
          subst ez
          have hcz := R_cells (R_cAV m z) hzc
          obtain ⟨zv, zr, e1, hzv, hzr⟩ := RL_cons.1 hcz
          have e2 := RL_nil.1 hzr
          subst e2
          have ezc : z.cells = #[zv] := Array.toList_inj.1 e1
          have wl : IntKind.i64.wrap l = l := by rw [wr_eq]; simp only [wr, w64]; omega
          have wc : IntKind.i64.wrap c = c := by rw [wr_eq]; simp only [wr, w64]; omega
          have hbc : (i.bytes : Int) * c ≤ 16 * 100000 := Int.mul_le_mul (by omega) c0 (by omega) (by omega)
          have hroom : c.toNat * i.bytes ≤ 100000 * 16 := Nat.mul_le_mul (by omega) hby
          have hrow : ((Array.range (c.toNat * 1)).map (z.cells[· % z.cells.size]!)) = ⟨List.replicate c.toNat zv⟩ := by
            refine Array.toList_inj.1 ?_
            rw [ezc]
            refine List.ext_getElem (by simp) (fun j h1 h2 => ?_)
            simp [Nat.mod_one]
          have hrun : (Instr.makeSlice t (.int k l) (.int k' c)).run P w = .ok (.slice (some ⟨w.heap.size, 0, none⟩) l.toNat c.toNat) (w.alloc (.cells ⟨List.replicate c.toNat zv⟩ el)) := by
            have t1 : ¬ (c < 0) := by omega
            have t2 : ¬ (281474976710656 < (i.bytes : Int) * c) := by omega
            have t3 : ¬ (l < 0) := by omega
            have t4 : ¬ (c < l) := by omega
            have t5 : ¬ (roomBytes < c.toNat * i.bytes) := by
              have : roomBytes = 140737488355328 := by kernel_rfl
              rw [this]; omega
            rw [Nat.mul_one] at hrow
            by_cases hc0 : c.toNat = 0
            · have e0 : (⟨List.replicate c.toNat zv⟩ : Array Value) = #[] := by rw [hc0]; rfl
              rw [e0]
              simp [Instr.makeSlice, asInt, asIntOf, run_underlying hu, typeInfo, run_typeInfo, sizeOf, hi, hsz, wl, wc, t1, t2, t3, t4, t5, askRoom, newRow, newObj, Sem.run, hc0]
              rw [show (Array.map (fun (_ : Nat) => (default : Value)) (Array.range 0)) = #[] from Array.toList_inj.1 (by simp)]
            · simp [Instr.makeSlice, asInt, asIntOf, run_underlying hu, typeInfo, run_typeInfo, sizeOf, zeroValue, hi, hz, hsz, wl, wc, t1, t2, t3, t4, t5, askRoom, newRow, newObj, hc0]
              rw [hrow]
              simp [Sem.run]
          have hp := hH.pushRow (l := List.replicate l.toNat z') (t := el) (Vs := List.replicate c.toNat zv) (by simp; omega) (by
            rw [List.length_replicate, List.take_replicate, Nat.min_eq_left (by omega)]; exact RL_replicate hzv _)
          rw [List.length_replicate] at hp
          refine ⟨_, _, h, .slice (some ⟨w.heap.size, 0, none⟩) l.toNat c.toNat, _, _, hrun, ?_, hp, ?_⟩
          · simp only [R]
            exact ⟨w.heap.size, c.toNat, by rw [← hH.len]; simp, by rw [← hH.len]; simp, rfl⟩
          · exact (Ext.refl m w).grown (by intro b hb; simp at hb; omega) rfl rfl rfl (by show _ ≤ (w.heap.push _).size; simp) (fun k hk => by show (w.heap.push _)[k]? = _; rw [Array.getElem?_push, if_neg (by omega)])
        · cases h
      · cases h
  · cases h

/-! ### Strings and bytes -/
def bytesL : List AV → Option (List Int)
  | [] => some []
  | .int .u8 n :: l => (bytesL l).map (n :: ·)
  | _ => none
theorem bytesL_ok {m : List Nat} : ∀ {l : List AV} {ns : List Int} {L : List Value}, bytesL l = some ns → RL m l L → L = ns.map (Value.int .u8)
  | [], ns, L, h, hL => by simp [bytesL] at h; subst h; rw [RL_nil.1 hL]; rfl
  | v :: l, ns, L, h, hL => by
    obtain ⟨V, L', rfl, h1, h2⟩ := RL_cons.1 hL
    cases v with
    | int k n =>
      cases k with
      | u8 =>
        simp only [bytesL] at h
        obtain ⟨ns', h3, rfl⟩ := Option.map_eq_some_iff.1 h
        simp only [R] at h1
        rw [h1, bytesL_ok h3 h2]; rfl
      | _ => simp [bytesL] at h
    | _ => simp [bytesL] at h

def strOf (ns : List Int) : ByteArray := ⟨(ns.map fun n => UInt8.ofNat n.toNat).toArray⟩

def isRowConv (P : Program) (src dst : TypeId) : Bool :=
  match P.underlying src, P.underlying dst with
  | some (.slice _), some .string => true
  | some .string, some (.slice _) => true
  | _, _ => false
def aconvR (P : Program) (src dst : TypeId) (x : AV) (H : List AB) (K : AV → List AB → Option ρ) : Option ρ :=
  match P.underlying src, P.underlying dst with
  | some (.slice e), some .string =>
    match P.underlying e with
    | some (.int .u8) =>
      match (rowOf H x).bind bytesL with
      | some ns => K (.str (strOf ns)) H
      | none => none
    | _ => none
  | some .string, some (.slice e) =>
    match P.underlying e, x with
    | some (.int .u8), .str s => K (.own H.length s.size) (H ++ [.ro (s.data.toList.map fun b => .int .u8 b.toNat) e, .dead])
    | some (.int .u8), .strG _ n g => K (.own H.length n) (H ++ [.ro ((List.range n).map fun i => .int .u8 (g i)) e, .dead])
    | _, _ => none
  | _, _ => none

theorem foldl_push : ∀ (ns : List Int) (s : ByteArray), ns.foldl (fun r n => r.push (UInt8.ofNat n.toNat)) s = ⟨s.data ++ (ns.map fun n => UInt8.ofNat n.toNat).toArray⟩
  | [], s => by simp
  | n :: ns, s => by
    rw [List.foldl_cons, foldl_push ns]
    simp [ByteArray.push]

theorem RL_bytes (m : List Nat) : ∀ l : List UInt8, RL m (l.map fun b => AV.int .u8 (b.toNat : Int)) (l.map fun b => Value.int .u8 (b.toNat : Int))
  | [] => RL_nil.2 rfl
  | b :: l => RL.cons (R_int _ _ _) (RL_bytes m l)

theorem aconvR_ok {P : Program} {m : List Nat} {src dst : TypeId} {x : AV} {X : Value} (hx : R m x X) {H : List AB} {w : World} (hH : HR m H w) {K : AV → List AB → Option ρ} {r : ρ}
    (h : aconvR P src dst x H K = some r) : ∃ v H', K v H' = some r ∧ Appended P m w (convert src dst X) v H' := by
  unfold aconvR at h
  split at h
  · rename_i e hs hd
    split at h
    · rename_i he
      split at h
      · rename_i ns hns
        obtain ⟨l, h1, h2⟩ := Option.bind_eq_some_iff.1 hns
        obtain ⟨L, hL, hrow⟩ := rowOf_ok hH hx h1
        have eL := bytesL_ok h2 hL
        refine ⟨_, _, h, .string (strOf ns), w, m, ?_, R_str _ _, hH, Ext.refl m w⟩
        rcases hrow with ⟨rfl, e0⟩ | ⟨b, o, cap, rfl, _, hc⟩
        · rw [e0] at eL
          have : ns = [] := by simpa using eL.symm
          subst this
          rw [run_convert_bytes_string w src dst e none 0 0 hs he hd]
          simp [Conv.bytesToString]; rfl
        · rw [run_convert_bytes_string w src dst e _ _ _ hs he hd]
          rw [run_bytesToString w ⟨b, o, none⟩ L.length cap ns (by
            have := run_loadCells_list (P := P) w ⟨b, o, none⟩ L (fun j v hj => by rw [addr_add]; exact hc j v hj)
            rw [this, eL])]
          rw [foldl_push]
          simp [strOf]
      · cases h
    · cases h
  · rename_i e hs hd
    split at h
    · rename_i s he
      simp only [R] at hx
      subst hx
      obtain ⟨k, hk⟩ := grownCap_ge w s.size 0 e
      have hr := Lib.run_convert_string_bytes (P := P) w src dst e s hs hd he
      have hcells : Lib.bytesCells w e s = ⟨(s.data.toList.map fun b => Value.int .u8 (b.toNat : Int)) ++ List.replicate k (.int .u8 0)⟩ := by
        unfold Lib.bytesCells
        rw [hk]
        refine Array.toList_inj.1 ?_
        simp
      have hnew := Lib.bytesWorld_at_new w e s
      rw [hcells] at hnew
      have hlen : (s.data.toList.map fun b => AV.int .u8 (b.toNat : Int)).length = s.size := by simp
      have hp := hH.pushRo (w' := Lib.bytesWorld w e s) (l := s.data.toList.map fun b => AV.int .u8 (b.toNat : Int)) (t := e) (c := s.size + k) (by simp) (by
        rw [List.take_append_of_le_length (by simp), List.take_of_length_le (by simp)]; exact RL_bytes m _) (Lib.bytesWorld_at_old w e s) hnew
      refine ⟨_, _, h, .slice (some ⟨w.heap.size, 0, none⟩) s.size (s.size + k), _, _, by rw [hr, hk], ?_, hp, ?_⟩
      · simp only [R]
        exact ⟨w.heap.size, s.size + k, by rw [← hH.len]; simp, by rw [← hH.len]; simp, rfl⟩
      · exact (Ext.refl m w).grown (by intro b hb; simp at hb; omega) (by simp [Lib.bytesWorld, World.freeze, World.alloc, World.drew, -World.alloc_eq, -World.drew_eq]) (by simp [Lib.bytesWorld, World.freeze, World.alloc, World.drew, -World.alloc_eq, -World.drew_eq]) (by simp [Lib.bytesWorld, World.freeze, World.alloc, World.drew, -World.alloc_eq, -World.drew_eq]) (by rw [Lib.bytesWorld_size]; omega) (fun k hk => Lib.bytesWorld_at_old w e s k hk)
    · rename_i s n g he
      simp only [R] at hx
      obtain ⟨hX, hn, hg⟩ := hx
      subst hX; subst hn
      have eL : ((List.range s.size).map fun i => AV.int .u8 (g i)) = s.data.toList.map fun b => AV.int .u8 (b.toNat : Int) := by
        refine List.ext_getElem (by simp) (fun i h1 h2 => ?_)
        simp only [List.getElem_map, List.getElem_range]
        simp at h1
        rw [← hg i h1]
        have hi : i < s.data.size := h1
        rw [Array.getD_eq_getD_getElem?, Array.getElem?_eq_getElem hi]
        simp
      rw [eL] at h
      obtain ⟨k, hk⟩ := grownCap_ge w s.size 0 e
      have hr := Lib.run_convert_string_bytes (P := P) w src dst e s hs hd he
      have hcells : Lib.bytesCells w e s = ⟨(s.data.toList.map fun b => Value.int .u8 (b.toNat : Int)) ++ List.replicate k (.int .u8 0)⟩ := by
        unfold Lib.bytesCells
        rw [hk]
        refine Array.toList_inj.1 ?_
        simp
      have hnew := Lib.bytesWorld_at_new w e s
      rw [hcells] at hnew
      have hlen : (s.data.toList.map fun b => AV.int .u8 (b.toNat : Int)).length = s.size := by simp
      have hp := hH.pushRo (w' := Lib.bytesWorld w e s) (l := s.data.toList.map fun b => AV.int .u8 (b.toNat : Int)) (t := e) (c := s.size + k) (by simp) (by
        rw [List.take_append_of_le_length (by simp), List.take_of_length_le (by simp)]; exact RL_bytes m _) (Lib.bytesWorld_at_old w e s) hnew
      refine ⟨_, _, h, .slice (some ⟨w.heap.size, 0, none⟩) s.size (s.size + k), _, _, by rw [hr, hk], ?_, hp, ?_⟩
      · simp only [R]
        exact ⟨w.heap.size, s.size + k, by rw [← hH.len]; simp, by rw [← hH.len]; simp, rfl⟩
      · exact (Ext.refl m w).grown (by intro b hb; simp at hb; omega) (by simp [Lib.bytesWorld, World.freeze, World.alloc, World.drew, -World.alloc_eq, -World.drew_eq]) (by simp [Lib.bytesWorld, World.freeze, World.alloc, World.drew, -World.alloc_eq, -World.drew_eq]) (by simp [Lib.bytesWorld, World.freeze, World.alloc, World.drew, -World.alloc_eq, -World.drew_eq]) (by rw [Lib.bytesWorld_size]; omega) (fun k hk => Lib.bytesWorld_at_old w e s k hk)
    · cases h
  · cases h
end
end Go.Proofs.Ytcagaaaibhifdaa.Ae

/- The interpreter of regions and of code, and that what it finds is what the model's call comes to. Conditions: each function that is looked up in the list of contracts has the contract that stands there. -/
namespace Go.Proofs.Ytcagaaaibhifdaa.Ae
open Go

/-- How a function is taken: by a contract without memory, by one with memory, by the library's own row, or by its text. -/
inductive Spec where
  | pure (C : List AV → Bool) (F : List AV → Option AV)
  | eff (C : List AV → Bool) (F : List AV → List AB → Option (AV × List AB))
  | ext (C : List AV → Bool) (F : List AV → Option AV)
  | calc (F : List AV → Option AV)
  | flow (T : TypeId) (F : List AV → Option (Bool → AV × Bool))
  | clo (T : TypeId) (F : List AV → Option (Bool → AV × Bool))
  | text

/-- F: what the arguments behind the flow come to; g: the answer, and whether the flow is bad. -/
def flowSpec (T : TypeId) (F : List AV → Option (Bool → AV × Bool)) : List AV → List AB → Option (AV × List AB)
  | .ptr j 0 :: rest, H =>
    match H[j]? with
    | some (.cells [.bool b] t) =>
      bif Nat.beq t T && AV.noPtrL rest then
        match F rest with
        | some g => some ((g b).1, H.set j (.cells [.bool (g b).2] T))
        | none => none
      else none
    | _ => none
  | _, _ => none

/-- A function value of two arguments that keeps where the flow's pointer lies. -/
def cloSpec (T : TypeId) (F : List AV → Option (Bool → AV × Bool)) : List AV → List AB → Option (AV × List AB)
  | [a, b, .ptr x 0], H =>
    match H[x]? with
    | some (.cells [.ptr j 0] _) =>
      match H[j]? with
      | some (.cells [.bool y] t) =>
        bif Nat.beq t T && AV.noPtrL [a, b] then
          match F [a, b] with
          | some g => some ((g y).1, H.set j (.cells [.bool (g y).2] T))
          | none => none
        else none
      | _ => none
    | _ => none
  | _, _ => none

def EnterOk (P : Program) (f : FuncId) : Prop := ∀ Args w, (callFunc f Args).run P w = .ok (.enter f Args) w
def PureOk (P : Program) (f : FuncId) (C : List AV → Bool) (F : List AV → Option AV) : Prop := ∀ args v, C args = true → F args = some v → ∀ m (Args : Array Value) w, RL m args Args.toList →
  Calls P f Args w fun e w' => ∃ V, e = .returned V ∧ R [] v V ∧ Ext [] w [] w'
def EffOk (P : Program) (f : FuncId) (C : List AV → Bool) (F : List AV → List AB → Option (AV × List AB)) : Prop := ∀ args H v H', C args = true → F args H = some (v, H') → ∀ m (Args : Array Value) w, RL m args Args.toList → HR m H w →
  Calls P f Args w fun e w' => ∃ V m', e = .returned V ∧ R m' v V ∧ HR m' H' w' ∧ Ext m w m' w'
def ExtOk (P : Program) (f : FuncId) (C : List AV → Bool) (F : List AV → Option AV) : Prop := ∀ args v, C args = true → F args = some v → ∀ m (Args : Array Value), RL m args Args.toList → ∃ V, R m v V ∧ ∀ w, (callFunc f Args).run P w = .ok (.value V) w

def SpecOk (P : Program) (f : FuncId) : Spec → Prop
  | .pure C F => EnterOk P f ∧ PureOk P f C F
  | .eff C F => EnterOk P f ∧ EffOk P f C F
  | .ext C F => ExtOk P f C F
  | .calc F => EnterOk P f ∧ PureOk P f (fun _ => true) F
  | .flow T F => EnterOk P f ∧ EffOk P f (fun _ => true) (flowSpec T F)
  | .clo T F => EnterOk P f ∧ EffOk P f (fun _ => true) (cloSpec T F)
  | .text => EnterOk P f

abbrev Env := List (FuncId × Spec)
def envGet : Env → FuncId → Option Spec
  | [], _ => none
  | (g, s) :: env, f => bif Nat.beq g f then some s else envGet env f
def EnvOk (P : Program) (env : Env) : Prop := ∀ f s, envGet env f = some s → SpecOk P f s

theorem EnvOk.nil (P : Program) : EnvOk P [] := fun f s h => by simp [envGet] at h
theorem EnvOk.cons {P : Program} {f : FuncId} {s : Spec} {env : Env} (h : SpecOk P f s) (t : EnvOk P env) : EnvOk P ((f, s) :: env) := fun g u hg => by
  simp only [envGet] at hg
  cases hb : Nat.beq f g with
  | true => rw [hb] at hg; simp only [cond_true, Option.some.injEq] at hg; rw [← Nat.eq_of_beq_eq_true hb, ← hg]; exact h
  | false => rw [hb] at hg; exact t g u hg
theorem EnvOk.append {P : Program} : ∀ {e1 e2 : Env}, EnvOk P e1 → EnvOk P e2 → EnvOk P (e1 ++ e2)
  | [], _, _, h2 => h2
  | (g, s) :: e1, e2, h1, h2 => fun f u hf => by
    simp only [List.cons_append, envGet] at hf
    cases hb : Nat.beq g f with
    | true => rw [hb] at hf; exact h1 f u (by simp only [envGet, hb]; exact hf)
    | false =>
      rw [hb] at hf
      simp only [cond_false] at hf
      by_cases hin : ∃ q : Spec, envGet e1 f = some q
      · obtain ⟨q, hq⟩ := hin
        have key : ∀ (e1 : Env), envGet e1 f = some q → envGet (e1 ++ e2) f = some q := by
          intro e1
          induction e1 with
          | nil => intro h; simp [envGet] at h
          | cons p e1 ih =>
            obtain ⟨g', s'⟩ := p
            intro h
            simp only [List.cons_append, envGet] at h ⊢
            cases hb' : Nat.beq g' f with
            | true => rw [hb'] at h; exact h
            | false => rw [hb'] at h; exact ih h
        rw [key e1 hq] at hf
        cases hf
        exact h1 f u (by simp only [envGet, hb]; exact hq)
      · have key : ∀ (e1 : Env), (¬ ∃ q : Spec, envGet e1 f = some q) → envGet (e1 ++ e2) f = envGet e2 f := by
          intro e1
          induction e1 with
          | nil => intro _; rfl
          | cons p e1 ih =>
            obtain ⟨g', s'⟩ := p
            intro h
            simp only [List.cons_append, envGet] at h ⊢
            cases hb' : Nat.beq g' f with
            | true => rw [hb'] at h; exact absurd ⟨s', rfl⟩ h
            | false => rw [hb'] at h; exact ih h
        rw [key e1 hin] at hf
        exact h2 f u hf

section
variable {ρ : Type}

/-- Built-in functions of numbers, and len. -/
def abuiltin (P : Program) (b : Builtin) (ts : Array TypeId) (args : List AV) (K : AV → Option ρ) : Option ρ :=
  match b, args with
  | .len, [x] =>
    match ts[0]? with
    | some t =>
      match P.underlying t, x with
      | some .string, .str s => K (.int .i64 s.size)
      | some .string, .strG _ n _ => K (.int .i64 n)
      | some .string, .strF s lo _ ex => K (.intF .i64 s.size [(lo : Int)] [] ex)
      | some (.array n _), _ => K (.int .i64 n)
      | some (.slice _), .slice _ _ n _ => K (.int .i64 n)
      | some (.slice _), .nils => K (.int .i64 0)
      | some (.slice _), .own _ n => K (.int .i64 n)
      | _, _ => none
    | none => none
  | .max, [.int k x, .int _ y] => K (.int k (if y > x then y else x))
  | .min, [.int k x, .int _ y] => K (.int k (if y < x then y else x))
  | _, _ => none

def aput (n : Nat) (dst : Option Tmp) (v : AV) (T : List (Nat × AV)) (K : List (Nat × AV) → Option ρ) : Option ρ :=
  match dst with
  | none => K T
  | some d => bif Nat.ble (d + 1) n then K ((d, v) :: T) else none

/-- An operation under its guard: what is known of the guard is kept. -/
def aguard (ops : Array Oper) (n : Nat) (o : Oper) (T : List (Nat × AV)) (run skip : List (Nat × AV) → Option ρ) : Option ρ :=
  match o.guard with
  | none => run T
  | some (j, want) =>
    match (ops[j]?).bind (·.dst) with
    | none => none
    | some d =>
      bif Nat.ble (d + 1) n then
        match get T d with
        | .bool x => bif x then (if want then run ((d, .bool true) :: T) else skip ((d, .bool true) :: T)) else (if want then skip ((d, .bool false) :: T) else run ((d, .bool false) :: T))
        | _ => none
      else none

def isMem : Op → Bool
  | .alloc _ | .box .. | .buildSlice .. | .store .. | .makeMap .. | .mapUpdate .. | .insert .. => true
  | _ => false

/-- One operation of a region that doesn't draw. -/
def aexec (P : Program) (doCall : FuncId → List AV → List AB → (AV → List AB → Option ρ) → Option ρ) (o : Oper) (T : List (Nat × AV)) (H : List AB) (K : AV → List AB → Option ρ) : Option ρ :=
  match o.op with
  | .call c =>
    match c.callee with
    | .value f =>
      match ev T f with
      | .fn fid cap => doCall fid (c.args.toList.map (ev T) ++ cap) H K
      | _ => none
    | .builtin b =>
      match b with
      | .append => aappend P c.argTypes (c.args.toList.map (ev T)) H K
      | b => abuiltin P b c.argTypes (c.args.toList.map (ev T)) fun v => K v H
    | .invoke .. => none
  | .load t a =>
    match loadA P H t (ev T a) with
    | some v => K v H
    | none => none
  | .lookup t x k ok =>
    match lookupA P H t (ev T x) (ev T k) ok with
    | some v => K v H
    | none => none
  | .makeSlice t l c => amake P t (ev T l) (ev T c) H K
  | .convert s d x => bif isRowConv P s d then aconvR P s d (ev T x) H K else apure P (ev T) (.convert s d x) fun v => K v H
  | op => bif isMem op then amem P (ev T) H op K else apure P (ev T) op fun v => K v H

def aops (P : Program) (doCall : FuncId → List AV → List AB → (AV → List AB → Option ρ) → Option ρ) (ops : Array Oper) (n : Nat) :
    List Oper → List (Nat × AV) → List AB → (List (Nat × AV) → List AB → Option ρ) → Option ρ
  | [], T, H, K => K T H
  | o :: rest, T, H, K =>
    aguard ops n o T
      (fun T => aexec P doCall o T H fun v H => aput n o.dst v T fun T => aops P doCall ops n rest T H K)
      (fun T => aput n o.dst .any T fun T => aops P doCall ops n rest T H K)

/-! ### Guarded operations carried out ahead of what is known of their guard; ways that meet again -/
/-- What a guarded operation has found: its slot, the guard's slot and what is wanted there, the value. -/
abbrev Weak := List (Nat × Nat × Bool × AV)
def wget : Weak → Nat → Option (Nat × Bool × AV)
  | [], _ => none
  | (d, s, w, v) :: G, i => bif Nat.beq d i then some (s, w, v) else wget G i
/-- Is a slot a guard of one of them? -/
def wguards : Weak → Nat → Bool
  | [], _ => false
  | (_, s, _, _) :: G, i => Nat.beq s i || wguards G i
def inCtx : List (Nat × Bool) → Nat → Bool → Bool
  | [], _, _ => false
  | (s, w) :: c, i, x => (Nat.beq s i && (w == x)) || inCtx c i x

def evC (T : List (Nat × AV)) (G : Weak) (ctx : List (Nat × Bool)) : Operand → AV
  | .tmp i =>
    match wget G i with
    | some (s, w, v) => bif inCtx ctx s w then v else .any
    | none => get T i
  | x => ev T x

def isConstInt : Operand → Bool
  | .const (.int _ n) => !(n == 0)
  | _ => false
/-- Operations whose going through doesn't hang on what numbers they are given. -/
def isSpec : Op → Bool
  | .move _ | .assign _ | .unOp .. | .convert .. | .fieldAddr .. | .field .. | .extract .. | .load .. | .pick (.tmp _) _ _ | .nilCheck _ => true
  | .binOp op _ _ y _ =>
    match op with
    | .quo | .rem | .shl | .shr => isConstInt y
    | _ => true
  | .indexAddr _ _ i | .index _ _ i => match i with
    | .const _ => true
    | _ => false
  | .call c => match c.callee with
    | .builtin .len | .builtin .max | .builtin .min => true
    | _ => false
  | _ => false

/-- An operation that touches no more than memory that it reads, by what the operands are said to be. -/
def aread (P : Program) (e : Operand → AV) (H : List AB) (o : Op) : Option AV :=
  match o with
  | .call c =>
    match c.callee with
    | .builtin b => abuiltin P b c.argTypes (c.args.toList.map e) some
    | _ => none
  | .load t a => loadA P H t (e a)
  | op => bif isMem op then none else apure P e op some

/-- .. and a choice by a slot, each way read where the slot says so. -/
def areadC (P : Program) (T : List (Nat × AV)) (G : Weak) (ctx : List (Nat × Bool)) (H : List AB) (o : Op) : Option AV :=
  match o with
  | .pick (.tmp s) a b =>
    match evC T G ctx (.tmp s) with
    | .bool x => some (mergeAV x (evC T G ((s, true) :: ctx) a) (evC T G ((s, false) :: ctx) b))
    | _ => none
  | op => aread P (evC T G ctx) H op

/-- Is a slot neither a guard nor guarded? -/
def dstFree (G : Weak) : Option Tmp → Bool
  | some d => !(wguards G d) && (wget G d).isNone
  | none => true

/-- A region whose guarded operations are all of that kind. -/
def aopsS (P : Program) (doCall : FuncId → List AV → List AB → (AV → List AB → Option ρ) → Option ρ) (ops : Array Oper) (n : Nat) :
    List Oper → List (Nat × AV) → Weak → List AB → (List (Nat × AV) → List AB → Option ρ) → Option ρ
  | [], T, _, H, K => K T H
  | o :: rest, T, G, H, K =>
    match o.guard with
    | none =>
      bif dstFree G o.dst then
        bif isSpec o.op then
          match areadC P T G [] H o.op with
          | some v => aput n o.dst v T fun T => aopsS P doCall ops n rest T G H K
          | none => none
        else aexec P doCall o T H fun v H => aput n o.dst v T fun T => aopsS P doCall ops n rest T G H K
      else none
    | some (j, want) =>
      match (ops[j]?).bind (·.dst), o.dst with
      | some s, some d =>
        bif Nat.ble (d + 1) n && !(Nat.beq d s) && !(wguards G d) then
          match areadC P T G [(s, want)] H o.op with
          | some v => aopsS P doCall ops n rest ((d, .any) :: T) ((d, s, want, v) :: G) H K
          | none => none
        else none
      | _, _ => none

/-- Are all guarded operations of that kind (and is there one)? -/
def specAll (ops : Array Oper) : Bool := ops.toList.any (fun o => o.guard.isSome) && ops.toList.all (fun o => match o.guard with | none => true | some _ => isSpec o.op)

/-- A call that only reckons. -/
def acalc (env : Env) (e : Operand → AV) (c : Call) : Option AV :=
  match c.callee with
  | .value (.func f) =>
    match envGet env f with
    | some (.calc F) =>
      match F (c.args.toList.map e) with
      | some v => bif v.noPtr then some v else none
      | none => none
    | _ => none
  | _ => none
def isCalc (env : Env) : Op → Bool
  | .call c =>
    match c.callee with
    | .value (.func f) =>
      match envGet env f with
      | some (.calc _) => true
      | _ => false
    | _ => false
  | _ => false
def isStore : Op → Bool
  | .store .. => true
  | _ => false

def asval (P : Program) (env : Env) (T : List (Nat × AV)) (G : Weak) (H : List AB) (op : Op) : Option AV :=
  match op with
  | .call c => bif isCalc env (.call c) then acalc env (ev T) c else areadC P T G [] H (.call c)
  | op => areadC P T G [] H op

/-- Operations that reckon, and stores, in one way; the blocks that are written are told. -/
def asops (P : Program) (env : Env) (ops : Array Oper) (n : Nat) : List Oper → List (Nat × AV) → Weak → List AB → List Nat → Option (List (Nat × AV) × List AB × List Nat)
  | [], T, _, H, W => some (T, H, W)
  | o :: rest, T, G, H, W =>
    match o.guard with
    | none =>
      bif dstFree G o.dst then
        match o.op with
        | .store t a x =>
          match o.dst, ev T a with
          | none, .ptr i _ =>
            match amem P (ev T) H (.store t a x) (fun _ H' => some H') with
            | some H' => asops P env ops n rest T G H' (i :: W)
            | none => none
          | _, _ => none
        | op =>
          match asval P env T G H op with
          | some v =>
            match o.dst with
            | none => asops P env ops n rest T G H W
            | some d => bif Nat.ble (d + 1) n then asops P env ops n rest ((d, v) :: T) G H W else none
          | none => none
      else none
    | some (j, want) =>
      match (ops[j]?).bind (·.dst), o.dst with
      | some s, some d =>
        bif Nat.ble (d + 1) n && !(Nat.beq d s) && !(wguards G d) then
          match areadC P T G [(s, want)] H o.op with
          | some v => asops P env ops n rest ((d, .any) :: T) ((d, s, want, v) :: G) H W
          | none => none
        else none
      | _, _ => none

/-- Code that only reckons, and stores, in one way. -/
def simple (env : Env) : Code → Bool
  | .skip => true
  | .region _ ops false => ops.toList.all (fun o => isSpec o.op || (o.guard.isNone && (isStore o.op || isCalc env o.op)))
  | .seq a b => simple env a && simple env b
  | _ => false
/-- The slots that such code writes. -/
def writes : Code → List Nat
  | .region _ ops _ => ops.toList.filterMap (·.dst)
  | .seq a b => writes a ++ writes b
  | _ => []
def asimple (P : Program) (env : Env) (n : Nat) : Code → List (Nat × AV) → List AB → List Nat → Option (List (Nat × AV) × List AB × List Nat)
  | .skip, T, H, W => some (T, H, W)
  | .region _ ops false, T, H, W => asops P env ops n ops.toList T [] H W
  | .seq a b, T, H, W =>
    match asimple P env n a T H W with
    | some (T', H', W') => asimple P env n b T' H' W'
    | none => none
  | _, _, _, _ => none
def mergeT (x : Bool) (Ta Tb : List (Nat × AV)) : List Nat → List (Nat × AV) → List (Nat × AV)
  | [], T => T
  | d :: ds, T => (d, mergeAV x (get Ta d) (get Tb d)) :: mergeT x Ta Tb ds T
def mergeB (x : Bool) : AB → AB → Option AB
  | .cells l t, .cells l' t' => bif Nat.beq t t' && Nat.beq l.length l'.length then some (.cells (mergeL x l l') t) else none
  | _, _ => none
def mergeH (x : Bool) (Ha Hb : List AB) : List Nat → List AB → Option (List AB)
  | [], H => some H
  | i :: is, H =>
    match Ha[i]?, Hb[i]? with
    | some A, some B =>
      match mergeB x A B with
      | some C => mergeH x Ha Hb is (H.set i C)
      | none => none
    | _, _ => none

/-- One operation of a region that draws its order: it reads, or calls what writes nothing. -/
def aexecQ (P : Program) (env : Env) (o : Oper) (T : List (Nat × AV)) (H : List AB) (K : AV → Option ρ) : Option ρ :=
  match o.op with
  | .call c =>
    match c.callee with
    | .value f =>
      match ev T f with
      | .fn fid [] =>
        match envGet env fid with
        | some (.pure C F) =>
          bif C (c.args.toList.map (ev T)) then
            match F (c.args.toList.map (ev T)) with
            | some v => bif v.noPtr then K v else none
            | none => none
          else none
        | _ => none
      | _ => none
    | .builtin b => abuiltin P b c.argTypes (c.args.toList.map (ev T)) K
    | .invoke .. => none
  | .load t a =>
    match loadA P H t (ev T a) with
    | some v => K v
    | none => none
  | op => bif isMem op then none else apure P (ev T) op K

def aopsQ (P : Program) (env : Env) (ops : Array Oper) (n : Nat) (H : List AB) :
    List Oper → List (Nat × AV) → (List (Nat × AV) → Option ρ) → Option ρ
  | [], T, K => K T
  | o :: rest, T, K =>
    aguard ops n o T
      (fun T => aexecQ P env o T H fun v => aput n o.dst v T fun T => aopsQ P env ops n H rest T K)
      (fun T => aput n o.dst .any T fun T => aopsQ P env ops n H rest T K)

/-! ### Regions that draw their order, with calls that write -/
/-- A call by a contract. -/
def dcD (env : Env) : FuncId → List AV → List AB → (AV → List AB → Option ρ) → Option ρ := fun fid args H K =>
  match envGet env fid with
  | some (.pure C F) =>
    bif C args then
      match F args with
      | some v => bif v.noPtr then K v H else none
      | none => none
    else none
  | some (.ext C F) =>
    bif C args then
      match F args with
      | some v => K v H
      | none => none
    else none
  | some (.calc F) =>
    match F args with
    | some v => bif v.noPtr then K v H else none
    | none => none
  | some (.flow T F) =>
    match flowSpec T F args H with
    | some (v, H') => K v H'
    | none => none
  | some (.clo T F) =>
    match cloSpec T F args H with
    | some (v, H') => K v H'
    | none => none
  | _ => none

/-- What an operation touches of memory. -/
inductive Foot where
  | none
  | rd (b : Nat)
  | wt (b : Nat)
  | al (b : Nat)
  | rw (r b : Nat)
  | put (b : Nat) (k : MK)
  | all
def Foot.clash : Foot → Foot → Bool
  | .none, _ => false
  | _, .none => false
  | .all, _ => true
  | _, .all => true
  | .rd _, .rd _ => false
  | .al _, .al _ => true
  | .rd a, .wt b => Nat.beq a b
  | .rd a, .al b => Nat.beq a b
  | .wt a, .rd b => Nat.beq a b
  | .wt a, .wt b => Nat.beq a b
  | .wt a, .al b => Nat.beq a b
  | .al a, .rd b => Nat.beq a b
  | .al a, .wt b => Nat.beq a b
  | .rd a, .rw _ b => Nat.beq a b
  | .rw _ b, .rd a => Nat.beq b a
  | .wt a, .rw r b => Nat.beq a b || Nat.beq a r
  | .rw r b, .wt a => Nat.beq b a || Nat.beq r a
  | .al a, .rw r b => Nat.beq a b || Nat.beq a r
  | .rw r b, .al a => Nat.beq b a || Nat.beq r a
  | .rw r b, .rw r' b' => Nat.beq b b' || Nat.beq r b' || Nat.beq b r'
  | .rd a, .put b _ => Nat.beq a b
  | .put b _, .rd a => Nat.beq b a
  | .wt a, .put b _ => Nat.beq a b
  | .put b _, .wt a => Nat.beq b a
  | .al a, .put b _ => Nat.beq a b
  | .put b _, .al a => Nat.beq b a
  | .rw r c, .put b _ => Nat.beq c b || Nat.beq r b
  | .put b _, .rw r c => Nat.beq b c || Nat.beq b r
  | .put b k, .put b' k' => Nat.beq b b' && keqB k k'
/-- The operations that may stand in such a region, with what they touch. -/
def footOf (P : Program) (env : Env) (T : List (Nat × AV)) (H : List AB) (o : Op) : Option Foot :=
  match o with
  | .move _ | .assign _ | .pick .. | .nilCheck _ | .binOp .. | .unOp .. | .fieldAddr .. | .field .. | .extract .. | .index .. | .indexAddr .. | .build .. => some .none
  | .convert s d _ => bif isRowConv P s d then some .all else some .none
  | .makeSlice .. | .buildSlice .. | .box .. => some .all
  | .makeMap .. => some (.al H.length)
  | .mapUpdate t x k _ | .insert t x k _ =>
    match mapT P t, ev T x with
    | some (two, _), .map b =>
      match keyA two (ev T k) with
      | some k => some (.put b k)
      | none => none
    | _, _ => none
  | .lookup _ x _ _ => match ev T x with
    | .map b => some (.rd b)
    | _ => none
  | .load _ a => match ev T a with
    | .ptr b _ => some (.rd b)
    | _ => none
  | .store _ a _ => match ev T a with
    | .ptr b _ => some (.wt b)
    | _ => none
  | .alloc _ => some (.al H.length)
  | .call c =>
    match c.callee with
    | .value (.func f) =>
      match envGet env f with
      | some (.pure ..) | some (.ext ..) | some (.calc _) => some .none
      | some (.flow ..) =>
        match c.args.toList.map (ev T) with
        | .ptr j _ :: _ => some (.wt j)
        | _ => none
      | _ => none
    | .builtin b =>
      match b with
      | .append => some .all
      | _ => some .none
    | .value f =>
      match ev T f with
      | .fn fid cap =>
        match envGet env fid, c.args.toList.map (ev T) ++ cap with
        | some (.clo ..), [_, _, .ptr x 0] =>
          match H[x]? with
          | some (.cells [.ptr j 0] _) => some (.rw x j)
          | _ => none
        | _, _ => none
      | _ => none
    | _ => none
  | _ => none

abbrev Foots := List Foot
/-- All that stand behind an operation. -/
def descL (i : Nat) : List Oper → List Bool → List Bool
  | [], D => D
  | o :: l, D => descL i l (D ++ [o.after.toList.any fun e => Region.binds .any e && (Nat.beq e.on i || D.getD e.on false)])
def closedB (i : Nat) (D : List Bool) : Nat → List Oper → Bool
  | _, [] => true
  | k, o :: l => (!(D.getD k false) || o.after.toList.any fun e => Region.binds .any e && (Nat.beq e.on i || D.getD e.on false)) && closedB i D (k + 1) l
/-- Is the operation i free of all that stand behind it in the text and not behind it by what is told? -/
def freeFrom (ops : Array Oper) (oi : Oper) (fi : Foot) (D : List Bool) : Nat → List Oper → Foots → Bool
  | _, [], _ => true
  | _, _ :: _, [] => false
  | k, o :: l, f :: F => (D.getD k false || (oi.apart ops o && !(fi.clash f))) && freeFrom ops oi fi D (k + 1) l F
def orderedB (ops : Array Oper) : Nat → List Oper → Foots → Bool
  | _, [], _ => true
  | _, _ :: _, [] => false
  | k, o :: l, f :: F => (let D := descL k ops.toList []; ((D.take (k + 1)).all fun b => !b) && closedB k D 0 ops.toList && freeFrom ops o f D (k + 1) l F) && orderedB ops (k + 1) l F
/-- In the text's order, each behind what it is told to stand behind. -/
def lexOk (ops : Array Oper) : Nat → Nat → Array Bool → Bool
  | 0, _, listed => (Region.ready .any ops listed).isEmpty
  | f + 1, k, listed => (Region.ready .any ops listed).contains k && lexOk ops f (k + 1) (listed.setIfInBounds k true)

def aopsO (chk : Foots → Bool) (P : Program) (env : Env) (ops : Array Oper) (n : Nat) :
    List Oper → List (Nat × AV) → List AB → Foots → (List (Nat × AV) → List AB → Option ρ) → Option ρ
  | [], T, H, F, K => bif chk F.reverse && orderedB ops 0 ops.toList F.reverse then K T H else none
  | o :: rest, T, H, F, K =>
    aguard ops n o T
      (fun T => match footOf P env T H o.op with
        | some f => aexec P (dcD env) o T H fun v H => aput n o.dst v T fun T => aopsO chk P env ops n rest T H (f :: F) K
        | none => none)
      (fun T => aput n o.dst .any T fun T => aopsO chk P env ops n rest T H (.none :: F) K)

/-! ### Regions in which more than one block is made: the blocks are numbered by the text's order, whatever order is drawn -/
/-- A block that is made: by which operation, into which slot, its cells, its kind. -/
structure Va where
  (i : Nat)
  d : Nat
  l : List AV
  t : TypeId
def vasOf (P : Program) : Nat → List Oper → List Va
  | _, [] => []
  | i, o :: rest =>
    match o.op, o.dst with
    | .alloc t, some d =>
      match (zeroA P t).bind cellsOf? with
      | some l => ⟨i, d, l, t⟩ :: vasOf P (i + 1) rest
      | none => vasOf P (i + 1) rest
    | _, _ => vasOf P (i + 1) rest
def isAllocB : Op → Bool
  | .alloc _ => true
  | _ => false
/-- In place of a making: the number of the block, out of a slot behind all others. -/
def devirt (n : Nat) (o : Oper) : Oper :=
  match o.op, o.dst with
  | .alloc _, some d => { o with op := .move (.tmp (n + d)) }
  | _, _ => o
def slotIn (A : List Va) (t : Nat) : Bool := A.any fun a => Nat.beq a.d t
def aftAll (A : List Va) (o : Oper) : Bool := A.all fun a => o.after.toList.any fun e => Region.binds .any e && Nat.beq e.on a.i
def lowF (L : Nat) : Foot → Bool
  | .none => true
  | .rd b | .wt b | .put b _ => Nat.ble (b + 1) L
  | .rw r b => Nat.ble (r + 1) L && Nat.ble (b + 1) L
  | _ => false
def chkOp (A : List Va) (ops : Array Oper) (n L i : Nat) (o : Oper) (f : Foot) : Bool :=
  o.guard.isNone && bif isAllocB o.op then A.any (fun a => Nat.beq a.i i) && o.after.isEmpty
    else (match o.dst with | some d => Nat.ble (d + 1) n && !(slotIn A d) | none => true) && (o.looksAt ops).all (fun t => Nat.ble (t + 1) n) &&
      (aftAll A o || ((o.looksAt ops).all (fun t => !(slotIn A t)) && lowF L f))
def chkAll (A : List Va) (ops : Array Oper) (n L : Nat) : Nat → List Oper → Foots → Bool
  | _, [], _ => true
  | _, _ :: _, [] => false
  | i, o :: l, f :: F => chkOp A ops n L i o f && chkAll A ops n L (i + 1) l F
def slotsOf (n : Nat) : Nat → List Va → List (Nat × AV)
  | _, [] => []
  | k, a :: A => (n + a.d, .ptr k 0) :: slotsOf n (k + 1) A
def vaBlk (a : Va) : AB := .cells a.l a.t
def maskF (n : Nat) (A : List Va) (T : List (Nat × AV)) : List (Nat × AV) := A.map (fun a => (n + a.d, AV.any)) ++ T
def distB : List Va → Bool
  | [] => true
  | a :: A => !(slotIn A a.d) && distB A
def aopsV (P : Program) (env : Env) (ops : Array Oper) (n : Nat) (A : List Va) (T : List (Nat × AV)) (H : List AB) (K : List (Nat × AV) → List AB → Option ρ) : Option ρ :=
  bif distB A && A.all (fun a => Nat.ble (a.d + 1) n && AV.noPtrL a.l) && H.all AB.live && lexOk (ops.map (devirt n)) ops.size 0 (Array.replicate ops.size false) then
    aopsO (chkAll A ops n H.length 0 ops.toList) P env (ops.map (devirt n)) n (ops.map (devirt n)).toList (slotsOf n H.length A ++ T) (H ++ A.map vaBlk) [] fun T H => K (maskF n A T) H
  else none

/-- No call that writes stands in it. -/
def quietB (env : Env) (ops : Array Oper) : Bool := ops.toList.all fun o =>
  match o.op with
  | .call c =>
    match c.callee with
    | .value (.func f) =>
      match envGet env f with
      | some (.pure ..) => true
      | _ => false
    | .value _ => false
    | _ => true
  | op => !(isMem op)

/-- Both ways of simple code, carried out and laid together. -/
def aconv (P : Program) (env : Env) (n : Nat) (x : Bool) (a b : Code) (T : List (Nat × AV)) (H : List AB) : Option (List (Nat × AV) × List AB) :=
  bif simple env a && simple env b then
    match asimple P env n a T H [], asimple P env n b T H [] with
    | some (Ta, Ha, Wa), some (Tb, Hb, Wb) =>
      match mergeH x Ha Hb (Wa ++ Wb) H with
      | some H' => some (mergeT x Ta Tb (writes a ++ writes b) T, H')
      | none => none
    | _, _ => none
  else none

/-- How a piece of code is left. -/
inductive Ex where
  | normal
  | exit (id : Nat)
  | ret

def mkT : Nat → List AV → List (Nat × AV)
  | _, [] => []
  | i, v :: l => (i, v) :: mkT (i + 1) l

def ares (P : Program) (T : List (Nat × AV)) (H : List AB) : List ResultVar → Option (List AV)
  | [] => some []
  | .tmp t :: l =>
    match ares P T H l with
    | some vs => some (get T t :: vs)
    | none => none
  | .cell a t :: l =>
    match loadA P H t (get T a), ares P T H l with
    | some v, some vs => some (v :: vs)
    | _, _ => none

def tupOf : List AV → AV
  | [v] => v
  | l => .tup l

def acode (P : Program) (env : Env) : Nat → Nat → Code → List (Nat × AV) → List AB → (Ex → List (Nat × AV) → List AB → Option ρ) → Option ρ
  | 0, _, _, _, _, _ => none
  | fuel + 1, n, c, T, H, K =>
    match c with
    | .skip => K .normal T H
    | .region _ ops false =>
      (bif specAll ops then fun dc => aopsS P dc ops n ops.toList T [] H (K .normal) else fun dc => aops P dc ops n ops.toList T H (K .normal)) (fun fid args H K =>
        match envGet env fid with
        | some (.pure C F) =>
          bif C args then
            match F args with
            | some v => bif v.noPtr then K v H else none
            | none => none
          else none
        | some (.eff C F) =>
          bif C args then
            match F args H with
            | some (v, H') => K v H'
            | none => none
          else none
        | some (.ext C F) =>
          bif C args then
            match F args with
            | some v => K v H
            | none => none
          else none
        | some (.calc F) =>
          match F args with
          | some v => bif v.noPtr then K v H else none
          | none => none
        | some (.flow T F) =>
          match flowSpec T F args H with
          | some (v, H') => K v H'
          | none => none
        | some (.clo T F) =>
          match cloSpec T F args H with
          | some (v, H') => K v H'
          | none => none
        | some .text =>
          match P.funcs[fid]? with
          | some fn =>
            match fn.body with
            | some c' =>
              bif Nat.ble args.length fn.ntmps then
                acode P env fuel fn.ntmps c' (mkT 0 args) H fun e T' H' =>
                  match e with
                  | .exit _ => none
                  | _ =>
                    match ares P T' H' fn.results.toList with
                    | some vs => K (tupOf vs) H'
                    | none => none
              else none
            | none => none
          | none => none
        | none => none)
    | .region _ ops true =>
      bif P.follows .mixedOrders then
        bif quietB env ops && Region.lexB .any ops then aopsQ P env ops n H ops.toList T fun T => K .normal T H
        else bif Nat.ble 2 (vasOf P 0 ops.toList).length then aopsV P env ops n (vasOf P 0 ops.toList) T H (K .normal)
        else bif Region.noSelect ops && lexOk ops ops.size 0 (Array.replicate ops.size false) then aopsO (fun _ => true) P env ops n ops.toList T H [] (K .normal) else none
      else none
    | .seq a b => acode P env fuel n a T H fun e T H =>
      match e with
      | .normal => acode P env fuel n b T H K
      | e => K e T H
    | .cond c a b =>
      match ev T c with
      | .bool x =>
        match aconv P env n x a b T H with
        | some (T', H') => K .normal T' H'
        | none =>
        match c with
        | .tmp d => bif x then acode P env fuel n a ((d, .bool true) :: T) H K else acode P env fuel n b ((d, .bool false) :: T) H K
        | _ => bif x then acode P env fuel n a T H K else acode P env fuel n b T H K
      | _ => none
    | .block id c => acode P env fuel n c T H fun e T H =>
      match e with
      | .exit id' => bif Nat.beq id' id then K .normal T H else K (.exit id') T H
      | e => K e T H
    | .loop c => acode P env fuel n c T H fun e T H =>
      match e with
      | .normal => acode P env fuel n (.loop c) T H K
      | e => K e T H
    | .exit id => K (.exit id) T H
    | .ret => K .ret T H
    | _ => none

/-- A call, by the function's text. -/
def acall (P : Program) (env : Env) (fuel : Nat) (fid : FuncId) (args : List AV) (H : List AB) (K : AV → List AB → Option ρ) : Option ρ :=
  match P.funcs[fid]? with
  | some fn =>
    match fn.body with
    | some c' =>
      bif Nat.ble args.length fn.ntmps then
        acode P env fuel fn.ntmps c' (mkT 0 args) H fun e T' H' =>
          match e with
          | .exit _ => none
          | _ =>
            match ares P T' H' fn.results.toList with
            | some vs => K (tupOf vs) H'
            | none => none
      else none
    | none => none
  | none => none

end
end Go.Proofs.Ytcagaaaibhifdaa.Ae

/- What the interpreter finds is what the model's call comes to. Conditions: the contracts that are looked up hold. -/
namespace Go.Proofs.Ytcagaaaibhifdaa.Ae
open Go

theorem TR.know {m : List Nat} {n : Nat} {T : List (Nat × AV)} {tmps : Array Value} (h : TR m n T tmps) {d : Nat} {v : AV} (hv : R m v (tmps.getD d undef)) : TR m n ((d, v) :: T) tmps := by
  refine ⟨h.1, fun i => ?_⟩
  unfold get
  cases hb : Nat.beq d i with
  | true => rw [Nat.eq_of_beq_eq_true hb] at hv; exact hv
  | false => exact h.2 i

section
variable {ρ : Type}

theorem aput_ok {m : List Nat} {n : Nat} {dst : Option Tmp} {v : AV} {V : Value} {T : List (Nat × AV)} {a : Act} {K : List (Nat × AV) → Option ρ} {r : ρ} (h : aput n dst v T K = some r) (hT : TR m n T a.tmps) (hv : R m v V) :
    ∃ T', K T' = some r ∧ TR m n T' (a.put dst V).tmps := by
  cases dst with
  | none => exact ⟨T, h, hT⟩
  | some d =>
    simp only [aput] at h
    cases hb : Nat.ble (d + 1) n with
    | false => rw [hb] at h; cases h
    | true => rw [hb] at h; exact ⟨_, h, hT.put (Nat.le_of_ble_eq_true hb) hv⟩

theorem put_defers (a : Act) (dst : Option Tmp) (V : Value) : (a.put dst V).defers = a.defers := by cases dst <;> rfl

theorem aguard_ok {m : List Nat} {ops : Array Oper} {n : Nat} {o : Oper} {T : List (Nat × AV)} {tmps : Array Value} {run skip : List (Nat × AV) → Option ρ} {r : ρ} (h : aguard ops n o T run skip = some r) (hT : TR m n T tmps) :
    (∃ T', run T' = some r ∧ TR m n T' tmps ∧ Region.wanted o (yielded ops tmps) = true) ∨ (∃ T', skip T' = some r ∧ TR m n T' tmps ∧ Region.wanted o (yielded ops tmps) = false) := by
  unfold aguard at h
  split at h
  · rename_i hg
    exact .inl ⟨T, h, hT, by simp [Region.wanted, hg]⟩
  · rename_i j want hg
    split at h
    · cases h
    · rename_i d hd
      cases hb : Nat.ble (d + 1) n with
      | false => rw [hb] at h; cases h
      | true =>
        rw [hb] at h
        simp only [cond_true] at h
        have hd1 : d + 1 ≤ n := Nat.le_of_ble_eq_true hb
        have hsz : tmps.size = n := hT.1
        have hlt : d < tmps.size := hsz ▸ hd1
        split at h
        · rename_i x hx
          have hR := hT.2 d
          rw [hx] at hR
          simp only [R] at hR
          have hy : yielded ops tmps j = some x := by
            have hg' : tmps[d]? = some (.bool x) := by
              rw [Array.getElem?_eq_getElem hlt]
              rw [Array.getD_eq_getD_getElem?, Array.getElem?_eq_getElem hlt] at hR
              simpa using hR
            unfold yielded
            rw [hd]
            show (match tmps[d]? with | some (.bool b) => some b | _ => none) = some x
            rw [hg']
          have hw : Region.wanted o (yielded ops tmps) = (x == want) := by simp [Region.wanted, hg, hy]
          have hT' : TR m n ((d, .bool x) :: T) tmps := hT.know (by simp only [R]; exact hR)
          cases x <;> cases want <;> simp at h <;> first
            | exact .inl ⟨_, h, hT', by rw [hw]; rfl⟩
            | exact .inr ⟨_, h, hT', by rw [hw]; rfl⟩
        · cases h

theorem RL_map {m : List Nat} {f : Operand → AV} {g : Operand → Value} (h : ∀ x, R m (f x) (g x)) : ∀ l : List Operand, RL m (l.map f) (l.map g)
  | [] => RL_nil.2 rfl
  | x :: l => RL.cons (h x) (RL_map h l)

theorem abuiltin_ok {P : Program} {m : List Nat} {b : Builtin} {ts : Array TypeId} {args : List AV} {Args : Array Value} (hA : RL m args Args.toList) {K : AV → Option ρ} {r : ρ} (h : abuiltin P b ts args K = some r) (type : TypeId) (consts : Array Bool) :
    ∃ v V, K v = some r ∧ R m v V ∧ ∀ w, (builtin b ts type consts Args).run P w = .ok (.value V) w := by
  unfold abuiltin at h
  split at h
  · rename_i x
    obtain ⟨X, _, e1, hx, e2⟩ := RL_cons.1 hA
    rw [RL_nil.1 e2] at e1
    have hArgs : Args = #[X] := Array.toList_inj.1 (by rw [e1])
    split at h
    · rename_i t ht
      split at h
      all_goals (try (cases h; done))
      · rename_i s hu
        simp only [R] at hx
        exact ⟨_, _, h, R_int _ _ _, run_v fun w => by rw [hArgs, hx]; simp [Builtin.len_, ht, run_underlying hu, goInt]⟩
      · rename_i s n g hu
        simp only [R] at hx
        obtain ⟨hx, hn, _⟩ := hx
        subst hn
        exact ⟨_, _, h, R_int _ _ _, run_v fun w => by rw [hArgs, hx]; simp [Builtin.len_, ht, run_underlying hu, goInt]⟩
      · rename_i s lo _ ex hu
        simp only [R] at hx
        obtain ⟨hx, ⟨hlo, _⟩, hex⟩ := hx
        exact ⟨_, .int .i64 s.size, h, by simp only [R]; exact ⟨trivial, ⟨by simp; omega, by simp⟩, hex⟩, run_v fun w => by rw [hArgs, hx]; simp [Builtin.len_, ht, run_underlying hu, goInt]⟩
      · rename_i k _ hu
        exact ⟨_, .int .i64 k, h, R_int _ _ _, run_v fun w => by rw [hArgs]; simp [Builtin.len_, ht, run_underlying hu, goInt]⟩
      · rename_i hu
        simp only [R] at hx
        obtain ⟨c, _, hX⟩ := hx
        exact ⟨_, _, h, R_int _ _ _, run_v fun w => by rw [hArgs, hX]; simp [Builtin.len_, ht, run_underlying hu, goInt]⟩
      · rename_i hu
        simp only [R] at hx
        exact ⟨_, _, h, R_int _ _ _, run_v fun w => by rw [hArgs, hx]; simp [Builtin.len_, ht, run_underlying hu, goInt]⟩
      · rename_i hu
        simp only [R] at hx
        obtain ⟨c, _, _, _, hX⟩ := hx
        exact ⟨_, _, h, R_int _ _ _, run_v fun w => by rw [hArgs, hX]; simp [Builtin.len_, ht, run_underlying hu, goInt]⟩
    · cases h
  · rename_i k x k' y
    obtain ⟨X, _, e1, hx, e2⟩ := RL_cons.1 hA
    obtain ⟨Y, _, rfl, hy, e3⟩ := RL_cons.1 e2
    rw [RL_nil.1 e3] at e1
    have hArgs : Args = #[X, Y] := Array.toList_inj.1 (by rw [e1])
    simp only [R] at hx hy
    exact ⟨_, _, h, R_int _ _ _, run_v fun w => by rw [hArgs, hx, hy]; simp [Builtin.max_, Builtin.max2]⟩
  · rename_i k x k' y
    obtain ⟨X, _, e1, hx, e2⟩ := RL_cons.1 hA
    obtain ⟨Y, _, rfl, hy, e3⟩ := RL_cons.1 e2
    rw [RL_nil.1 e3] at e1
    have hArgs : Args = #[X, Y] := Array.toList_inj.1 (by rw [e1])
    simp only [R] at hx hy
    exact ⟨_, _, h, R_int _ _ _, run_v fun w => by rw [hArgs, hx, hy]; simp [Builtin.min_, Builtin.min2]⟩
  · cases h

/-- What the calls inside a region are to come to. -/
def DC (P : Program) (doCall : FuncId → List AV → List AB → (AV → List AB → Option ρ) → Option ρ) : Prop :=
  ∀ fid args H K r, doCall fid args H K = some r → ∀ m (Args : Array Value) w, RL m args Args.toList → HR m H w →
    (∃ v V, K v H = some r ∧ R m v V ∧ (callFunc fid Args).run P w = .ok (.value V) w) ∨
    ((callFunc fid Args).run P w = .ok (.enter fid Args) w ∧ Calls P fid Args w fun e w' => ∃ v V m' H', e = .returned V ∧ R m' v V ∧ HR m' H' w' ∧ Ext m w m' w' ∧ K v H' = some r)

theorem run_resolve_fn {P : Program} {E : Operand → Value} {c : Call} {f : Operand} (hc : c.callee = .value f) {fid : FuncId} {caps : Array Value} (hf : E f = .func (.func fid) #[] caps) (type : TypeId) (w : World) :
    (do let d ← resolve E c type; invoke d.target d.args : Sem Next).run P w = (callFunc fid (c.args.map E ++ caps)).run P w := by
  simp only [Sem.run_bind, resolve, hc, hf, Deferred.ofValue, Sem.run_pure, Result.andThen_ok, invoke]
  simp

theorem run_resolve_builtin {P : Program} {E : Operand → Value} {c : Call} {b : Builtin} (hc : c.callee = .builtin b) (type : TypeId) :
    ∃ consts, ∀ w, (do let d ← resolve E c type; invoke d.target d.args : Sem Next).run P w = (builtin b c.argTypes type consts (c.args.map E)).run P w := by
  simp only [Sem.run_bind, resolve, hc, Sem.run_pure, Result.andThen_ok, invoke]
  exact ⟨_, fun _ => rfl⟩

theorem aexec_ok {P : Program} {doCall : FuncId → List AV → List AB → (AV → List AB → Option ρ) → Option ρ} (hD : DC P doCall) {m : List Nat} {n : Nat} {T : List (Nat × AV)} {a : Act} (hT : TR m n T a.tmps) {H : List AB} {w : World} (hH : HR m H w)
    {o : Oper} {K : AV → List AB → Option ρ} {r : ρ} (h : aexec P doCall o T H K = some r) {next : Act → World → Prop} {Q : Exit → Act → World → Prop}
    (hn : ∀ v H' V m' w', R m' v V → HR m' H' w' → Ext m w m' w' → K v H' = some r → next (a.put o.dst V) w') : o.wp P a w next Q := by
  have he := fun x => R_ev hT x
  unfold aexec at h
  split at h
  · rename_i c hop
    split at h
    · rename_i f hc
      split at h
      · rename_i fid cap hf
        have hF := he f
        rw [hf] at hF
        simp only [R] at hF
        obtain ⟨Vs, hE, hcap⟩ := hF
        have hargs : RL m (c.args.toList.map (ev T) ++ cap) (c.args.map a.eval ++ ⟨Vs⟩ : Array Value).toList := by
          rw [Array.toList_append, Array.toList_map]
          exact RL_append hcap (RL_map he _)
        have hrun : (execOp a.eval o).run P w = (callFunc fid (c.args.map a.eval ++ ⟨Vs⟩)).run P w := by
          simp only [execOp, hop]
          exact run_resolve_fn hc hE _ w
        rcases hD fid _ H K r h m _ w hargs hH with ⟨v, V, h1, h2, h3⟩ | ⟨h1, h2⟩
        · unfold Oper.wp
          rw [hrun, h3]
          exact hn v H V m w h2 hH (Ext.refl m w) h1
        · unfold Oper.wp
          rw [hrun, h1]
          exact h2.mono fun e w' ⟨v, V, m', H', e1, e2, e3, e4, e5⟩ => by subst e1; exact hn v H' V m' w' e2 e3 e4 e5
      · cases h
    · rename_i b hc
      have hargs : RL m (c.args.toList.map (ev T)) (c.args.map a.eval).toList := by
        rw [Array.toList_map]; exact RL_map he _
      obtain ⟨consts, hrun⟩ := run_resolve_builtin (P := P) (E := a.eval) hc o.type
      split at h
      · obtain ⟨v, H', h1, V, w', m', h2, h3, h4, h5⟩ := aappend_ok (P := P) hargs hH h o.type
        unfold Oper.wp
        have : (execOp a.eval o).run P w = .ok (.value V) w' := by
          simp only [execOp, hop]
          rw [hrun]
          show (do pure (.value (← Builtin.append_ c.argTypes o.type (c.args.map a.eval))) : Sem Next).run P w = _
          simp only [Sem.run_bind, h2, Result.andThen_ok, Sem.run_pure]
        rw [this]
        exact hn v H' V m' w' h3 h4 h5 h1
      · obtain ⟨v, V, h1, h2, h3⟩ := abuiltin_ok (P := P) hargs h o.type consts
        unfold Oper.wp
        have : (execOp a.eval o).run P w = .ok (.value V) w := by
          simp only [execOp, hop]
          rw [hrun, h3]
        rw [this]
        exact hn v H V m w h2 hH (Ext.refl m w) h1
    · cases h
  · rename_i t x hop
    split at h
    · rename_i v hv
      obtain ⟨V, h1, h2⟩ := loadA_ok hH (he x) hv
      unfold Oper.wp
      have : (execOp a.eval o).run P w = .ok (.value V) w := by
        simp only [execOp, hop, Sem.run_bind, h2 w (fun _ _ => rfl), Result.andThen_ok, Sem.run_pure]
      rw [this]
      exact hn v H V m w h1 hH (Ext.refl m w) h
    · cases h
  · rename_i t x k ok hop
    split at h
    · rename_i v hv
      obtain ⟨V, h1, h2⟩ := lookupA_ok (P := P) hH (he x) (he k) hv
      unfold Oper.wp
      have : (execOp a.eval o).run P w = .ok (.value V) w := by
        simp only [execOp, hop, Sem.run_bind, h2, Result.andThen_ok, Sem.run_pure]
      rw [this]
      exact hn v H V m w h1 hH (Ext.refl m w) h
    · cases h
  · rename_i t l c hop
    obtain ⟨v, H', h1, V, w', m', h2, h3, h4, h5⟩ := amake_ok (P := P) (he l) (he c) hH h
    unfold Oper.wp
    have : (execOp a.eval o).run P w = .ok (.value V) w' := by
      simp only [execOp, hop, Sem.run_bind, h2, Result.andThen_ok, Sem.run_pure]
    rw [this]
    exact hn v H' V m' w' h3 h4 h5 h1
  · rename_i s d x hop
    cases hrc : isRowConv P s d with
    | true =>
      rw [hrc] at h
      simp only [cond_true] at h
      obtain ⟨v, H', h1, V, w', m', h2, h3, h4, h5⟩ := aconvR_ok (P := P) (he x) hH h
      unfold Oper.wp
      have : (execOp a.eval o).run P w = .ok (.value V) w' := by
        simp only [execOp, hop, Sem.run_bind, h2, Result.andThen_ok, Sem.run_pure]
      rw [this]
      exact hn v H' V m' w' h3 h4 h5 h1
    | false =>
      rw [hrc] at h
      simp only [cond_false] at h
      rw [← hop] at h
      obtain ⟨v, V, h1, h2, h3⟩ := apure_ok (P := P) he h
      unfold Oper.wp
      rw [h3]
      exact hn v H V m w h2 hH (Ext.refl m w) h1
  · cases hb : isMem o.op with
    | true =>
      rw [hb] at h
      obtain ⟨v, H', h1, nx, V, w', m', h2, h3, h4, h5, h6⟩ := amem_ok (P := P) he hH h
      unfold Oper.wp
      rw [h2]
      rcases h3 with rfl | ⟨rfl, rfl⟩
      · exact hn v H' V m' w' h4 h5 h6 h1
      · exact hn v H' _ m' w' h4 h5 h6 h1
    | false =>
      rw [hb] at h
      simp only [cond_false] at h
      obtain ⟨v, V, h1, h2, h3⟩ := apure_ok (P := P) he h
      unfold Oper.wp
      rw [h3]
      exact hn v H V m w h2 hH (Ext.refl m w) h1

theorem aops_ok {P : Program} {doCall : FuncId → List AV → List AB → (AV → List AB → Option ρ) → Option ρ} (hD : DC P doCall) {ops : Array Oper} {n : Nat} {Q : Exit → Act → World → Prop} {K : List (Nat × AV) → List AB → Option ρ} {r : ρ} :
    ∀ (l : List Oper) (k : Nat) (_ : ∀ j, l[j]? = ops[k + j]?) (m : List Nat) (T : List (Nat × AV)) (H : List AB) (a : Act) (w : World), aops P doCall ops n l T H K = some r → TR m n T a.tmps → HR m H w →
    (∀ T' H' a' m' w', TR m' n T' a'.tmps → HR m' H' w' → Ext m w m' w' → a'.defers = a.defers → K T' H' = some r → Q .normal a' w') →
    wpOps P ops Q (List.range' k l.length) a w
  | [], k, _, m, T, H, a, w, h, hT, hH, hQ => by
    simp only [aops] at h
    simp only [List.length_nil, List.range'_zero, wpOps]
    exact hQ T H a m w hT hH (Ext.refl m w) rfl h
  | o :: l, k, hl, m, T, H, a, w, h, hT, hH, hQ => by
    have hk : ops[k]? = some o := by have := hl 0; simpa using this.symm
    have hl' : ∀ j, l[j]? = ops[k + 1 + j]? := fun j => by have := hl (j + 1); rw [Nat.add_assoc, Nat.add_comm 1 j]; simpa using this
    simp only [List.length_cons, List.range'_succ, wpOps, hk]
    simp only [aops] at h
    rcases aguard_ok h hT with ⟨T1, h1, hT1, hw⟩ | ⟨T1, h1, hT1, hw⟩
    · rw [if_pos hw]
      refine .inl (aexec_ok hD hT1 hH h1 fun v H' V m' w' hv hH' hE hK => ?_)
      have hT1' : TR m' n T1 a.tmps := by obtain ⟨x, hx, _⟩ := hE.pre; rw [hx]; exact hT1.mono x
      obtain ⟨T2, h2, hT2⟩ := aput_ok hK hT1' hv
      exact aops_ok hD l (k + 1) hl' m' T2 H' _ w' h2 hT2 hH' fun T3 H3 a3 m3 w3 q1 q2 q3 q4 q5 => hQ T3 H3 a3 m3 w3 q1 q2 (hE.trans q3) (q4.trans (put_defers _ _ _)) q5
    · rw [if_neg (by simp [hw])]
      obtain ⟨T2, h2, hT2⟩ := aput_ok (V := undef) h1 hT1 (by simp only [R])
      exact aops_ok hD l (k + 1) hl' m T2 H _ w h2 hT2 hH fun T3 H3 a3 m3 w3 q1 q2 q3 q4 q5 => hQ T3 H3 a3 m3 w3 q1 q2 q3 (q4.trans (put_defers _ _ _)) q5

/-! ### Regions that draw their order -/
theorem HR.same {m : List Nat} {H : List AB} {w w' : World} (h : HR m H w) (hs : ∀ k, k < w.heap.size → w'.heap[k]? = w.heap[k]?) : HR m H w' :=
  ⟨h.len, h.nodup, fun i B hB hl => by
    obtain ⟨b, o, h1, h2, h3, h4⟩ := h.all i B hB hl
    exact ⟨b, o, h1, by rw [hs b (Array.getElem?_eq_some_iff.1 h2).1]; exact h2, h3, h4⟩⟩

theorem Ext.blocks {w w' : World} (h : Ext [] w [] w') : ∀ k, k < w.heap.size → w'.heap[k]? = w.heap[k]? := fun k hk => h.block k hk (by simp)
theorem Ext.same {m : List Nat} {w w' : World} (h : Ext [] w [] w') : Ext m w m w' := ⟨⟨[], by simp⟩, h.os, h.tape, h.output, h.size, fun k hk _ => h.blocks k hk⟩

theorem aexecQ_ok {P : Program} {env : Env} (hE : EnvOk P env) {m : List Nat} {n : Nat} {T : List (Nat × AV)} {a : Act} (hT : TR m n T a.tmps) {H : List AB} {w : World} (hH : HR m H w)
    {o : Oper} {K : AV → Option ρ} {r : ρ} (h : aexecQ P env o T H K = some r) {next : Act → Prop}
    (hn : ∀ v V, R m v V → K v = some r → next (a.put o.dst V)) : o.quiet P a (fun w' => Ext [] w [] w') next := by
  have he := fun x => R_ev hT x
  unfold aexecQ at h
  split at h
  · rename_i c hop
    split at h
    · rename_i f hc
      split at h
      · rename_i fid hf
        split at h
        · rename_i C F hF
          cases hC : C (c.args.toList.map (ev T)) with
          | false => rw [hC] at h; cases h
          | true =>
          rw [hC] at h
          simp only [cond_true] at h
          split at h
          · rename_i v hv
            cases hb : v.noPtr with
            | false => rw [hb] at h; cases h
            | true =>
              rw [hb] at h
              have hFe := he f
              rw [hf] at hFe
              simp only [R] at hFe
              obtain ⟨Vs, hE', hcap⟩ := hFe
              have hVs : Vs = [] := RL_nil.1 hcap
              subst hVs
              obtain ⟨henter, hpure⟩ := hE fid _ hF
              have hargs : RL m (c.args.toList.map (ev T)) (c.args.map a.eval).toList := by rw [Array.toList_map]; exact RL_map he _
              have hcalls := fun w' => hpure _ v hC hv m (c.args.map a.eval) w' hargs
              obtain ⟨e0, w0, fr0, ⟨V, _, hRV, _⟩, _⟩ := hcalls w []
              refine ⟨V, fun w' hw' => ?_, hn v V (R_noPtr v hb hRV) h⟩
              unfold Oper.quietAt
              have hrun : (execOp a.eval o).run P w' = .ok (.enter fid (c.args.map a.eval)) w' := by
                simp only [execOp, hop]
                rw [run_resolve_fn hc hE' _ w']
                simpa using henter (c.args.map a.eval) w'
              rw [hrun]
              refine ⟨rfl, (hcalls w').mono fun e w'' ⟨V', e1, e2, e3⟩ => ⟨?_, hw'.trans e3⟩⟩
              rw [e1, R_det v hb e2 hRV]
          · cases h
        · cases h
      · cases h
    · rename_i b hc
      have hargs : RL m (c.args.toList.map (ev T)) (c.args.map a.eval).toList := by
        rw [Array.toList_map]; exact RL_map he _
      obtain ⟨consts, hrun⟩ := run_resolve_builtin (P := P) (E := a.eval) hc o.type
      have hrun' : ∀ w', (execOp a.eval o).run P w' = (builtin b c.argTypes o.type consts (c.args.map a.eval)).run P w' := fun w' => by
        simp only [execOp, hop]
        exact hrun w'
      obtain ⟨v, V, h1, h2, h3⟩ := abuiltin_ok (P := P) hargs h o.type consts
      refine ⟨V, fun w' _ => ?_, hn v V h2 h1⟩
      unfold Oper.quietAt
      rw [hrun', h3]
      exact ⟨rfl, rfl⟩
    · cases h
  · rename_i t x hop
    split at h
    · rename_i v hv
      obtain ⟨V, h1, h2⟩ := loadA_ok hH (he x) hv
      refine ⟨V, fun w' hw' => ?_, hn v V h1 h⟩
      unfold Oper.quietAt
      have : (execOp a.eval o).run P w' = .ok (.value V) w' := by
        simp only [execOp, hop, Sem.run_bind, h2 w' hw'.blocks, Result.andThen_ok, Sem.run_pure]
      rw [this]
      exact ⟨rfl, rfl⟩
    · cases h
  · cases hb : isMem o.op with
    | true => rw [hb] at h; cases h
    | false =>
      rw [hb] at h
      simp only [cond_false] at h
      obtain ⟨v, V, h1, h2, h3⟩ := apure_ok (P := P) he h
      refine ⟨V, fun w' _ => ?_, hn v V h2 h1⟩
      unfold Oper.quietAt
      rw [h3]
      exact ⟨rfl, rfl⟩

theorem aopsQ_ok {P : Program} {env : Env} (hE : EnvOk P env) {ops : Array Oper} {n : Nat} {m : List Nat} {H : List AB} {w : World} (hH : HR m H w) {Q : Act → Prop} {K : List (Nat × AV) → Option ρ} {r : ρ} :
    ∀ (l : List Oper) (T : List (Nat × AV)) (a : Act), aopsQ P env ops n H l T K = some r → TR m n T a.tmps →
    (∀ T' a', TR m n T' a'.tmps → a'.defers = a.defers → K T' = some r → Q a') → wpQuiet P ops (fun w' => Ext [] w [] w') Q l a
  | [], T, a, h, hT, hQ => hQ T a hT rfl h
  | o :: l, T, a, h, hT, hQ => by
    simp only [aopsQ] at h
    unfold wpQuiet
    rcases aguard_ok h hT with ⟨T1, h1, hT1, hw⟩ | ⟨T1, h1, hT1, hw⟩
    · rw [if_pos hw]
      refine aexecQ_ok hE hT1 hH h1 fun v V hv hK => ?_
      obtain ⟨T2, h2, hT2⟩ := aput_ok hK hT1 hv
      exact aopsQ_ok hE hH l T2 _ h2 hT2 fun T3 a3 q1 q2 q3 => hQ T3 a3 q1 (q2.trans (put_defers _ _ _)) q3
    · rw [if_neg (by simp [hw])]
      obtain ⟨T2, h2, hT2⟩ := aput_ok (V := undef) h1 hT1 (by simp only [R])
      exact aopsQ_ok hE hH l T2 _ h2 hT2 fun T3 a3 q1 q2 q3 => hQ T3 a3 q1 (q2.trans (put_defers _ _ _)) q3

/-! ### Guarded operations carried out ahead -/

def WR (m : List Nat) (G : Weak) (tmps : Array Value) : Prop := ∀ i s w v, wget G i = some (s, w, v) → tmps[s]? = some (.bool w) → R m v (tmps.getD i undef)
def CR (ctx : List (Nat × Bool)) (tmps : Array Value) : Prop := ∀ s w, inCtx ctx s w = true → tmps[s]? = some (.bool w)

theorem WR.mono {m : List Nat} {G : Weak} {tmps : Array Value} (x : List Nat) (h : WR m G tmps) : WR (m ++ x) G tmps := fun i s w v h1 h2 => R_mono x v (h i s w v h1 h2)

theorem CR.cons {ctx : List (Nat × Bool)} {tmps : Array Value} (h : CR ctx tmps) {s : Nat} {w : Bool} (hs : tmps[s]? = some (.bool w)) : CR ((s, w) :: ctx) tmps := fun i x hi => by
  simp only [inCtx, Bool.or_eq_true, Bool.and_eq_true, beq_iff_eq] at hi
  rcases hi with ⟨h1, h2⟩ | hi
  · rw [← Nat.eq_of_beq_eq_true h1, ← h2]; exact hs
  · exact h i x hi
theorem CR.nil (tmps : Array Value) : CR [] tmps := fun _ _ h => by simp [inCtx] at h

theorem evC_ok {m : List Nat} {n : Nat} {T : List (Nat × AV)} {a : Act} (hT : TR m n T a.tmps) {G : Weak} (hG : WR m G a.tmps) {ctx : List (Nat × Bool)} (hc : CR ctx a.tmps) (x : Operand) : R m (evC T G ctx x) (a.eval x) := by
  cases x with
  | tmp i =>
    simp only [evC]
    split
    · rename_i s w v hg
      cases hb : inCtx ctx s w with
      | false => simp only [cond_false, R]
      | true => exact hG i s w v hg (hc s w hb)
    · exact hT.2 i
  | const v => simpa only [evC] using R_ev hT (.const v)
  | func v => simpa only [evC] using R_ev hT (.func v)
  | global v => simpa only [evC] using R_ev hT (.global v)

theorem wget_put {m : List Nat} {G : Weak} {tmps : Array Value} (hG : WR m G tmps) {d : Nat} (h1 : wguards G d = false) (h2 : (wget G d).isNone = true) (V : Value) : WR m G (tmps.setIfInBounds d V) := by
  intro i s w v hi hs
  have hne : d ≠ s := by
    intro e; subst e
    have : ∀ (G : Weak), wguards G d = false → wget G i ≠ some (d, w, v) := by
      intro G
      induction G with
      | nil => intro _ h; simp [wget] at h
      | cons p G ih =>
        obtain ⟨d', s', w', v'⟩ := p
        intro hg h
        simp only [wguards, Bool.or_eq_false_iff] at hg
        simp only [wget] at h
        cases hb : Nat.beq d' i with
        | true =>
          rw [hb] at h
          simp only [cond_true, Option.some.injEq, Prod.mk.injEq] at h
          have := hg.1
          rw [h.1] at this
          simp at this
        | false => rw [hb] at h; exact ih hg.2 h
    exact this G h1 hi
  have hne2 : d ≠ i := by
    intro e; subst e; rw [hi] at h2; simp at h2
  rw [Array.getElem?_setIfInBounds_ne hne] at hs
  have := hG i s w v hi hs
  simpa [Array.getElem?_setIfInBounds_ne hne2] using this

theorem aread_ok {P : Program} {m : List Nat} {e : Operand → AV} {E : Operand → Value} (he : ∀ x, R m (e x) (E x)) {H : List AB} {w : World} (hH : HR m H w) {o : Oper} {v : AV} (h : aread P e H o.op = some v) :
    ∃ V, R m v V ∧ (execOp E o).run P w = .ok (.value V) w := by
  unfold aread at h
  split at h
  · rename_i c hop
    split at h
    · rename_i b hc
      have hargs : RL m (c.args.toList.map e) (c.args.map E).toList := by
        rw [Array.toList_map]; exact RL_map he _
      obtain ⟨consts, hrun⟩ := run_resolve_builtin (P := P) (E := E) hc o.type
      obtain ⟨v', V, h1, h2, h3⟩ := abuiltin_ok (P := P) hargs h o.type consts
      cases h1
      exact ⟨V, h2, by simp only [execOp, hop]; rw [hrun, h3]⟩
    · cases h
  · rename_i t x hop
    obtain ⟨V, h1, h2⟩ := loadA_ok hH (he x) h
    exact ⟨V, h1, by simp only [execOp, hop, Sem.run_bind, h2 w (fun _ _ => rfl), Result.andThen_ok, Sem.run_pure]⟩
  · cases hb : isMem o.op with
    | true => rw [hb] at h; cases h
    | false =>
      rw [hb] at h
      simp only [cond_false] at h
      obtain ⟨v', V, h1, h2, h3⟩ := apure_ok (P := P) he h
      cases h1
      exact ⟨V, h2, h3 w⟩

theorem areadC_ok {P : Program} {m : List Nat} {n : Nat} {T : List (Nat × AV)} {a : Act} (hT : TR m n T a.tmps) {G : Weak} (hG : WR m G a.tmps) {ctx : List (Nat × Bool)} (hc : CR ctx a.tmps) {H : List AB} {w : World} (hH : HR m H w) {o : Oper} {v : AV}
    (h : areadC P T G ctx H o.op = some v) : ∃ V, R m v V ∧ (execOp a.eval o).run P w = .ok (.value V) w := by
  unfold areadC at h
  split at h
  · rename_i s x y hop
    have hs := evC_ok hT hG hc (.tmp s)
    split at h
    · rename_i b hb
      cases h
      rw [hb] at hs
      simp only [R, Act.eval] at hs
      have hs' : a.tmps[s]? = some (.bool b) := by
        rw [Array.getD_eq_getD_getElem?] at hs
        cases hg : a.tmps[s]? with
        | none => rw [hg] at hs; simp [undef] at hs
        | some z => rw [hg] at hs; simp at hs; rw [hs]
      refine ⟨if b then a.eval x else a.eval y, ?_, ?_⟩
      · refine R_merge _ _ (fun e => ?_) (fun e => ?_)
        · subst e; simp only [if_true]; exact evC_ok hT hG (hc.cons hs') x
        · subst e; simp only [Bool.false_eq_true, if_false]; exact evC_ok hT hG (hc.cons hs') y
      · have hE : a.eval (.tmp s) = .bool b := hs
        simp only [execOp, hop, hE, asBool, Sem.run_bind, Sem.run_pure, Result.andThen_ok]
    · cases h
  · exact aread_ok (evC_ok hT hG hc) hH h

def dsts (l : List Oper) : List Nat := l.filterMap (·.dst)

theorem get_cons_ne {d i : Nat} (h : d ≠ i) (v : AV) (T : List (Nat × AV)) : get ((d, v) :: T) i = get T i := by
  have : Nat.beq d i = false := by rw [← Bool.not_eq_true]; intro hh; exact h (Nat.eq_of_beq_eq_true hh)
  simp only [get, this, cond_false]

theorem aput_frame {n : Nat} {dst : Option Tmp} {v : AV} {T : List (Nat × AV)} {K : List (Nat × AV) → Option ρ} {r : ρ} (h : aput n dst v T K = some r) {m : List Nat} {a : Act} (hT : TR m n T a.tmps) {V : Value} (hv : R m v V) :
    ∃ T', K T' = some r ∧ TR m n T' (a.put dst V).tmps ∧ ∀ i, some i ≠ dst → get T' i = get T i := by
  cases dst with
  | none => exact ⟨T, h, hT, fun _ _ => rfl⟩
  | some d =>
    simp only [aput] at h
    cases hb : Nat.ble (d + 1) n with
    | false => rw [hb] at h; cases h
    | true => rw [hb] at h; exact ⟨_, h, hT.put (Nat.le_of_ble_eq_true hb) hv, fun i hi => get_cons_ne (fun e => hi (by rw [e])) _ _⟩

theorem yielded_of {ops : Array Oper} {tmps : Array Value} {j s : Nat} (hs : (ops[j]?).bind (·.dst) = some s) (b : Bool) : (yielded ops tmps j = some b) ↔ tmps[s]? = some (.bool b) := by
  unfold yielded
  rw [hs]
  show (match tmps[s]? with | some (.bool b) => some b | _ => none) = some b ↔ _
  constructor
  · intro h
    split at h
    · rename_i b' hb'; cases h; exact hb'
    · cases h
  · intro h; rw [h]

/-- The guarded step. -/
theorem aguardS_ok {P : Program} {m : List Nat} {n : Nat} {T : List (Nat × AV)} {a : Act} (hT : TR m n T a.tmps) {G : Weak} (hG : WR m G a.tmps) {H : List AB} {w : World} (hH : HR m H w) {ops : Array Oper} {o : Oper} {j s d : Nat} {want : Bool} {v : AV}
    (hg : o.guard = some (j, want)) (hs : (ops[j]?).bind (·.dst) = some s) (hd : o.dst = some d) (h1 : Nat.ble (d + 1) n = true) (h2 : Nat.beq d s = false) (h3 : wguards G d = false)
    (h : areadC P T G [(s, want)] H o.op = some v) :
    (Region.wanted o (yielded ops a.tmps) = true → ∃ V, (execOp a.eval o).run P w = .ok (.value V) w ∧ TR m n ((d, .any) :: T) (a.put o.dst V).tmps ∧ WR m ((d, s, want, v) :: G) (a.put o.dst V).tmps) ∧
    (Region.wanted o (yielded ops a.tmps) = false → TR m n ((d, .any) :: T) (a.put o.dst undef).tmps ∧ WR m ((d, s, want, v) :: G) (a.put o.dst undef).tmps) := by
  have hlt : d < n := Nat.le_of_ble_eq_true h1
  have hne : d ≠ s := fun e => by subst e; simp at h2
  have hw : Region.wanted o (yielded ops a.tmps) = (yielded ops a.tmps j == some want) := by simp [Region.wanted, hg]
  have hWR : ∀ V, (a.tmps[s]? = some (.bool want) → R m v V) → WR m ((d, s, want, v) :: G) (a.put o.dst V).tmps := by
    intro V hV i s' w' v' hi hs'
    have hput : (a.put o.dst V).tmps = a.tmps.setIfInBounds d V := by rw [hd]; rfl
    rw [hput] at hs' ⊢
    simp only [wget] at hi
    cases hb : Nat.beq d i with
    | true =>
      rw [hb] at hi
      simp only [cond_true, Option.some.injEq, Prod.mk.injEq] at hi
      obtain ⟨rfl, rfl, rfl⟩ := hi
      obtain rfl := Nat.eq_of_beq_eq_true hb
      rw [Array.getElem?_setIfInBounds_ne hne] at hs'
      have hsz : d < a.tmps.size := by rw [hT.1]; exact hlt
      have := hV hs'
      simpa [hsz] using this
    | false =>
      rw [hb] at hi
      simp only [cond_false] at hi
      have hdi : d ≠ i := fun e => by subst e; simp at hb
      have hds : d ≠ s' := by
        intro e; subst e
        have key : ∀ (G : Weak), wguards G d = false → wget G i ≠ some (d, w', v') := by
          intro G
          induction G with
          | nil => intro _ h; simp [wget] at h
          | cons p G ih =>
            obtain ⟨d', s'', w'', v''⟩ := p
            intro hg h
            simp only [wguards, Bool.or_eq_false_iff] at hg
            simp only [wget] at h
            cases hb : Nat.beq d' i with
            | true =>
              rw [hb] at h
              simp only [cond_true, Option.some.injEq, Prod.mk.injEq] at h
              have := hg.1
              rw [h.1] at this
              simp at this
            | false => rw [hb] at h; exact ih hg.2 h
        exact key G h3 hi
      rw [Array.getElem?_setIfInBounds_ne hds] at hs'
      have := hG i s' w' v' hi hs'
      simpa [Array.getElem?_setIfInBounds_ne hdi] using this
  have hTR : ∀ V, TR m n ((d, .any) :: T) (a.put o.dst V).tmps := fun V => by
    have : (a.put o.dst V).tmps = a.tmps.setIfInBounds d V := by rw [hd]; rfl
    rw [this]; exact hT.put hlt (by simp only [R])
  refine ⟨fun hy => ?_, fun hy => ?_⟩
  · rw [hw] at hy
    have hy' : a.tmps[s]? = some (.bool want) := (yielded_of hs want).1 (by simpa using hy)
    obtain ⟨V, h4, h5⟩ := areadC_ok hT hG ((CR.nil a.tmps).cons hy') hH h
    exact ⟨V, h5, hTR V, hWR V (fun _ => h4)⟩
  · rw [hw] at hy
    refine ⟨hTR undef, hWR undef (fun hs' => ?_)⟩
    rw [(yielded_of hs want).2 hs'] at hy
    simp at hy

theorem WR.nil (m : List Nat) (tmps : Array Value) : WR m [] tmps := fun _ _ _ _ h => by simp [wget] at h

theorem put_dst_WR {m : List Nat} {G : Weak} {a : Act} (hG : WR m G a.tmps) {dst : Option Tmp} (h : dstFree G dst = true) (V : Value) : WR m G (a.put dst V).tmps := by
  cases dst with
  | none => exact hG
  | some d =>
    simp only [dstFree, Bool.and_eq_true, Bool.not_eq_true'] at h
    exact wget_put hG h.1 h.2 V

theorem aopsS_ok {P : Program} {doCall : FuncId → List AV → List AB → (AV → List AB → Option ρ) → Option ρ} (hD : DC P doCall) {ops : Array Oper} {n : Nat} {Q : Exit → Act → World → Prop} {K : List (Nat × AV) → List AB → Option ρ} {r : ρ} :
    ∀ (l : List Oper) (k : Nat) (_ : ∀ j, l[j]? = ops[k + j]?) (m : List Nat) (T : List (Nat × AV)) (G : Weak) (H : List AB) (a : Act) (w : World), aopsS P doCall ops n l T G H K = some r → TR m n T a.tmps → WR m G a.tmps → HR m H w →
    (∀ T' H' a' m' w', TR m' n T' a'.tmps → HR m' H' w' → Ext m w m' w' → a'.defers = a.defers → K T' H' = some r → Q .normal a' w') →
    wpOps P ops Q (List.range' k l.length) a w
  | [], k, _, m, T, G, H, a, w, h, hT, _, hH, hQ => by
    simp only [aopsS] at h
    simp only [List.length_nil, List.range'_zero, wpOps]
    exact hQ T H a m w hT hH (Ext.refl m w) rfl h
  | o :: l, k, hl, m, T, G, H, a, w, h, hT, hG, hH, hQ => by
    have hk : ops[k]? = some o := by have := hl 0; simpa using this.symm
    have hl' : ∀ j, l[j]? = ops[k + 1 + j]? := fun j => by have := hl (j + 1); rw [Nat.add_assoc, Nat.add_comm 1 j]; simpa using this
    simp only [List.length_cons, List.range'_succ, wpOps, hk]
    simp only [aopsS] at h
    split at h
    · rename_i hg
      have hw : Region.wanted o (yielded ops a.tmps) = true := by simp [Region.wanted, hg]
      rw [if_pos hw]
      cases hdst : dstFree G o.dst with
      | false => rw [hdst] at h; cases h
      | true =>
        rw [hdst] at h
        simp only [cond_true] at h
        cases hsp : isSpec o.op with
        | true =>
          rw [hsp] at h
          simp only [cond_true] at h
          split at h
          · rename_i v hv
            obtain ⟨V, h1, h2⟩ := areadC_ok hT hG (CR.nil _) hH hv
            refine .inl ?_
            unfold Oper.wp
            rw [h2]
            show wpOps P ops Q _ (a.put o.dst V) w
            obtain ⟨T2, h3, hT2⟩ := aput_ok h hT h1
            exact aopsS_ok hD l (k + 1) hl' m T2 G H _ w h3 hT2 (put_dst_WR hG hdst V) hH fun T3 H3 a3 m3 w3 q1 q2 q3 q4 q5 => hQ T3 H3 a3 m3 w3 q1 q2 q3 (q4.trans (put_defers _ _ _)) q5
          · cases h
        | false =>
          rw [hsp] at h
          simp only [cond_false] at h
          refine .inl (aexec_ok hD hT hH h fun v H' V m' w' hv hH' hE hK => ?_)
          obtain ⟨x, hx, _⟩ := hE.pre
          have hT1' : TR m' n T a.tmps := by rw [hx]; exact hT.mono x
          have hG1' : WR m' G a.tmps := by rw [hx]; exact hG.mono x
          obtain ⟨T2, h2, hT2⟩ := aput_ok hK hT1' hv
          exact aopsS_ok hD l (k + 1) hl' m' T2 G H' _ w' h2 hT2 (put_dst_WR hG1' hdst V) hH' fun T3 H3 a3 m3 w3 q1 q2 q3 q4 q5 => hQ T3 H3 a3 m3 w3 q1 q2 (hE.trans q3) (q4.trans (put_defers _ _ _)) q5
    · rename_i j want hg
      split at h
      · rename_i s d hs hd
        cases hb : (Nat.ble (d + 1) n && !(Nat.beq d s) && !(wguards G d)) with
        | false => rw [hb] at h; cases h
        | true =>
          rw [hb] at h
          simp only [Bool.and_eq_true, Bool.not_eq_true'] at hb
          simp only [cond_true] at h
          split at h
          · rename_i v hv
            obtain ⟨g1, g2⟩ := aguardS_ok hT hG hH hg hs hd hb.1.1 hb.1.2 hb.2 hv
            cases hw : Region.wanted o (yielded ops a.tmps) with
            | true =>
              rw [if_pos rfl]
              obtain ⟨V, h1, h2, h3⟩ := g1 hw
              refine .inl ?_
              unfold Oper.wp
              rw [h1]
              show wpOps P ops Q _ (a.put o.dst V) w
              exact aopsS_ok hD l (k + 1) hl' m _ _ H _ w h h2 h3 hH fun T3 H3 a3 m3 w3 q1 q2 q3 q4 q5 => hQ T3 H3 a3 m3 w3 q1 q2 q3 (q4.trans (put_defers _ _ _)) q5
            | false =>
              rw [if_neg (by simp)]
              obtain ⟨h2, h3⟩ := g2 hw
              exact aopsS_ok hD l (k + 1) hl' m _ _ H _ w h h2 h3 hH fun T3 H3 a3 m3 w3 q1 q2 q3 q4 q5 => hQ T3 H3 a3 m3 w3 q1 q2 q3 (q4.trans (put_defers _ _ _)) q5
          · cases h
      · cases h

theorem asval_ok {P : Program} {env : Env} (hE : EnvOk P env) {m : List Nat} {n : Nat} {T : List (Nat × AV)} {a : Act} (hT : TR m n T a.tmps) {G : Weak} (hG : WR m G a.tmps) {H : List AB} {w : World} (hH : HR m H w) {o : Oper} {v : AV}
    (h : asval P env T G H o.op = some v) : (∃ V, R m v V ∧ (execOp a.eval o).run P w = .ok (.value V) w) ∨
      (∃ fid Args, (execOp a.eval o).run P w = .ok (.enter fid Args) w ∧ Calls P fid Args w fun e w' => ∃ V, e = .returned V ∧ R m v V ∧ Ext [] w [] w') := by
  unfold asval at h
  split at h
  · rename_i c hop
    cases hb : isCalc env (.call c) with
    | false =>
      rw [hb] at h
      simp only [cond_false] at h
      rw [← hop] at h
      exact .inl (areadC_ok hT hG (CR.nil _) hH h)
    | true =>
      rw [hb] at h
      simp only [cond_true] at h
      unfold acalc at h
      split at h
      · rename_i f hc
        split at h
        · rename_i F hF
          split at h
          · rename_i v' hv
            cases hnp : v'.noPtr with
            | false => rw [hnp] at h; cases h
            | true =>
              rw [hnp] at h
              simp only [cond_true, Option.some.injEq] at h
              subst h
              obtain ⟨h1, h2⟩ := hE f _ hF
              have hargs : RL m (c.args.toList.map (ev T)) (c.args.map a.eval).toList := by rw [Array.toList_map]; exact RL_map (fun x => R_ev hT x) _
              refine .inr ⟨f, c.args.map a.eval, ?_, (h2 _ v' rfl hv m _ w hargs).mono fun e w' ⟨V, e1, e2, e3⟩ => ⟨V, e1, R_noPtr v' hnp e2, e3⟩⟩
              simp only [execOp, hop]
              rw [run_resolve_fn (fid := f) (caps := #[]) hc rfl _ w]
              simpa using h1 (c.args.map a.eval) w
          · cases h
        · cases h
      · cases h
  · exact .inl (areadC_ok hT hG (CR.nil _) hH h)

theorem store_frame {P : Program} {e : Operand → AV} {H H' : List AB} {t : TypeId} {a x : Operand} {i o : Nat} (ha : e a = .ptr i o) (h : amem P e H (.store t a x) (fun _ H' => some H') = some H') :
    H'.length = H.length ∧ ∀ j, j ≠ i → H'[j]? = H[j]? := by
  simp only [amem, ha] at h
  split at h
  · rename_i i' o' vs n e1 e2 e3
    cases e1
    split at h
    · rename_i l bt hl
      cases hb : (Nat.beq vs.length n && Nat.ble (o + vs.length) l.length && AV.scalars vs) with
      | false => rw [hb] at h; cases h
      | true =>
        rw [hb] at h
        simp only [cond_true, Option.some.injEq] at h
        subst h
        exact ⟨by simp, fun j hj => by rw [List.getElem?_set_ne (Ne.symm hj)]⟩
    · cases h
  · cases h

theorem Ext.same_len {m m' : List Nat} {w w' : World} (h : Ext m w m' w') {H H' : List AB} (h1 : HR m H w) (h2 : HR m' H' w') (hl : H'.length = H.length) : m' = m := by
  obtain ⟨x, hx, _⟩ := h.pre
  have e1 := h1.len
  have e2 := h2.len
  have : x = [] := by
    rw [hx, List.length_append] at e2
    exact List.eq_nil_of_length_eq_zero (by omega)
  rw [hx, this, List.append_nil]

theorem asops_ok {P : Program} {env : Env} (hE : EnvOk P env) {ops : Array Oper} {n : Nat} {m : List Nat} {Q : Exit → Act → World → Prop} {T' : List (Nat × AV)} {H' : List AB} {W' : List Nat} :
    ∀ (l : List Oper) (k : Nat) (_ : ∀ j, l[j]? = ops[k + j]?) (T : List (Nat × AV)) (G : Weak) (H : List AB) (W : List Nat) (a : Act) (w : World), asops P env ops n l T G H W = some (T', H', W') → TR m n T a.tmps → WR m G a.tmps → HR m H w →
    (∀ a' w', TR m n T' a'.tmps → HR m H' w' → Ext m w m w' → (∀ i, i ∉ dsts l → get T' i = get T i) → (∀ j, j ∉ W' → H'[j]? = H[j]?) → H'.length = H.length → (∀ j ∈ W, j ∈ W') → a'.defers = a.defers → Q .normal a' w') →
    wpOps P ops Q (List.range' k l.length) a w
  | [], k, _, T, G, H, W, a, w, h, hT, _, hH, hQ => by
    simp only [asops, Option.some.injEq, Prod.mk.injEq] at h
    obtain ⟨rfl, rfl, rfl⟩ := h
    simp only [List.length_nil, List.range'_zero, wpOps]
    exact hQ a w hT hH (Ext.refl m w) (fun _ _ => rfl) (fun _ _ => rfl) rfl (fun _ h => h) rfl
  | o :: l, k, hl, T, G, H, W, a, w, h, hT, hG, hH, hQ => by
    have hk : ops[k]? = some o := by have := hl 0; simpa using this.symm
    have hl' : ∀ j, l[j]? = ops[k + 1 + j]? := fun j => by have := hl (j + 1); rw [Nat.add_assoc, Nat.add_comm 1 j]; simpa using this
    have hds : ∀ i, i ∉ dsts (o :: l) → some i ≠ o.dst ∧ i ∉ dsts l := by
      intro i hi
      cases hd : o.dst with
      | none => simp [dsts, hd] at hi ⊢; exact hi
      | some d => simp [dsts, hd] at hi ⊢; exact hi
    simp only [List.length_cons, List.range'_succ, wpOps, hk]
    simp only [asops] at h
    split at h
    · rename_i hg
      have hw : Region.wanted o (yielded ops a.tmps) = true := by simp [Region.wanted, hg]
      rw [if_pos hw]
      cases hdst : dstFree G o.dst with
      | false => rw [hdst] at h; cases h
      | true =>
        rw [hdst] at h
        simp only [cond_true] at h
        split at h
        · rename_i t x y hop
          split at h
          · rename_i i off hod hea
            split at h
            · rename_i H1 hH1
              obtain ⟨f1, f2⟩ := store_frame hea hH1
              rw [← hop] at hH1
              obtain ⟨v, H2, h1, nx, V, w1, m1, h2, h3, h4, h5, h6⟩ := amem_ok (P := P) (fun x => R_ev hT x) hH hH1
              simp only [Option.some.injEq] at h1
              subst h1
              obtain rfl := h6.same_len hH h5 f1
              refine .inl ?_
              unfold Oper.wp
              rw [h2]
              have key : wpOps P ops Q (List.range' (k + 1) l.length) a w1 := by
                refine asops_ok hE l (k + 1) hl' T G H2 (i :: W) a w1 h hT hG h5 fun a3 w3 q1 q2 q3 q4 q5 q6 q7 q8 => ?_
                refine hQ a3 w3 q1 q2 (h6.trans q3) (fun j hj => q4 j (hds j hj).2) (fun j hj => ?_) (q6.trans f1) (fun j hj => q7 j (by simp [hj])) q8
                rw [q5 j hj, f2 j (fun e => hj (q7 j (by simp [e])))]
              rcases h3 with rfl | ⟨rfl, rfl⟩
              · show wpOps P ops Q _ (a.put o.dst V) w1
                rw [hod]; exact key
              · show wpOps P ops Q _ (a.put o.dst undef) w1
                rw [hod]; exact key
            · cases h
          · cases h
        · split at h
          · rename_i v hv
            have hput : ∀ V, R m v V → ∀ w1, Ext [] w [] w1 → wpOps P ops Q (List.range' (k + 1) l.length) (a.put o.dst V) w1 := by
              intro V hV w1 hE1
              have hH1 := hH.same hE1.blocks
              have hsame : Ext m w m w1 := hE1.same
              cases hod : o.dst with
              | none =>
                rw [hod] at h
                simp only at h
                refine asops_ok hE l (k + 1) hl' T G H W a w1 h hT hG hH1 fun a3 w3 q1 q2 q3 q4 q5 q6 q7 q8 => ?_
                exact hQ a3 w3 q1 q2 (hsame.trans q3) (fun j hj => q4 j (hds j hj).2) q5 q6 q7 q8
              | some d =>
                rw [hod] at h
                simp only at h
                cases hb : Nat.ble (d + 1) n with
                | false => rw [hb] at h; cases h
                | true =>
                  rw [hb] at h
                  simp only [cond_true] at h
                  have hG2 := put_dst_WR hG hdst V
                  rw [hod] at hG2
                  refine asops_ok hE l (k + 1) hl' _ G H W (a.put (some d) V) w1 h (hT.put (Nat.le_of_ble_eq_true hb) hV) hG2 hH1 fun a3 w3 q1 q2 q3 q4 q5 q6 q7 q8 => ?_
                  refine hQ a3 w3 q1 q2 (hsame.trans q3) (fun j hj => ?_) q5 q6 q7 (q8.trans (put_defers _ _ _))
                  rw [q4 j (hds j hj).2]
                  exact get_cons_ne (fun e => (hds j hj).1 (by rw [hod, e])) _ _
            rcases asval_ok hE hT hG hH hv with ⟨V, h1, h2⟩ | ⟨fid, Args, h1, h2⟩
            · refine .inl ?_
              unfold Oper.wp
              rw [h2]
              exact hput V h1 w ⟨⟨[], by simp⟩, rfl, rfl, rfl, Nat.le_refl _, fun _ _ _ => rfl⟩
            · refine .inl ?_
              unfold Oper.wp
              rw [h1]
              exact h2.mono fun e w1 ⟨V, e1, e2, e3⟩ => by subst e1; exact hput V e2 w1 e3
          · cases h
    · rename_i j want hg
      split at h
      · rename_i s d hs hd
        cases hb : (Nat.ble (d + 1) n && !(Nat.beq d s) && !(wguards G d)) with
        | false => rw [hb] at h; cases h
        | true =>
          rw [hb] at h
          simp only [Bool.and_eq_true, Bool.not_eq_true'] at hb
          simp only [cond_true] at h
          split at h
          · rename_i v hv
            obtain ⟨g1, g2⟩ := aguardS_ok hT hG hH hg hs hd hb.1.1 hb.1.2 hb.2 hv
            have hfr : ∀ i, some i ≠ o.dst → get ((d, AV.any) :: T) i = get T i := fun i hi => get_cons_ne (fun e => hi (by rw [hd, e])) _ _
            cases hw : Region.wanted o (yielded ops a.tmps) with
            | true =>
              rw [if_pos rfl]
              obtain ⟨V, h1, h2, h3⟩ := g1 hw
              refine .inl ?_
              unfold Oper.wp
              rw [h1]
              show wpOps P ops Q _ (a.put o.dst V) w
              refine asops_ok hE l (k + 1) hl' _ _ H W _ w h h2 h3 hH fun a3 w3 q1 q2 q3 q4 q5 q6 q7 q8 => ?_
              exact hQ a3 w3 q1 q2 q3 (fun i hi => (q4 i (hds i hi).2).trans (hfr i (hds i hi).1)) q5 q6 q7 (q8.trans (put_defers _ _ _))
            | false =>
              rw [if_neg (by simp)]
              obtain ⟨h2, h3⟩ := g2 hw
              refine asops_ok hE l (k + 1) hl' _ _ H W _ w h h2 h3 hH fun a3 w3 q1 q2 q3 q4 q5 q6 q7 q8 => ?_
              exact hQ a3 w3 q1 q2 q3 (fun i hi => (q4 i (hds i hi).2).trans (hfr i (hds i hi).1)) q5 q6 q7 (q8.trans (put_defers _ _ _))
          · cases h
      · cases h

end

theorem asimple_ok {P : Program} {env : Env} (hE : EnvOk P env) {n : Nat} {m : List Nat} : ∀ (c : Code) (_ : simple env c = true) (T T' : List (Nat × AV)) (H H' : List AB) (W W' : List Nat) (a : Act) (w : World) (Q : Exit → Act → World → Prop),
    asimple P env n c T H W = some (T', H', W') → TR m n T a.tmps → HR m H w →
    (∀ a' w', TR m n T' a'.tmps → HR m H' w' → Ext m w m w' → (∀ i, i ∉ writes c → get T' i = get T i) → (∀ j, j ∉ W' → H'[j]? = H[j]?) → H'.length = H.length → (∀ j ∈ W, j ∈ W') → a'.defers = a.defers → Q .normal a' w') → c.wp P Q a w
  | .skip, _, T, T', H, H', W, W', a, w, Q, h, hT, hH, hQ => by
    simp only [asimple, Option.some.injEq, Prod.mk.injEq] at h
    obtain ⟨rfl, rfl, rfl⟩ := h
    exact wp_skip (hQ a w hT hH (Ext.refl m w) (fun _ _ => rfl) (fun _ _ => rfl) rfl (fun _ h => h) rfl)
  | .region id ops false, hs, T, T', H, H', W, W', a, w, Q, h, hT, hH, hQ => by
    simp only [asimple] at h
    refine wp_region ?_
    rw [List.range_eq_range']
    have := asops_ok (P := P) (Q := Q) (ops := ops) (n := n) hE ops.toList 0 (by simp) T [] H W a w h hT (WR.nil _ _) hH (fun a' w' q1 q2 q3 q4 q5 q6 q7 q8 => hQ a' w' q1 q2 q3 q4 q5 q6 q7 q8)
    simpa using this
  | .region _ _ true, hs, _, _, _, _, _, _, _, _, _, _, _, _, _ => by simp [simple] at hs
  | .seq x y, hs, T, T', H, H', W, W', a, w, Q, h, hT, hH, hQ => by
    simp only [simple, Bool.and_eq_true] at hs
    simp only [asimple] at h
    split at h
    · rename_i T1 H1 W1 hT1
      refine wp_seq (asimple_ok hE x hs.1 T T1 H H1 W W1 a w _ hT1 hT hH fun a1 w1 q1 q2 q3 q4 q5 q6 q7 q8 => ?_)
      refine asimple_ok hE y hs.2 T1 T' H1 H' W1 W' a1 w1 Q h q1 q2 fun a2 w2 p1 p2 p3 p4 p5 p6 p7 p8 => hQ a2 w2 p1 p2 (q3.trans p3) (fun i hi => ?_) (fun j hj => ?_) (p6.trans q6) (fun j hj => p7 j (q7 j hj)) (p8.trans q8)
      · simp only [writes, List.mem_append, not_or] at hi
        rw [p4 i hi.2, q4 i hi.1]
      · rw [p5 j hj, q5 j (fun e => hj (p7 j e))]
    · cases h
  | .cond .., hs, _, _, _, _, _, _, _, _, _, _, _, _, _ => by simp [simple] at hs
  | .block .., hs, _, _, _, _, _, _, _, _, _, _, _, _, _ => by simp [simple] at hs
  | .loop .., hs, _, _, _, _, _, _, _, _, _, _, _, _, _ => by simp [simple] at hs
  | .rangeFunc .., hs, _, _, _, _, _, _, _, _, _, _, _, _, _ => by simp [simple] at hs
  | .exit .., hs, _, _, _, _, _, _, _, _, _, _, _, _, _ => by simp [simple] at hs
  | .scope .., hs, _, _, _, _, _, _, _, _, _, _, _, _, _ => by simp [simple] at hs
  | .label .., hs, _, _, _, _, _, _, _, _, _, _, _, _, _ => by simp [simple] at hs
  | .goto .., hs, _, _, _, _, _, _, _, _, _, _, _, _, _ => by simp [simple] at hs
  | .ret, hs, _, _, _, _, _, _, _, _, _, _, _, _, _ => by simp [simple] at hs
  | .refuse .., hs, _, _, _, _, _, _, _, _, _, _, _, _, _ => by simp [simple] at hs

theorem mergeB_cells {x : Bool} {A B C : AB} (h : mergeB x A B = some C) : ∃ l t l', A = .cells l t ∧ B = .cells l' t ∧ C = .cells (mergeL x l l') t ∧ l.length = l'.length := by
  unfold mergeB at h
  split at h
  · rename_i l t l' t'
    cases hb2 : (Nat.beq t t' && Nat.beq l.length l'.length) with
    | false => rw [hb2] at h; cases h
    | true =>
      rw [hb2] at h
      simp only [cond_true, Option.some.injEq] at h
      simp only [Bool.and_eq_true] at hb2
      obtain rfl := Nat.eq_of_beq_eq_true hb2.1
      exact ⟨l, t, l', rfl, rfl, h.symm, Nat.eq_of_beq_eq_true hb2.2⟩
  · cases h
theorem mergeB_ok {m : List Nat} {x : Bool} {A B C : AB} {o : Obj} (h : mergeB x A B = some C) (ha : x = true → RB m A o) (hb : x = false → RB m B o) : RB m C o := by
  obtain ⟨l, t, l', rfl, rfl, rfl, hl⟩ := mergeB_cells h
  cases x
  · obtain ⟨Vs, e, hr⟩ := hb rfl
    exact ⟨Vs, e, RL_merge l l' hl (fun h => by cases h) (fun _ => hr)⟩
  · obtain ⟨Vs, e, hr⟩ := ha rfl
    exact ⟨Vs, e, RL_merge l l' hl (fun _ => hr) (fun h => by cases h)⟩

theorem mergeH_get {x : Bool} {Ha Hb : List AB} : ∀ (is : List Nat) (H H' : List AB), mergeH x Ha Hb is H = some H' → H'.length = H.length ∧ ∀ j, (j ∉ is ∧ H'[j]? = H[j]?) ∨ (∃ A B C, Ha[j]? = some A ∧ Hb[j]? = some B ∧ mergeB x A B = some C ∧ (H'[j]? = some C ∨ H'[j]? = none))
  | [], H, H', h => by
    simp only [mergeH, Option.some.injEq] at h; subst h
    exact ⟨rfl, fun j => .inl ⟨by simp, rfl⟩⟩
  | i :: is, H, H', h => by
    simp only [mergeH] at h
    split at h
    · rename_i A B hA hB
      split at h
      · rename_i C hC
        obtain ⟨hlen, hrest⟩ := mergeH_get is (H.set i C) H' h
        refine ⟨by simpa using hlen, fun j => ?_⟩
        rcases hrest j with ⟨h1, h2⟩ | h1
        · by_cases e : i = j
          · subst e
            refine .inr ⟨A, B, C, hA, hB, hC, ?_⟩
            rw [h2]
            by_cases hlt : i < H.length
            · left; simp [hlt]
            · right; simp; omega
          · left
            refine ⟨by simp [h1]; exact fun e' => e e'.symm, ?_⟩
            rw [h2, List.getElem?_set_ne e]
        · exact .inr h1
      · cases h
    · cases h

theorem HR_merge {m : List Nat} {x : Bool} {H Ha Hb H' : List AB} {Wa Wb : List Nat} {w' : World} (h : mergeH x Ha Hb (Wa ++ Wb) H = some H')
    (ha : x = true → HR m Ha w' ∧ (∀ j, j ∉ Wa → Ha[j]? = H[j]?) ∧ Ha.length = H.length) (hb : x = false → HR m Hb w' ∧ (∀ j, j ∉ Wb → Hb[j]? = H[j]?) ∧ Hb.length = H.length) : HR m H' w' := by
  obtain ⟨hlen, hget⟩ := mergeH_get _ _ _ h
  have key : ∀ (Hx : List AB), HR m Hx w' → (∀ j D, H'[j]? = some D → D.live = true → ∃ B, Hx[j]? = some B ∧ B.live = true ∧ ∀ b o, RB m B o → capAt m j b o B → RB m D o ∧ capAt m j b o D) → Hx.length = H.length → HR m H' w' := by
    intro Hx hx hk hl
    refine ⟨by rw [hx.len, hl, hlen], ?_, ?_⟩
    · intro i j b B C h1 h2 h3 h4 h5 h6
      obtain ⟨B', b1, b2, _⟩ := hk i B h3 h5
      obtain ⟨C', c1, c2, _⟩ := hk j C h4 h6
      exact hx.nodup i j b B' C' h1 h2 b1 c1 b2 c2
    · intro i D hD hDl
      obtain ⟨B, b1, b2, b3⟩ := hk i D hD hDl
      obtain ⟨b, o, e1, e2, e3, e4⟩ := hx.all i B b1 b2
      exact ⟨b, o, e1, e2, b3 b o e3 e4⟩
  cases x
  · obtain ⟨r1, r2, r3⟩ := hb rfl
    refine key Hb r1 (fun i D hD hDl => ?_) r3
    rcases hget i with ⟨h1, h2⟩ | ⟨A, B, C, h1, h2, h3, h4⟩
    · simp only [List.mem_append, not_or] at h1
      rw [h2] at hD
      exact ⟨D, by rw [r2 i h1.2]; exact hD, hDl, fun b o p q => ⟨p, q⟩⟩
    · rcases h4 with h4 | h4
      · rw [h4] at hD; cases hD
        have hm := h3
        obtain ⟨l, t, l', rfl, rfl, rfl, hl⟩ := mergeB_cells h3
        exact ⟨_, h2, rfl, fun b o p _ => ⟨mergeB_ok hm (fun h => by cases h) (fun _ => p), trivial⟩⟩
      · rw [h4] at hD; cases hD
  · obtain ⟨r1, r2, r3⟩ := ha rfl
    refine key Ha r1 (fun i D hD hDl => ?_) r3
    rcases hget i with ⟨h1, h2⟩ | ⟨A, B, C, h1, h2, h3, h4⟩
    · simp only [List.mem_append, not_or] at h1
      rw [h2] at hD
      exact ⟨D, by rw [r2 i h1.1]; exact hD, hDl, fun b o p q => ⟨p, q⟩⟩
    · rcases h4 with h4 | h4
      · rw [h4] at hD; cases hD
        have hm := h3
        obtain ⟨l, t, l', rfl, rfl, rfl, hl⟩ := mergeB_cells h3
        exact ⟨_, h1, rfl, fun b o p _ => ⟨mergeB_ok hm (fun _ => p) (fun h => by cases h), trivial⟩⟩
      · rw [h4] at hD; cases hD

theorem get_mergeT {x : Bool} {Ta Tb : List (Nat × AV)} : ∀ (ds : List Nat) (T : List (Nat × AV)) (i : Nat), (i ∈ ds ∧ get (mergeT x Ta Tb ds T) i = mergeAV x (get Ta i) (get Tb i)) ∨ (i ∉ ds ∧ get (mergeT x Ta Tb ds T) i = get T i)
  | [], T, i => .inr ⟨by simp, rfl⟩
  | d :: ds, T, i => by
    by_cases e : d = i
    · subst e
      refine .inl ⟨by simp, ?_⟩
      simp [mergeT, get]
    · simp only [mergeT]
      rw [get_cons_ne e]
      rcases get_mergeT ds T i with ⟨h1, h2⟩ | ⟨h1, h2⟩
      · exact .inl ⟨by simp [h1], h2⟩
      · exact .inr ⟨by simp [h1]; exact fun h => e h.symm, h2⟩

theorem TR_merge {m : List Nat} {n : Nat} {x : Bool} {T Ta Tb : List (Nat × AV)} {tmps : Array Value} {wa wb : List Nat} (ha : x = true → TR m n Ta tmps ∧ ∀ i, i ∉ wa → get Ta i = get T i) (hb : x = false → TR m n Tb tmps ∧ ∀ i, i ∉ wb → get Tb i = get T i) :
    TR m n (mergeT x Ta Tb (wa ++ wb) T) tmps := by
  refine ⟨by cases x; exact (hb rfl).1.1; exact (ha rfl).1.1, fun i => ?_⟩
  rcases get_mergeT (x := x) (Ta := Ta) (Tb := Tb) (wa ++ wb) T i with ⟨h1, h2⟩ | ⟨h1, h2⟩
  · rw [h2]
    exact R_merge _ _ (fun e => (ha e).1.2 i) (fun e => (hb e).1.2 i)
  · rw [h2]
    simp only [List.mem_append, not_or] at h1
    cases x
    · rw [← (hb rfl).2 i h1.2]; exact (hb rfl).1.2 i
    · rw [← (ha rfl).2 i h1.1]; exact (ha rfl).1.2 i

section
variable {ρ : Type}

/-! ### Code -/
def exOf : Ex → Exit
  | .normal => .normal
  | .exit id => .exit id
  | .ret => .ret

theorem TR_mkT {m : List Nat} : ∀ (args : List AV) (Args : List Value) (k : Nat), RL m args Args → ∀ i, get (mkT k args) i = .any ∨ ∃ j V, i = k + j ∧ Args[j]? = some V ∧ R m (get (mkT k args) i) V
  | [], _, _, _, _ => .inl rfl
  | v :: args, _, k, h, i => by
    obtain ⟨V, Vs', rfl, h2, h3⟩ := RL_cons.1 h
    simp only [mkT, get]
    cases hb : Nat.beq k i with
    | true => exact .inr ⟨0, V, by have := Nat.eq_of_beq_eq_true hb; omega, by simp, by simpa using h2⟩
    | false =>
      simp only [cond_false]
      rcases TR_mkT args Vs' (k + 1) h3 i with h4 | ⟨j, V', e1, e2, e3⟩
      · exact .inl h4
      · exact .inr ⟨j + 1, V', by omega, by simpa using e2, e3⟩

theorem TR_enter {m : List Nat} {args : List AV} {Args : Array Value} (h : RL m args Args.toList) {n : Nat} (hn : args.length ≤ n) :
    TR m n (mkT 0 args) (Args ++ Array.replicate (n - Args.size) undef) := by
  have hl : Args.size = args.length := by have := RL_len h; simpa using this
  refine ⟨by simp; omega, fun i => ?_⟩
  rcases TR_mkT args Args.toList 0 h i with h4 | ⟨j, V, e1, e2, e3⟩
  · rw [h4]; simp only [R]
  · have hj : j < Args.size := by have := (List.getElem?_eq_some_iff.1 e2).1; simpa using this
    have : (Args ++ Array.replicate (n - Args.size) undef).getD i undef = V := by
      obtain rfl : i = j := by omega
      rw [Array.getD_eq_getD_getElem?, Array.getElem?_append_left hj]
      have : Args[i]? = some V := by simpa using e2
      rw [this]; rfl
    rw [this]; exact e3

theorem ares_ok {P : Program} {m : List Nat} {n : Nat} {T : List (Nat × AV)} {tmps : Array Value} (hT : TR m n T tmps) {H : List AB} {w : World} (hH : HR m H w) {f : ResultVar → Sem Value} (f1 : ∀ t, f (.tmp t) = pure (tmps.getD t undef)) (f2 : ∀ a t, f (.cell a t) = do loadVar t (← asAddr (tmps.getD a undef))) : ∀ (l : List ResultVar) (vs : List AV), ares P T H l = some vs →
    ∃ Vs, RL m vs Vs ∧ (l.mapM f).run P w = .ok Vs w
  | [], vs, h => by simp only [ares, Option.some.injEq] at h; subst h; exact ⟨[], RL_nil.2 rfl, by simp⟩
  | .tmp t :: l, vs, h => by
    simp only [ares] at h
    split at h
    · rename_i us hus
      cases h
      obtain ⟨Vs, h1, h2⟩ := ares_ok hT hH f1 f2 l us hus
      refine ⟨tmps.getD t undef :: Vs, RL.cons (hT.2 t) h1, ?_⟩
      rw [List.mapM_cons, f1]
      simp only [Sem.run_bind, Sem.run_pure, Result.andThen_ok, h2]
    · cases h
  | .cell a t :: l, vs, h => by
    simp only [ares] at h
    split at h
    · rename_i v us hv hus
      cases h
      obtain ⟨Vs, h1, h2⟩ := ares_ok hT hH f1 f2 l us hus
      obtain ⟨V, h3, h4⟩ := loadA_ok hH (hT.2 a) hv
      have h5 := h4 w (fun _ _ => rfl)
      refine ⟨V :: Vs, RL.cons h3 h1, ?_⟩
      rw [List.mapM_cons, f2]
      have h6 : (do loadVar t (← asAddr (tmps.getD a undef)) : Sem Value).run P w = .ok V w := by
        have hA := hT.2 a
        unfold loadA at hv
        split at hv
        · rename_i i o heq
          rw [heq] at hA
          simp only [R] at hA
          obtain ⟨b, _, hA⟩ := hA
          rw [hA] at h5 ⊢
          simpa [Instr.loadAt, Instr.sureAddr, asAddr] using h5
        · cases hv
      simp only [Sem.run_bind] at h6 ⊢
      simp only [h6, Result.andThen_ok, Sem.run_pure, h2]
    · cases h

theorem results_ok {P : Program} {m : List Nat} {n : Nat} {T : List (Nat × AV)} {tmps : Array Value} (hT : TR m n T tmps) {H : List AB} {w : World} (hH : HR m H w) {fn : Func} {vs : List AV} (h : ares P T H fn.results.toList = some vs) :
    ∃ V, R m (tupOf vs) V ∧ (results fn tmps).run P w = .ok V w := by
  have key : ∃ Vs, RL m vs Vs ∧ (results fn tmps).run P w = .ok (if h : (⟨Vs⟩ : Array Value).size = 1 then (⟨Vs⟩ : Array Value)[0] else .tuple ⟨Vs⟩) w := by
    unfold results
    rw [Array.mapM_eq_mapM_toList]
    simp only [map_eq_pure_bind, Sem.run_bind, Sem.run_pure]
    generalize hf : (fun (x : ResultVar) => (_ : Sem Value)) = f
    obtain ⟨Vs, h1, h2⟩ := ares_ok hT hH (f := f) (fun t => by rw [← hf]) (fun a t => by rw [← hf]) fn.results.toList vs h
    exact ⟨Vs, h1, by rw [h2]; rfl⟩
  obtain ⟨Vs, h1, h2⟩ := key
  have hl := RL_len h1
  refine ⟨if h : (⟨Vs⟩ : Array Value).size = 1 then (⟨Vs⟩ : Array Value)[0] else .tuple ⟨Vs⟩, ?_, ?_⟩
  · match vs, Vs, h1, hl with
    | [], [], _, _ => simp [tupOf, R, RL]
    | [v], [V], h1, _ =>
      obtain ⟨V', Vs', e1, e2, e3⟩ := RL_cons.1 h1
      cases e1
      simpa [tupOf] using e2
    | u :: v :: vs, U :: V :: Vs, h1, _ =>
      simp only [tupOf, R]
      exact ⟨U :: V :: Vs, by simp, h1⟩
  · exact h2

theorem acall_of_code {P : Program} {env : Env} {fuel : Nat}
    (ih : ∀ (n : Nat) (c : Code) (T : List (Nat × AV)) (H : List AB) (K : Ex → List (Nat × AV) → List AB → Option ρ) (r : ρ), acode P env fuel n c T H K = some r → ∀ (m : List Nat) (a : Act) (w : World) (Q : Exit → Act → World → Prop), TR m n T a.tmps → HR m H w → a.defers = [] →
      (∀ e T' H' a' m' w', TR m' n T' a'.tmps → HR m' H' w' → Ext m w m' w' → a'.defers = [] → K e T' H' = some r → Q (exOf e) a' w') → c.wp P Q a w)
    {fid : FuncId} {fn : Func} (hfn : P.funcs[fid]? = some fn) {c' : Code} (hc' : fn.body = some c') {args : List AV} (hle : args.length ≤ fn.ntmps) {H : List AB} {K : AV → List AB → Option ρ} {r : ρ}
    (h : acode P env fuel fn.ntmps c' (mkT 0 args) H (fun e T' H' => match e with | .exit _ => none | _ => match ares P T' H' fn.results.toList with | some vs => K (tupOf vs) H' | none => none) = some r)
    {m : List Nat} {Args : Array Value} {w : World} (hA : RL m args Args.toList) (hH : HR m H w) :
    Calls P fid Args w fun e w' => ∃ v V m' H', e = .returned V ∧ R m' v V ∧ HR m' H' w' ∧ Ext m w m' w' ∧ K v H' = some r := by
  refine calls_of_wp hfn hc' (ih _ _ _ _ _ _ h m _ w _ (TR_enter hA hle) hH rfl ?_)
  intro e T' H' a' m' w' q1 q2 q3 q4 q5
  cases e with
  | exit id => cases q5
  | normal =>
    simp only at q5
    split at q5
    · rename_i vs hvs
      obtain ⟨V, h1, h2⟩ := results_ok q1 q2 hvs
      exact ⟨q4, V, h2, _, V, m', H', rfl, h1, q2, q3, q5⟩
    · cases q5
  | ret =>
    simp only at q5
    split at q5
    · rename_i vs hvs
      obtain ⟨V, h1, h2⟩ := results_ok q1 q2 hvs
      exact ⟨q4, V, h2, _, V, m', H', rfl, h1, q2, q3, q5⟩
    · cases q5

end
end Go.Proofs.Ytcagaaaibhifdaa.Ae
