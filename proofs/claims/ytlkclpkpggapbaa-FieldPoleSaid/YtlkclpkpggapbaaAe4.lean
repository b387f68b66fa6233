/- The interpreter's memory operations are the model's. Conditions: none. -/
import Derived.Test.YtlkclpkpggapbaaAe3
import Derived.Test.YtlkclpkpggapbaaAeM
import Derived.Laws.Cells
namespace Go.Proofs.Ytlkclpkpggapbaa.Ae
open Go

def AV.scalar : AV → Bool
  | .agg _ | .tup _ | .any => false
  | _ => true

def AV.scalars : List AV → Bool
  | [] => true
  | v :: l => v.scalar && AV.scalars l

theorem R_oneCell {m : List Nat} {v : AV} {V : Value} (h : R m v V) (hs : v.scalar = true) : V.oneCell' = true := by
  cases v <;> simp [AV.scalar] at hs <;> simp only [R] at h
  all_goals first
    | (subst h; rfl)
    | (obtain ⟨hb, _, _⟩ := h; subst hb; rfl)
    | (obtain ⟨b, _, hb⟩ := h; subst hb; rfl)
    | (obtain ⟨b, hb, _⟩ := h; subst hb; rfl)
    | (obtain ⟨_, _, _, _, hb⟩ := h; subst hb; rfl)

/-- What is known of a block's cells. -/
def blkL : AB → Option (List AV)
  | .cells l _ => some l
  | .row l _ => some l
  | .ro l _ => some l
  | _ => none

theorem blk_ok {m : List Nat} {H : List AB} {w : World} (hH : HR m H w) {i : Nat} {l : List AV} (h : (H[i]?).bind blkL = some l) :
    ∃ b Vs t fz, m[i]? = some b ∧ w.heap[b]? = some (.cells ⟨Vs⟩ t fz) ∧ l.length ≤ Vs.length ∧ RL m l (Vs.take l.length) := by
  obtain ⟨B, hB, hl⟩ := Option.bind_eq_some_iff.1 h
  cases B with
  | cells l' t =>
    cases hl
    obtain ⟨b, o, h1, h2, Vs, rfl, h3⟩ := hH.at_ i hB
    have hlen := RL_len h3
    exact ⟨b, Vs, t, _, h1, h2, by omega, by rw [← hlen, List.take_length]; exact h3⟩
  | row l' t =>
    cases hl
    obtain ⟨b, o, h1, h2, Vs, rfl, h0, h3⟩ := hH.at_ i hB
    exact ⟨b, Vs, t, _, h1, h2, h0, h3⟩
  | ro l' t =>
    cases hl
    obtain ⟨b, o, h1, h2, Vs, fz, rfl, h0, h3⟩ := hH.at_ i hB
    exact ⟨b, Vs, t, fz, h1, h2, h0, h3⟩
  | map _ => cases hl
  | dead => cases hl

/-- What lies at an address. -/
def loadA (P : Program) (H : List AB) (t : TypeId) (a : AV) : Option AV :=
  match a with
  | .ptr i o =>
    match (H[i]?).bind blkL with
    | some l =>
      match isAggA P t with
      | some true =>
        match sizeA P t with
        | some n => bif Nat.ble (o + n) l.length then some (.agg ((l.drop o).take n)) else none
        | none => none
      | some false => l[o]?
      | none => none
    | none => none
  | _ => none

theorem cell_of {w : World} {b : Nat} {Vs : List Value} {t : TypeId} {fz : Nat × Nat} (h : w.heap[b]? = some (.cells ⟨Vs⟩ t fz)) (o : Nat) : w.cell? ⟨b, o, none⟩ = Vs[o]? := by
  simp [World.cell?, h]

theorem drop_take_take {α : Type} (Vs : List α) {o n k : Nat} (h : o + n ≤ k) : ((Vs.take k).drop o).take n = (Vs.drop o).take n := by
  rw [List.drop_take, List.take_take]; congr 1; omega

theorem loadA_ok {P : Program} {m : List Nat} {H : List AB} {w : World} (hH : HR m H w) {t : TypeId} {a v : AV} {A : Value} (ha : R m a A) (h : loadA P H t a = some v) :
    ∃ V, R m v V ∧ ∀ w' : World, (∀ b, b < w.heap.size → w'.heap[b]? = w.heap[b]?) → (Instr.loadAt t A).run P w' = .ok V w' := by
  unfold loadA at h
  split at h
  · rename_i i o
    simp only [R] at ha
    obtain ⟨b, hb, rfl⟩ := ha
    split at h
    · rename_i l hbl
      obtain ⟨b', Vs, bt, fz, h1, h2, h0, hR⟩ := blk_ok hH hbl
      rw [hb] at h1; cases h1
      have hlt : b < w.heap.size := (Array.getElem?_eq_some_iff.1 h2).1
      split at h
      · rename_i hag
        split at h
        · rename_i n hn
          cases hc : Nat.ble (o + n) l.length with
          | false => rw [hc] at h; cases h
          | true =>
            rw [hc] at h
            simp only [cond_true, Option.some.injEq] at h
            subst h
            have hle := Nat.le_of_ble_eq_true hc
            refine ⟨.agg ⟨(Vs.drop o).take n⟩, by simp only [R]; exact ⟨_, rfl, by rw [← drop_take_take Vs hle]; exact RL_take n (RL_drop o hR)⟩, fun w' hw => ?_⟩
            have hblk : w'.heap[b]? = some (.cells ⟨Vs⟩ bt fz) := by rw [hw b hlt]; exact h2
            have hcells : (loadCells ⟨b, o, none⟩ n).run P w' = .ok ⟨(Vs.drop o).take n⟩ w' := by
              have := run_loadCells_list (P := P) (w := w') ⟨b, o, none⟩ ((Vs.drop o).take n) (fun j v hj => by
                rw [addr_add, cell_of hblk]
                rw [List.getElem?_take] at hj
                split at hj
                · rw [List.getElem?_drop] at hj; exact hj
                · cases hj)
              have hl : ((Vs.drop o).take n).length = n := by simp; omega
              rw [hl] at this
              exact this
            simp [Instr.loadAt, Instr.sureAddr, loadVar, run_isAgg hag, run_sizeA hn, hcells]
        · cases h
      · rename_i hag
        obtain ⟨V, hV, hRV⟩ := RL_get hR h
        have hol : o < l.length := (List.getElem?_eq_some_iff.1 h).1
        rw [List.getElem?_take, if_pos hol] at hV
        refine ⟨V, hRV, fun w' hw => ?_⟩
        have hblk : w'.heap[b]? = some (.cells ⟨Vs⟩ bt fz) := by rw [hw b hlt]; exact h2
        have hc : w'.cell? ⟨b, o, none⟩ = some V := by rw [cell_of hblk]; exact hV
        simp [Instr.loadAt, Instr.sureAddr, loadVar, run_isAgg hag, load, Sem.run, hc]
      · cases h
    · cases h
  · cases h

section
variable {ρ : Type}

/-- Operations that make or write memory. -/
def amem (P : Program) (e : Operand → AV) (H : List AB) (o : Op) (K : AV → List AB → Option ρ) : Option ρ :=
  match o with
  | .alloc t =>
    match zeroA P t with
    | some z =>
      match cellsOf? z with
      | some l => K (.ptr H.length 0) (H ++ [.cells l t])
      | none => none
    | none => none
  | .box t x =>
    match cellsOf? (e x) with
    | some l => K (.ptr H.length 0) (H ++ [.cells l t])
    | none => none
  | .buildSlice t len parts =>
    match P.underlying t with
    | some (.slice el) =>
      match sizeA P el, (zeroA P el).bind cellsOf? with
      | some n, some z =>
        bif Nat.ble (len * n) 16777216 && Nat.ble 1 (len * n) && Nat.ble 1 z.length then
          match fillA (fun i => some (i * n, n)) ((List.range (len * n)).map fun i => z.getD (i % z.length) .any) (parts.toList.map fun (i, x) => (i, e x)) with
          | some cs => K (.slice H.length 0 len len) (H ++ [.cells cs el])
          | none => none
        else none
      | _, _ => none
    | _ => none
  | .store t a x =>
    match e a, cellsOf? (e x), sizeA P t with
    | .ptr i o, some vs, some n =>
      match H[i]? with
      | some (.cells l bt) => bif Nat.beq vs.length n && Nat.ble (o + vs.length) l.length && AV.scalars vs then K .any (H.set i (.cells (setL l o vs) bt)) else none
      | _ => none
    | _, _, _ => none
  | .makeMap t none =>
    match mapT P t with
    | some (two, _) => K (.map H.length) (H ++ [.map two []])
    | none => none
  | .mapUpdate t x k y | .insert t x k y =>
    match mapPutA P H t (e x) (e k) (e y) with
    | some H' => K .any H'
    | none => none
  | _ => none

/-- What an operation is to have done. -/
def Done (P : Program) (m : List Nat) (w : World) (s : Sem Next) (v : AV) (H' : List AB) : Prop :=
  ∃ nx V w' m', s.run P w = .ok nx w' ∧ (nx = .value V ∨ (nx = .skip ∧ V = undef)) ∧ R m' v V ∧ HR m' H' w' ∧ Ext m w m' w'

theorem newBlock {m : List Nat} {H : List AB} {w : World} (hH : HR m H w) {l : List AV} {L : List Value} (hl : RL m l L) (t : TypeId) :
    HR (m ++ [w.heap.size]) (H ++ [.cells l t]) { w with heap := w.heap.push (.cells ⟨L⟩ t) } ∧ Ext m w (m ++ [w.heap.size]) { w with heap := w.heap.push (.cells ⟨L⟩ t) } ∧ (m ++ [w.heap.size])[H.length]? = some w.heap.size :=
  ⟨hH.push (l := l) (t := t) (o := .cells ⟨L⟩ t (0, 0)) ⟨L, rfl, hl⟩, (Ext.refl m w).push _, by rw [← hH.len]; simp⟩

theorem storeCells_ok {P : Program} {m : List Nat} {b i : Nat} {bt : TypeId} : ∀ {vs : List AV} {Vs : List Value} (_ : RL m vs Vs) (_ : AV.scalars vs = true) {H : List AB} {w : World} (_ : HR m H w) (_ : m[i]? = some b) {l : List AV} (_ : H[i]? = some (.cells l bt)) (o k : Nat) (_ : o + k + vs.length ≤ l.length),
    ∃ w', (storeCells ⟨b, o, none⟩ Vs k).run P w = .ok () w' ∧ HR m (H.set i (.cells (setL l (o + k) vs) bt)) w' ∧ Ext m w m w'
  | [], _, h, _, H, w, hH, hb, l, hl, o, k, _ => by
    rw [RL_nil.1 h]
    refine ⟨w, by simp [storeCells], ?_, Ext.refl m w⟩
    simp only [setL]
    have : H.set i (.cells l bt) = H := by
      obtain ⟨hi, e⟩ := List.getElem?_eq_some_iff.1 hl
      rw [← e]; exact List.set_getElem_self hi
    rw [this]; exact hH
  | v :: vs, _, h, hs, H, w, hH, hb, l, hl, o, k, hle => by
    obtain ⟨V, Vs', rfl, h2, h3⟩ := RL_cons.1 h
    simp only [AV.scalars, Bool.and_eq_true] at hs
    simp only [List.length_cons] at hle
    obtain ⟨b', ob, h1, h4, h5⟩ := hH.at_ i hl
    rw [hb] at h1; cases h1
    obtain ⟨Cs, rfl, hR⟩ := h5
    have hlen := RL_len hR
    have hlt : o + k < Cs.length := by omega
    have hcell : w.cell? ⟨b, o + k, none⟩ = some Cs[o + k] := by rw [cell_of h4]; exact List.getElem?_eq_getElem hlt
    have hfr : w.frozen? ⟨b, o + k, none⟩ = false := by simp [World.frozen?, h4]
    have hst : (store ⟨b, o + k, none⟩ V).run P w = .ok () (w.setCell ⟨b, o + k, none⟩ V) := by
      rw [run_store P w _ _ _ (R_oneCell h2 hs.1)]
      simp [hcell, hfr]
    have hheap : (w.setCell ⟨b, o + k, none⟩ V).heap[b]? = some (.cells ⟨Cs.set (o + k) V⟩ bt (0, 0)) := by
      simp [World.setCell, Array.getElem?_modify, h4]
    have hrest : ∀ j, j ≠ b → (w.setCell ⟨b, o + k, none⟩ V).heap[j]? = w.heap[j]? := fun j hj => by
      simp [World.setCell, Array.getElem?_modify, Ne.symm hj]
    have hsz : (w.setCell ⟨b, o + k, none⟩ V).heap.size = w.heap.size := by simp [World.setCell]
    have hH' := hH.put hb hl rfl (B := .cells (l.set (o + k) v) bt) (o := .cells ⟨Cs.set (o + k) V⟩ bt (0, 0)) ⟨_, rfl, RL_set h2 _ hR⟩ trivial hheap hrest
    have hE' := (Ext.refl m w).put hb hsz rfl rfl rfl hrest
    have hget : (H.set i (.cells (l.set (o + k) v) bt))[i]? = some (.cells (l.set (o + k) v) bt) := by
      have := (List.getElem?_eq_some_iff.1 hl).1
      simp [this]
    obtain ⟨w', hr, hH'', hE''⟩ := storeCells_ok (P := P) h3 hs.2 hH' hb hget o (k + 1) (by simp; omega)
    refine ⟨w', ?_, ?_, hE'.trans hE''⟩
    · simp only [storeCells, addr_add, Sem.run_bind, hst, Result.andThen_ok]
      exact hr
    · have : (H.set i (.cells (l.set (o + k) v) bt)).set i (.cells (setL (l.set (o + k) v) (o + (k + 1)) vs) bt) = H.set i (.cells (setL l (o + k) (v :: vs)) bt) := by
        rw [List.set_set]; simp [setL, Nat.add_assoc]
      rw [← this]; exact hH''

theorem amem_ok {P : Program} {m : List Nat} {e : Operand → AV} {E : Operand → Value} (he : ∀ x, R m (e x) (E x)) {H : List AB} {w : World} (hH : HR m H w) {o : Oper} {K : AV → List AB → Option ρ} {r : ρ}
    (h : amem P e H o.op K = some r) : ∃ v H', K v H' = some r ∧ Done P m w (execOp E o) v H' := by
  obtain ⟨dst, op, type, pos, after, guard⟩ := o
  cases op <;> simp only [amem, reduceCtorEq] at h <;> (try (cases h; done)) <;> simp only [execOp]
  case alloc t =>
    split at h
    · rename_i z hz
      obtain ⟨Z, hZ, hRZ⟩ := run_zeroA hz m
      split at h
      · rename_i l hl
        have hc := R_cells hRZ hl
        obtain ⟨n1, n2, n3⟩ := newBlock hH hc t
        refine ⟨_, _, h, .value (.pointer (some ⟨w.heap.size, 0, none⟩)), _, _, _, ?_, .inl rfl, ?_, n1, n2⟩
        · simp [Instr.alloc, hZ, newVar, newRow, newObj, Sem.run]
        · simp only [R]; exact ⟨_, n3, rfl⟩
      · cases h
    · cases h
  case box t x =>
    split at h
    · rename_i l hl
      have hc := R_cells (he x) hl
      obtain ⟨n1, n2, n3⟩ := newBlock hH hc t
      refine ⟨_, _, h, .value (.pointer (some ⟨w.heap.size, 0, none⟩)), _, _, _, ?_, .inl rfl, ?_, n1, n2⟩
      · simp [Instr.box, newVar, newRow, newObj, Sem.run]
      · simp only [R]; exact ⟨_, n3, rfl⟩
    · cases h
  case buildSlice t len parts =>
    split at h
    · rename_i el hu
      split at h
      · rename_i n z hn hz
        obtain ⟨z0, hz0, hzc⟩ := Option.bind_eq_some_iff.1 hz
        obtain ⟨Z, hZ, hRZ⟩ := run_zeroA hz0 m
        have hcz := R_cells hRZ hzc
        cases hb : (Nat.ble (len * n) 16777216 && Nat.ble 1 (len * n) && Nat.ble 1 z.length) with
        | false => rw [hb] at h; cases h
        | true =>
          rw [hb] at h
          simp only [Bool.and_eq_true] at hb
          obtain ⟨⟨b1, b2⟩, b3⟩ := hb
          have b1 := Nat.le_of_ble_eq_true b1
          have b2 := Nat.le_of_ble_eq_true b2
          have b3 := Nat.le_of_ble_eq_true b3
          simp only [cond_true] at h
          split at h
          · rename_i cs hcs
            have hp := RP_map (m := m) he parts.toList
            have hzl : Z.cells.size = z.length := by have := RL_len hcz; simpa using this
            have hbase : RL m ((List.range (len * n)).map fun i => z.getD (i % z.length) .any) ((Array.range (len * n)).map (Z.cells[· % Z.cells.size]!)).toList := by
              rw [Array.toList_map, Array.toList_range]
              generalize List.range (len * n) = is
              induction is with
              | nil => exact RL_nil.2 rfl
              | cons j is ih =>
                refine RL.cons ?_ ih
                have hj : j % z.length < z.length := Nat.mod_lt _ (by omega)
                obtain ⟨V, hV, hRV⟩ := RL_get hcz (List.getElem?_eq_getElem hj)
                have e1 : z.getD (j % z.length) .any = z[j % z.length] := by simp [hj]
                show R m (z.getD (j % z.length) .any) (Z.cells[j % Z.cells.size]!)
                rw [e1, hzl]
                have hV' : Z.cells[j % z.length]? = some V := by simpa using hV
                have : Z.cells[j % z.length]! = V := by rw [getElem!_def, hV']
                rw [this]; exact hRV
            obtain ⟨L, hL, hRL⟩ := fillA_ok hp hbase hcs
            obtain ⟨n1, n2, n3⟩ := newBlock hH hRL el
            refine ⟨_, _, h, .value (.slice (some ⟨w.heap.size, 0, none⟩) len len), _, _, _, ?_, .inl rfl, ?_, n1, n2⟩
            · have c1 : ¬ len * n > 2 ^ 24 := by omega
              have c2 : ¬ len * n = 0 := by omega
              simp only [Instr.buildSlice, Sem.run_bind, run_underlying hu, Result.andThen_ok, run_sizeA hn, c1, if_false, c2, hZ, Sem.run_pure]
              rw [Array.toList_map, hL]
              simp [newRow, newObj, Sem.run]
            · simp only [R]; exact ⟨_, n3, rfl⟩
          · cases h
      · cases h
    · cases h
  case store t a x =>
    have ha := he a
    split at h
    · rename_i i o vs n hea hvs hn
      rw [hea] at ha
      simp only [R] at ha
      obtain ⟨b, hb, hA⟩ := ha
      have hc := R_cells (he x) hvs
      split at h
      · rename_i l bt hl
        cases hbb : (Nat.beq vs.length n && Nat.ble (o + vs.length) l.length && AV.scalars vs) with
        | false => rw [hbb] at h; cases h
        | true =>
          rw [hbb] at h
          simp only [Bool.and_eq_true] at hbb
          obtain ⟨⟨b1, b2⟩, b3⟩ := hbb
          have b1 := Nat.eq_of_beq_eq_true b1
          have b2 := Nat.le_of_ble_eq_true b2
          simp only [cond_true] at h
          obtain ⟨w', hr, hH', hE'⟩ := storeCells_ok (P := P) hc b3 hH hb hl o 0 (by omega)
          refine ⟨_, _, h, .skip, undef, w', m, ?_, .inr ⟨rfl, rfl⟩, by simp only [R], hH', hE'⟩
          have hsz : (E x).cells.size = n := by have := RL_len hc; simp at this; omega
          simp [Instr.storeAt, hA, Instr.sureAddr, storeVar, run_sizeA hn, hsz, hr]
      · cases h
    · cases h
  case makeMap t res =>
    cases res with
    | some _ => cases h
    | none =>
      simp only at h
      split at h
      · rename_i two el hm
        obtain ⟨n0, n1, n2, n3⟩ := newMap_ok two (P := P) hH t
        refine ⟨_, _, h, .value (.map (some w.heap.size)), _, _, _, ?_, .inl rfl, ?_, n1, n2⟩
        · simp only [Option.map_none, Sem.run_bind, n0, Result.andThen_ok, Sem.run_pure]
        · simp only [R]; exact ⟨_, n3, rfl⟩
      · cases h
  case mapUpdate t x k y =>
    split at h
    · rename_i H' hp
      obtain ⟨w', h1, h2, h3⟩ := mapPutA_ok (P := P) hH (he x) (he k) (he y) hp
      refine ⟨_, _, h, .skip, undef, w', m, ?_, .inr ⟨rfl, rfl⟩, by simp only [R], h2, h3⟩
      simp only [Sem.run_bind, h1, Result.andThen_ok, Sem.run_pure]
    · cases h
  case insert t x k y =>
    split at h
    · rename_i H' hp
      obtain ⟨w', h1, h2, h3⟩ := mapPutA_ok (P := P) hH (he x) (he k) (he y) hp
      refine ⟨_, _, h, .skip, undef, w', m, ?_, .inr ⟨rfl, rfl⟩, by simp only [R], h2, h3⟩
      simp only [Sem.run_bind, h1, Result.andThen_ok, Sem.run_pure]
    · cases h

end
#print axioms amem_ok
end Go.Proofs.Ytlkclpkpggapbaa.Ae
