/- The interpreter's operations on rows that grow: append, make, strings and bytes. Conditions: none. -/
import Derived.Test.YtlkclpkpggapbaaAe4
import Derived.Laws.AppendOwn
import Derived.Laws.BytesString
import Derived.Lib.ConvBytes
namespace Go.Proofs.Ytlkclpkpggapbaa.Ae
open Go

/-- What stands in a slice. -/
def rowOf (H : List AB) : AV → Option (List AV)
  | .nils => some []
  | .slice i o len _ =>
    match (H[i]?).bind blkL with
    | some l => bif Nat.ble (o + len) l.length then some ((l.drop o).take len) else none
    | none => none
  | .own i n =>
    match (H[i]?).bind blkL with
    | some l => bif Nat.ble n l.length then some (l.take n) else none
    | none => none
  | _ => none

/-- What it says of a slice in a world. -/
def RowIn (w : World) (X : Value) (L : List Value) : Prop :=
  (X = .slice none 0 0 ∧ L = []) ∨ ∃ b o cap, X = .slice (some ⟨b, o, none⟩) L.length cap ∧ b < w.heap.size ∧ ∀ (j : Nat) (v : Value), L[j]? = some v → w.cell? ⟨b, o + j, none⟩ = some v

theorem rowOf_ok {m : List Nat} {H : List AB} {w : World} (hH : HR m H w) {x : AV} {X : Value} (hx : R m x X) {l : List AV} (h : rowOf H x = some l) : ∃ L, RL m l L ∧ RowIn w X L := by
  unfold rowOf at h
  split at h
  · cases h; simp only [R] at hx; exact ⟨[], RL_nil.2 rfl, .inl ⟨hx, rfl⟩⟩
  · rename_i i o len cap
    split at h
    · rename_i l0 hl0
      obtain ⟨b, Vs, t, fz, h1, h2, h0, hR⟩ := blk_ok hH hl0
      cases hc : Nat.ble (o + len) l0.length with
      | false => rw [hc] at h; cases h
      | true =>
        rw [hc] at h
        simp only [cond_true, Option.some.injEq] at h
        subst h
        have hle := Nat.le_of_ble_eq_true hc
        simp only [R] at hx
        obtain ⟨b', hb, rfl⟩ := hx
        rw [h1] at hb; cases hb
        have hlen : ((Vs.drop o).take len).length = len := by simp; omega
        refine ⟨(Vs.drop o).take len, by rw [← drop_take_take Vs hle]; exact RL_take _ (RL_drop _ hR), .inr ⟨b, o, cap, by rw [hlen], (Array.getElem?_eq_some_iff.1 h2).1, fun j v hj => ?_⟩⟩
        rw [cell_of h2]
        rw [List.getElem?_take] at hj
        split at hj
        · rw [List.getElem?_drop] at hj; exact hj
        · cases hj
    · cases h
  · rename_i i n
    split at h
    · rename_i l0 hl0
      obtain ⟨b, Vs, t, fz, h1, h2, h0, hR⟩ := blk_ok hH hl0
      cases hc : Nat.ble n l0.length with
      | false => rw [hc] at h; cases h
      | true =>
        rw [hc] at h
        simp only [cond_true, Option.some.injEq] at h
        subst h
        have hle := Nat.le_of_ble_eq_true hc
        simp only [R] at hx
        obtain ⟨b', c, hb, _, rfl⟩ := hx
        rw [h1] at hb; cases hb
        have hlen : (Vs.take n).length = n := by simp; omega
        refine ⟨Vs.take n, ?_, .inr ⟨b, 0, c, by rw [hlen], (Array.getElem?_eq_some_iff.1 h2).1, fun j v hj => ?_⟩⟩
        · have := RL_take n hR
          rw [List.take_take, Nat.min_eq_left hle] at this; exact this
        · rw [cell_of h2]
          rw [List.getElem?_take] at hj
          split at hj
          · rw [Nat.zero_add]; exact hj
          · cases hj
    · cases h
  · cases h

/-- Elements of one cell, that are not large. -/
def smallEl (P : Program) (t : TypeId) : Option TypeId :=
  match P.underlying t with
  | some (.slice el) =>
    match P.info? el with
    | some i =>
      match i.zero with
      | some z => bif Nat.beq i.size 1 && Nat.beq z.cells.size 1 && Nat.ble i.bytes 16 then some el else none
      | none => none
    | none => none
  | _ => none

theorem smallEl_ok {P : Program} {t el : TypeId} (h : smallEl P t = some el) : ∃ i z, P.underlying t = some (.slice el) ∧ P.info? el = some i ∧ i.zero = some z ∧ i.size = 1 ∧ z.cells.size = 1 ∧ i.bytes ≤ 16 := by
  unfold smallEl at h
  split at h
  · rename_i el' hu
    split at h
    · rename_i i hi
      split at h
      · rename_i z hz
        cases hb : (Nat.beq i.size 1 && Nat.beq z.cells.size 1 && Nat.ble i.bytes 16) with
        | false => rw [hb] at h; cases h
        | true =>
          rw [hb] at h
          simp only [cond_true, Option.some.injEq] at h
          subst h
          simp only [Bool.and_eq_true] at hb
          exact ⟨i, z, hu, hi, hz, Nat.eq_of_beq_eq_true hb.1.1, Nat.eq_of_beq_eq_true hb.1.2, Nat.le_of_ble_eq_true hb.2⟩
      · cases h
    · cases h
  · cases h

section
variable {ρ : Type}

def aappend (P : Program) (ts : Array TypeId) (args : List AV) (H : List AB) (K : AV → List AB → Option ρ) : Option ρ :=
  match ts.toList, args with
  | [t, u], [s, x] =>
    match smallEl P t, rowOf H x with
    | some el, some news =>
      bif Nat.beq t u && AV.scalars news && Nat.ble 1 news.length && Nat.ble news.length 100000 then
        match s with
        | .nils => K (.own H.length news.length) (H ++ [.row news el, .dead])
        | .own i n =>
          match H[i]? with
          | some (.row l el') => bif Nat.beq l.length n && Nat.beq el el' && Nat.ble n 100000 then K (.own H.length (n + news.length)) (H.set i .dead ++ [.row (l ++ news) el, .dead]) else none
          | _ => none
        | .slice i o len cap =>
          bif Nat.beq len cap && Nat.ble cap 100000 then
            match rowOf H (.slice i o len cap) with
            | some olds => K (.own H.length (len + news.length)) (H ++ [.row (olds ++ news) el, .dead])
            | none => none
          else none
        | _ => none
      else none
    | _, _ => none
  | _, _ => none

theorem scalars_ok {m : List Nat} : ∀ {l : List AV} {L : List Value}, RL m l L → AV.scalars l = true → ∀ u ∈ L, u.oneCell' = true
  | [], _, h, _, u, hu => by rw [RL_nil.1 h] at hu; cases hu
  | v :: l, _, h, hs, u, hu => by
    obtain ⟨V, L', rfl, h1, h2⟩ := RL_cons.1 h
    simp only [AV.scalars, Bool.and_eq_true] at hs
    rcases List.mem_cons.1 hu with rfl | hu
    · exact R_oneCell h1 hs.1
    · exact scalars_ok h2 hs.2 u hu

theorem zero_len (z : Value) (hz : z.cells.size = 1) (n : Nat) : (Builtin.zeroCells z.cells n).toList.length = n := by
  have := size_zeroCells z.cells n
  rw [hz, Nat.mul_one] at this
  simpa using this

/-- What append is to have done. -/
def Appended (P : Program) (m : List Nat) (w : World) (s : Sem Value) (v : AV) (H' : List AB) : Prop :=
  ∃ V w' m', s.run P w = .ok V w' ∧ R m' v V ∧ HR m' H' w' ∧ Ext m w m' w'

theorem grownCap_ge (w : World) (need old : Nat) (e : TypeId) : ∃ k, grownCap w need old e = need + k := ⟨_, rfl⟩

/-- A new row with room behind it. -/
theorem grown_row {m : List Nat} {H : List AB} {w : World} (hH : HR m H w) {l : List AV} {L : List Value} (hl : RL m l L) (el : TypeId) {z : Value} (hz : z.cells.size = 1) (k : Nat) {cs : Array Value} (hcs : cs.toList = L ++ (Builtin.zeroCells z.cells k).toList) :
    HR (m ++ [w.heap.size, w.heap.size + (L.length + k)]) (H ++ [.row l el, .dead]) (w.drew.alloc (.cells cs el)) ∧
    R (m ++ [w.heap.size, w.heap.size + (L.length + k)]) (.own H.length L.length) (.slice (some ⟨w.heap.size, 0, none⟩) L.length (L.length + k)) ∧
    Ext m w (m ++ [w.heap.size, w.heap.size + (L.length + k)]) (w.drew.alloc (.cells cs el)) := by
  have hlen := RL_len hl
  have hp := (hH.drewN 1).pushRow (l := l) (t := el) (Vs := L ++ (Builtin.zeroCells z.cells k).toList) (by simp; omega) (by rw [List.take_append_of_le_length (by omega), ← hlen, List.take_length]; exact hl)
  have hlen2 : (L ++ (Builtin.zeroCells z.cells k).toList).length = L.length + k := by rw [List.length_append, zero_len z hz]
  rw [hlen2] at hp
  have ecs : cs = ⟨L ++ (Builtin.zeroCells z.cells k).toList⟩ := Array.toList_inj.1 hcs
  refine ⟨by rw [ecs]; exact hp, ?_, ?_⟩
  · simp only [R]
    exact ⟨w.heap.size, L.length + k, by rw [← hH.len]; simp, by rw [← hH.len]; simp, rfl⟩
  · exact (Ext.refl m w).grown (by intro b hb; simp at hb; omega) rfl rfl rfl (by show _ ≤ (w.heap.push _).size; simp) (fun k hk => by show (w.heap.push _)[k]? = _; rw [Array.getElem?_push, if_neg (by omega)])

theorem aappend_ok {P : Program} {m : List Nat} {ts : Array TypeId} {args : List AV} {Args : Array Value} (hA : RL m args Args.toList) {H : List AB} {w : World} (hH : HR m H w) {K : AV → List AB → Option ρ} {r : ρ}
    (h : aappend P ts args H K = some r) (type : TypeId) : ∃ v H', K v H' = some r ∧ Appended P m w (Builtin.append_ ts type Args) v H' := by
  unfold aappend at h
  split at h
  · rename_i t u s x hts
    have hts' : ts = #[t, u] := Array.toList_inj.1 hts
    obtain ⟨S, A1, e1, hs, hA1⟩ := RL_cons.1 hA
    obtain ⟨X, A2, rfl, hx, hA2⟩ := RL_cons.1 hA1
    rw [RL_nil.1 hA2] at e1
    have hArgs : Args = #[S, X] := Array.toList_inj.1 e1
    subst hArgs; subst hts'
    split at h
    · rename_i el news hel hnews
      cases hb : (Nat.beq t u && AV.scalars news && Nat.ble 1 news.length && Nat.ble news.length 100000) with
      | false => rw [hb] at h; cases h
      | true =>
        rw [hb] at h
        simp only [cond_true] at h
        simp only [Bool.and_eq_true] at hb
        obtain ⟨⟨⟨b1, b2⟩, b3⟩, b4⟩ := hb
        obtain rfl := Nat.eq_of_beq_eq_true b1
        have b3 := Nat.le_of_ble_eq_true b3
        have b4 := Nat.le_of_ble_eq_true b4
        obtain ⟨i, z, hu, hi, hz, hsz, hzs, hby⟩ := smallEl_ok hel
        obtain ⟨N, hN, hrow⟩ := rowOf_ok hH hx hnews
        have hNlen := RL_len hN
        rcases hrow with ⟨_, rfl⟩ | ⟨xb, xo, xc, hX, hxb, hcell⟩
        · simp at hNlen; omega
        have hnl : N.length = N.length * i.size := by rw [hsz, Nat.mul_one]
        have hcell' : ∀ (j : Nat) (v : Value), N[j]? = some v → w.cell? ((⟨xb, xo, none⟩ : Addr).add j) = some v := fun j v hj => by rw [addr_add]; exact hcell j v hj
        have hone := scalars_ok hN b2
        have hmul : N.length * i.bytes ≤ 100000 * 16 := Nat.mul_le_mul (by omega) hby
        split at h
        · -- nil
          simp only [R] at hs
          have hr := run_append_nil (P := P) w t type el i z hu hi hz ⟨xb, xo, none⟩ N.length xc N hnl hcell' (by omega) (by omega) (by omega)
          obtain ⟨k, hk⟩ := grownCap_ge w N.length 0 el
          rw [hk, Nat.add_sub_cancel_left] at hr
          obtain ⟨g1, g2, g3⟩ := grown_row hH hN el hzs k (cs := N.toArray ++ Builtin.zeroCells z.cells k) (by simp)
          exact ⟨_, _, h, .slice (some ⟨w.heap.size, 0, none⟩) N.length (N.length + k), _, _, by rw [hs, hX, hr], by rw [← hNlen]; exact g2, g1, g3⟩
        · -- own
          rename_i si sn
          split at h
          · rename_i l el' hl
            cases hb' : (Nat.beq l.length sn && Nat.beq el el' && Nat.ble sn 100000) with
            | false => rw [hb'] at h; cases h
            | true =>
              rw [hb'] at h
              simp only [cond_true] at h
              simp only [Bool.and_eq_true] at hb'
              obtain ⟨⟨c1, c2⟩, c3⟩ := hb'
              obtain rfl := Nat.eq_of_beq_eq_true c1
              obtain rfl := Nat.eq_of_beq_eq_true c2
              have c3 := Nat.le_of_ble_eq_true c3
              simp only [R] at hs
              obtain ⟨b, c, s1, s2, rfl⟩ := hs
              obtain ⟨b', o, e1, e2, ⟨Vs, rfl, v0, v1⟩, e4⟩ := hH.all si _ hl rfl
              rw [s1] at e1; cases e1
              have ec := e4 _ _ _ rfl
              rw [s2] at ec
              have ec : c = Vs.length := by simp at ec; omega
              subst ec
              have holds : ∀ (j : Nat) (v : Value), (Vs.take l.length)[j]? = some v → w.cell? ((⟨b, 0, none⟩ : Addr).add j) = some v := fun j v hj => by
                rw [addr_add, cell_of e2, Nat.zero_add]
                rw [List.getElem?_take] at hj
                split at hj
                · exact hj
                · cases hj
              have hvl := RL_len v1
              by_cases hfit : l.length + N.length ≤ Vs.length
              · have hr := run_append_room (P := P) w t type el i hu hi b l.length Vs.length ⟨Vs⟩ e2 ⟨xb, xo, none⟩ N.length xc N hnl hcell' hone hfit (by rw [hsz, Nat.mul_one]; exact hfit)
                rw [hsz, Nat.mul_one] at hr
                have hblt : b < w.heap.size := (Array.getElem?_eq_some_iff.1 e2).1
                have hcl : (Vs.take l.length ++ N ++ Vs.drop (l.length + N.length)).length = Vs.length := by simp; omega
                have hat : (w.setRow b (Vs.take l.length ++ N ++ Vs.drop (l.length + N.length)).toArray).heap[b]? = some (.cells ⟨Vs.take l.length ++ N ++ Vs.drop (l.length + N.length)⟩ el (0, 0)) := by
                  simp [World.setRow, Array.getElem?_modify, e2]
                have hrest : ∀ k, k ≠ b → (w.setRow b (Vs.take l.length ++ N ++ Vs.drop (l.length + N.length)).toArray).heap[k]? = w.heap[k]? := fun k hk => by
                  simp [World.setRow, Array.getElem?_modify, Ne.symm hk]
                have hcl0 : (Vs.take l.length).length = l.length := by simp; omega
                have hm := hH.moveRow (w' := w.setRow b (Vs.take l.length ++ N ++ Vs.drop (l.length + N.length)).toArray) s1 hl rfl (l := l ++ news) (t := el) (Vs := Vs.take l.length ++ N ++ Vs.drop (l.length + N.length)) (by rw [hcl]; simp; omega)
                  (by
                    rw [List.length_append, List.take_append_of_le_length (by simp; omega), ← hNlen, List.take_of_length_le (by simp; omega)]
                    exact RL_append hN v1) hat hrest
                rw [hcl] at hm
                refine ⟨_, _, h, .slice (some ⟨b, 0, none⟩) (l.length + N.length) Vs.length, _, _, by rw [hX]; exact hr, ?_, hm, ?_⟩
                · simp only [R]
                  exact ⟨b, Vs.length, by rw [← hH.len]; simp, by rw [← hH.len]; simp, by rw [hNlen]⟩
                · refine ⟨⟨_, rfl, fun q hq => ?_⟩, rfl, rfl, rfl, by simp [World.setRow], fun k _ hk => hrest k (fun e => hk (e ▸ List.mem_of_getElem? s1))⟩
                  simp at hq
                  rcases hq with rfl | rfl
                  · exact .inr (List.mem_of_getElem? s1)
                  · exact .inr (List.mem_of_getElem? s2)
              · have hr := run_append_grow (P := P) w t type el i z hu hi hz ⟨b, 0, none⟩ l.length Vs.length (Vs.take l.length) (by rw [hsz, Nat.mul_one]; exact hvl) holds ⟨xb, xo, none⟩ N.length xc N hnl hcell' (by omega) (by omega)
                  (growslice_fits (by omega) (by
                    have : (l.length + N.length) * i.bytes ≤ 200000 * 16 := Nat.mul_le_mul (by omega) hby
                    omega))
                obtain ⟨k, hk⟩ := grownCap_ge w (l.length + N.length) Vs.length el
                rw [hk, Nat.add_sub_cancel_left] at hr
                obtain ⟨g1, g2, g3⟩ := grown_row (hH.kill si) (RL_append hN v1) el hzs k (cs := (Vs.take l.length).toArray ++ N.toArray ++ Builtin.zeroCells z.cells k) (by simp)
                have e5 : (Vs.take l.length ++ N).length = l.length + N.length := by rw [List.length_append, hvl]
                rw [e5] at g1 g2 g3
                rw [List.length_set] at g2
                exact ⟨_, _, h, .slice (some ⟨w.heap.size, 0, none⟩) (l.length + N.length) (l.length + N.length + k), _, _, by rw [hX, hr], by rw [← hNlen]; exact g2, g1, g3⟩
          · cases h
        · -- slice
          rename_i si so sl sc
          cases hb' : (Nat.beq sl sc && Nat.ble sc 100000) with
          | false => rw [hb'] at h; cases h
          | true =>
            rw [hb'] at h
            simp only [cond_true] at h
            simp only [Bool.and_eq_true] at hb'
            obtain rfl := Nat.eq_of_beq_eq_true hb'.1
            have c3 := Nat.le_of_ble_eq_true hb'.2
            split at h
            · rename_i olds holds
              obtain ⟨O, hO, horow⟩ := rowOf_ok hH hs holds
              have hOlen := RL_len hO
              simp only [R] at hs
              obtain ⟨b, s1, rfl⟩ := hs
              rcases horow with ⟨e, _⟩ | ⟨sb, so', cp, e, hsb, hcell2⟩
              · cases e
              · simp only [Value.slice.injEq, Option.some.injEq, Addr.mk.injEq] at e
                obtain ⟨⟨rfl, rfl, _⟩, e1, e2⟩ := e
                subst e1
                have hr := run_append_grow (P := P) w t type el i z hu hi hz ⟨b, so, none⟩ O.length O.length O (by rw [hsz, Nat.mul_one]) (fun j v hj => by rw [addr_add]; exact hcell2 j v hj) ⟨xb, xo, none⟩ N.length xc N hnl hcell' (by omega) (by omega)
                  (growslice_fits (by omega) (by
                    have : (O.length + N.length) * i.bytes ≤ 200000 * 16 := Nat.mul_le_mul (by omega) hby
                    omega))
                obtain ⟨k, hk⟩ := grownCap_ge w (O.length + N.length) O.length el
                rw [hk, Nat.add_sub_cancel_left] at hr
                obtain ⟨g1, g2, g3⟩ := grown_row hH (RL_append hN hO) el hzs k (cs := O.toArray ++ N.toArray ++ Builtin.zeroCells z.cells k) (by simp)
                have e5 : (O ++ N).length = O.length + N.length := List.length_append
                rw [e5] at g1 g2 g3
                exact ⟨_, _, h, .slice (some ⟨w.heap.size, 0, none⟩) (O.length + N.length) (O.length + N.length + k), _, _, by rw [hX, hr], by rw [← hNlen]; exact g2, g1, g3⟩
            · cases h
        · cases h
    · cases h
  · cases h

/-- make([]T, len, cap). -/
def amake (P : Program) (t : TypeId) (len cap : AV) (H : List AB) (K : AV → List AB → Option ρ) : Option ρ :=
  match len, cap with
  | .int _ l, .int _ c =>
    bif decide (0 ≤ l) && decide (l ≤ c) && decide (c ≤ 100000) then
      match smallEl P t with
      | some el =>
        match (zeroA P el).bind cellsOf? with
        | some [z] => K (.own H.length l.toNat) (H ++ [.row (List.replicate l.toNat z) el, .dead])
        | _ => none
      | none => none
    else none
  | _, _ => none

theorem RL_replicate {m : List Nat} {v : AV} {V : Value} (h : R m v V) : ∀ n, RL m (List.replicate n v) (List.replicate n V)
  | 0 => RL_nil.2 rfl
  | n + 1 => RL.cons h (RL_replicate h n)

theorem amake_ok {P : Program} {m : List Nat} {t : TypeId} {len cap : AV} {Len Cap : Value} (hl : R m len Len) (hc : R m cap Cap) {H : List AB} {w : World} (hH : HR m H w) {K : AV → List AB → Option ρ} {r : ρ}
    (h : amake P t len cap H K = some r) : ∃ v H', K v H' = some r ∧ Appended P m w (Instr.makeSlice t Len Cap) v H' := by
  unfold amake at h
  split at h
  · rename_i k l k' c
    simp only [R] at hl hc
    subst hl; subst hc
    cases hb : (decide (0 ≤ l) && decide (l ≤ c) && decide (c ≤ 100000)) with
    | false => rw [hb] at h; cases h
    | true =>
      rw [hb] at h
      simp only [cond_true] at h
      simp only [Bool.and_eq_true, decide_eq_true_eq] at hb
      obtain ⟨⟨l0, lc⟩, c0⟩ := hb
      split at h
      · rename_i el hel
        obtain ⟨i, z, hu, hi, hz, hsz, hzs, hby⟩ := smallEl_ok hel
        split at h
        · rename_i z' hz'
          obtain ⟨z0, hz0, hzc⟩ := Option.bind_eq_some_iff.1 hz'
          have ez : z0 = cAV z := by
            unfold zeroA at hz0
            rw [hi] at hz0
            simp [hz] at hz0
            exact hz0.symm
          subst ez
          have hcz := R_cells (R_cAV m z) hzc
          obtain ⟨zv, zr, e1, hzv, hzr⟩ := RL_cons.1 hcz
          have e2 := RL_nil.1 hzr
          subst e2
          have ezc : z.cells = #[zv] := Array.toList_inj.1 e1
          have wl : IntKind.i64.wrap l = l := by rw [wr_eq]; simp only [wr, w64]; omega
          have wc : IntKind.i64.wrap c = c := by rw [wr_eq]; simp only [wr, w64]; omega
          have hbc : (i.bytes : Int) * c ≤ 16 * 100000 := Int.mul_le_mul (by omega) c0 (by omega) (by omega)
          have hroom : c.toNat * i.bytes ≤ 100000 * 16 := Nat.mul_le_mul (by omega) hby
          have hrow : ((Array.range (c.toNat * 1)).map (z.cells[· % z.cells.size]!)) = ⟨List.replicate c.toNat zv⟩ := by
            refine Array.toList_inj.1 ?_
            rw [ezc]
            refine List.ext_getElem (by simp) (fun j h1 h2 => ?_)
            simp [Nat.mod_one]
          have hrun : (Instr.makeSlice t (.int k l) (.int k' c)).run P w = .ok (.slice (some ⟨w.heap.size, 0, none⟩) l.toNat c.toNat) (w.alloc (.cells ⟨List.replicate c.toNat zv⟩ el)) := by
            have t1 : ¬ (c < 0) := by omega
            have t2 : ¬ (281474976710656 < (i.bytes : Int) * c) := by omega
            have t3 : ¬ (l < 0) := by omega
            have t4 : ¬ (c < l) := by omega
            have t5 : ¬ (roomBytes < c.toNat * i.bytes) := by
              have : roomBytes = 140737488355328 := by kernel_rfl
              rw [this]; omega
            rw [Nat.mul_one] at hrow
            by_cases hc0 : c.toNat = 0
            · have e0 : (⟨List.replicate c.toNat zv⟩ : Array Value) = #[] := by rw [hc0]; rfl
              rw [e0]
              simp [Instr.makeSlice, asInt, asIntOf, run_underlying hu, typeInfo, run_typeInfo, sizeOf, hi, hsz, wl, wc, t1, t2, t3, t4, t5, askRoom, newRow, newObj, Sem.run, hc0]
              rw [show (Array.map (fun (_ : Nat) => (default : Value)) (Array.range 0)) = #[] from Array.toList_inj.1 (by simp)]
            · simp [Instr.makeSlice, asInt, asIntOf, run_underlying hu, typeInfo, run_typeInfo, sizeOf, zeroValue, hi, hz, hsz, wl, wc, t1, t2, t3, t4, t5, askRoom, newRow, newObj, hc0]
              rw [hrow]
              simp [Sem.run]
          have hp := hH.pushRow (l := List.replicate l.toNat z') (t := el) (Vs := List.replicate c.toNat zv) (by simp; omega) (by
            rw [List.length_replicate, List.take_replicate, Nat.min_eq_left (by omega)]; exact RL_replicate hzv _)
          rw [List.length_replicate] at hp
          refine ⟨_, _, h, .slice (some ⟨w.heap.size, 0, none⟩) l.toNat c.toNat, _, _, hrun, ?_, hp, ?_⟩
          · simp only [R]
            exact ⟨w.heap.size, c.toNat, by rw [← hH.len]; simp, by rw [← hH.len]; simp, rfl⟩
          · exact (Ext.refl m w).grown (by intro b hb; simp at hb; omega) rfl rfl rfl (by show _ ≤ (w.heap.push _).size; simp) (fun k hk => by show (w.heap.push _)[k]? = _; rw [Array.getElem?_push, if_neg (by omega)])
        · cases h
      · cases h
  · cases h

/-! ### Strings and bytes -/
def bytesL : List AV → Option (List Int)
  | [] => some []
  | .int .u8 n :: l => (bytesL l).map (n :: ·)
  | _ => none
theorem bytesL_ok {m : List Nat} : ∀ {l : List AV} {ns : List Int} {L : List Value}, bytesL l = some ns → RL m l L → L = ns.map (Value.int .u8)
  | [], ns, L, h, hL => by simp [bytesL] at h; subst h; rw [RL_nil.1 hL]; rfl
  | v :: l, ns, L, h, hL => by
    obtain ⟨V, L', rfl, h1, h2⟩ := RL_cons.1 hL
    cases v with
    | int k n =>
      cases k with
      | u8 =>
        simp only [bytesL] at h
        obtain ⟨ns', h3, rfl⟩ := Option.map_eq_some_iff.1 h
        simp only [R] at h1
        rw [h1, bytesL_ok h3 h2]; rfl
      | _ => simp [bytesL] at h
    | _ => simp [bytesL] at h

def strOf (ns : List Int) : ByteArray := ⟨(ns.map fun n => UInt8.ofNat n.toNat).toArray⟩

def isRowConv (P : Program) (src dst : TypeId) : Bool :=
  match P.underlying src, P.underlying dst with
  | some (.slice _), some .string => true
  | some .string, some (.slice _) => true
  | _, _ => false
def aconvR (P : Program) (src dst : TypeId) (x : AV) (H : List AB) (K : AV → List AB → Option ρ) : Option ρ :=
  match P.underlying src, P.underlying dst with
  | some (.slice e), some .string =>
    match P.underlying e with
    | some (.int .u8) =>
      match (rowOf H x).bind bytesL with
      | some ns => K (.str (strOf ns)) H
      | none => none
    | _ => none
  | some .string, some (.slice e) =>
    match P.underlying e, x with
    | some (.int .u8), .str s => K (.own H.length s.size) (H ++ [.ro (s.data.toList.map fun b => .int .u8 b.toNat) e, .dead])
    | some (.int .u8), .strG _ n g => K (.own H.length n) (H ++ [.ro ((List.range n).map fun i => .int .u8 (g i)) e, .dead])
    | _, _ => none
  | _, _ => none

theorem foldl_push : ∀ (ns : List Int) (s : ByteArray), ns.foldl (fun r n => r.push (UInt8.ofNat n.toNat)) s = ⟨s.data ++ (ns.map fun n => UInt8.ofNat n.toNat).toArray⟩
  | [], s => by simp
  | n :: ns, s => by
    rw [List.foldl_cons, foldl_push ns]
    simp [ByteArray.push]

theorem RL_bytes (m : List Nat) : ∀ l : List UInt8, RL m (l.map fun b => AV.int .u8 (b.toNat : Int)) (l.map fun b => Value.int .u8 (b.toNat : Int))
  | [] => RL_nil.2 rfl
  | b :: l => RL.cons (R_int _ _ _) (RL_bytes m l)

theorem aconvR_ok {P : Program} {m : List Nat} {src dst : TypeId} {x : AV} {X : Value} (hx : R m x X) {H : List AB} {w : World} (hH : HR m H w) {K : AV → List AB → Option ρ} {r : ρ}
    (h : aconvR P src dst x H K = some r) : ∃ v H', K v H' = some r ∧ Appended P m w (convert src dst X) v H' := by
  unfold aconvR at h
  split at h
  · rename_i e hs hd
    split at h
    · rename_i he
      split at h
      · rename_i ns hns
        obtain ⟨l, h1, h2⟩ := Option.bind_eq_some_iff.1 hns
        obtain ⟨L, hL, hrow⟩ := rowOf_ok hH hx h1
        have eL := bytesL_ok h2 hL
        refine ⟨_, _, h, .string (strOf ns), w, m, ?_, R_str _ _, hH, Ext.refl m w⟩
        rcases hrow with ⟨rfl, e0⟩ | ⟨b, o, cap, rfl, _, hc⟩
        · rw [e0] at eL
          have : ns = [] := by simpa using eL.symm
          subst this
          rw [run_convert_bytes_string w src dst e none 0 0 hs he hd]
          simp [Conv.bytesToString]; rfl
        · rw [run_convert_bytes_string w src dst e _ _ _ hs he hd]
          rw [run_bytesToString w ⟨b, o, none⟩ L.length cap ns (by
            have := run_loadCells_list (P := P) w ⟨b, o, none⟩ L (fun j v hj => by rw [addr_add]; exact hc j v hj)
            rw [this, eL])]
          rw [foldl_push]
          simp [strOf]
      · cases h
    · cases h
  · rename_i e hs hd
    split at h
    · rename_i s he
      simp only [R] at hx
      subst hx
      obtain ⟨k, hk⟩ := grownCap_ge w s.size 0 e
      have hr := Lib.run_convert_string_bytes (P := P) w src dst e s hs hd he
      have hcells : Lib.bytesCells w e s = ⟨(s.data.toList.map fun b => Value.int .u8 (b.toNat : Int)) ++ List.replicate k (.int .u8 0)⟩ := by
        unfold Lib.bytesCells
        rw [hk]
        refine Array.toList_inj.1 ?_
        simp
      have hnew := Lib.bytesWorld_at_new w e s
      rw [hcells] at hnew
      have hlen : (s.data.toList.map fun b => AV.int .u8 (b.toNat : Int)).length = s.size := by simp
      have hp := hH.pushRo (w' := Lib.bytesWorld w e s) (l := s.data.toList.map fun b => AV.int .u8 (b.toNat : Int)) (t := e) (c := s.size + k) (by simp) (by
        rw [List.take_append_of_le_length (by simp), List.take_of_length_le (by simp)]; exact RL_bytes m _) (Lib.bytesWorld_at_old w e s) hnew
      refine ⟨_, _, h, .slice (some ⟨w.heap.size, 0, none⟩) s.size (s.size + k), _, _, by rw [hr, hk], ?_, hp, ?_⟩
      · simp only [R]
        exact ⟨w.heap.size, s.size + k, by rw [← hH.len]; simp, by rw [← hH.len]; simp, rfl⟩
      · exact (Ext.refl m w).grown (by intro b hb; simp at hb; omega) (by simp [Lib.bytesWorld, World.freeze, World.alloc, World.drew, -World.alloc_eq, -World.drew_eq]) (by simp [Lib.bytesWorld, World.freeze, World.alloc, World.drew, -World.alloc_eq, -World.drew_eq]) (by simp [Lib.bytesWorld, World.freeze, World.alloc, World.drew, -World.alloc_eq, -World.drew_eq]) (by rw [Lib.bytesWorld_size]; omega) (fun k hk => Lib.bytesWorld_at_old w e s k hk)
    · rename_i s n g he
      simp only [R] at hx
      obtain ⟨hX, hn, hg⟩ := hx
      subst hX; subst hn
      have eL : ((List.range s.size).map fun i => AV.int .u8 (g i)) = s.data.toList.map fun b => AV.int .u8 (b.toNat : Int) := by
        refine List.ext_getElem (by simp) (fun i h1 h2 => ?_)
        simp only [List.getElem_map, List.getElem_range]
        simp at h1
        rw [← hg i h1]
        have hi : i < s.data.size := h1
        rw [Array.getD_eq_getD_getElem?, Array.getElem?_eq_getElem hi]
        simp
      rw [eL] at h
      obtain ⟨k, hk⟩ := grownCap_ge w s.size 0 e
      have hr := Lib.run_convert_string_bytes (P := P) w src dst e s hs hd he
      have hcells : Lib.bytesCells w e s = ⟨(s.data.toList.map fun b => Value.int .u8 (b.toNat : Int)) ++ List.replicate k (.int .u8 0)⟩ := by
        unfold Lib.bytesCells
        rw [hk]
        refine Array.toList_inj.1 ?_
        simp
      have hnew := Lib.bytesWorld_at_new w e s
      rw [hcells] at hnew
      have hlen : (s.data.toList.map fun b => AV.int .u8 (b.toNat : Int)).length = s.size := by simp
      have hp := hH.pushRo (w' := Lib.bytesWorld w e s) (l := s.data.toList.map fun b => AV.int .u8 (b.toNat : Int)) (t := e) (c := s.size + k) (by simp) (by
        rw [List.take_append_of_le_length (by simp), List.take_of_length_le (by simp)]; exact RL_bytes m _) (Lib.bytesWorld_at_old w e s) hnew
      refine ⟨_, _, h, .slice (some ⟨w.heap.size, 0, none⟩) s.size (s.size + k), _, _, by rw [hr, hk], ?_, hp, ?_⟩
      · simp only [R]
        exact ⟨w.heap.size, s.size + k, by rw [← hH.len]; simp, by rw [← hH.len]; simp, rfl⟩
      · exact (Ext.refl m w).grown (by intro b hb; simp at hb; omega) (by simp [Lib.bytesWorld, World.freeze, World.alloc, World.drew, -World.alloc_eq, -World.drew_eq]) (by simp [Lib.bytesWorld, World.freeze, World.alloc, World.drew, -World.alloc_eq, -World.drew_eq]) (by simp [Lib.bytesWorld, World.freeze, World.alloc, World.drew, -World.alloc_eq, -World.drew_eq]) (by rw [Lib.bytesWorld_size]; omega) (fun k hk => Lib.bytesWorld_at_old w e s k hk)
    · cases h
  · cases h
end
end Go.Proofs.Ytlkclpkpggapbaa.Ae
