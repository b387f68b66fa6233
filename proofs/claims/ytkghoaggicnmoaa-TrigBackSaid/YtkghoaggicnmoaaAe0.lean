/- The abstract values and heaps of the interpreter: their meaning in the model's worlds, and the laws of that meaning. Conditions: none. -/
import Derived.LoopN
import Derived.Deep.Quiet
import Derived.KernelRfl
namespace Go.Proofs.Ytkghoaggicnmoaa.Ae
open Go

/-- An abstract value: blocks of memory are numbered from 0 on. -/
inductive AV where
  | int (k : IntKind) (n : Int)
  | bool (b : Bool)
  | str (s : ByteArray)
  | ptr (i o : Nat)
  | nilp
  | slice (i o len cap : Nat)
  | nils
  | agg (l : List AV)
  | tup (l : List AV)
  | fn (f : FuncId) (cap : List AV)
  | nilfn
  | map (i : Nat)
  | any

mutual
/-- What an abstract value says of a value, where block i of the numbering is block m[i] of the world. -/
def R (m : List Nat) : AV → Value → Prop
  | .int k n, V => V = .int k n
  | .bool b, V => V = .bool b
  | .str s, V => V = .string s
  | .ptr i o, V => ∃ b, m[i]? = some b ∧ V = .pointer (some ⟨b, o, none⟩)
  | .nilp, V => V = .pointer none
  | .slice i o len cap, V => ∃ b, m[i]? = some b ∧ V = .slice (some ⟨b, o, none⟩) len cap
  | .nils, V => V = .slice none 0 0
  | .agg l, V => ∃ Vs, V = .agg ⟨Vs⟩ ∧ RL m l Vs
  | .tup l, V => ∃ Vs, V = .tuple ⟨Vs⟩ ∧ RL m l Vs
  | .fn f cap, V => ∃ Vs, V = .func (.func f) #[] ⟨Vs⟩ ∧ RL m cap Vs
  | .nilfn, V => V = .nilFunc
  | .map i, V => ∃ b, m[i]? = some b ∧ V = .map (some b)
  | .any, _ => True
def RL (m : List Nat) : List AV → List Value → Prop
  | [], Vs => Vs = []
  | v :: l, Vs => ∃ V Vs', Vs = V :: Vs' ∧ R m v V ∧ RL m l Vs'
end

theorem RL_nil {m : List Nat} {Vs : List Value} : RL m [] Vs ↔ Vs = [] := by simp [RL]
theorem RL_cons {m : List Nat} {v : AV} {l : List AV} {Vs : List Value} : RL m (v :: l) Vs ↔ ∃ V Vs', Vs = V :: Vs' ∧ R m v V ∧ RL m l Vs' := by simp [RL]
theorem RL.cons {m : List Nat} {v : AV} {l : List AV} {V : Value} {Vs : List Value} (h : R m v V) (t : RL m l Vs) : RL m (v :: l) (V :: Vs) := RL_cons.2 ⟨V, Vs, rfl, h, t⟩

theorem get_mono {m : List Nat} {i b : Nat} (x : List Nat) (h : m[i]? = some b) : (m ++ x)[i]? = some b := by
  rw [List.getElem?_append_left]
  · exact h
  · exact (List.getElem?_eq_some_iff.1 h).1

mutual
theorem R_mono {m : List Nat} (x : List Nat) : ∀ (v : AV) {V : Value}, R m v V → R (m ++ x) v V
  | .int .., _, h => by simpa only [R] using h
  | .bool _, _, h => by simpa only [R] using h
  | .str _, _, h => by simpa only [R] using h
  | .ptr .., _, h => by simp only [R] at h ⊢; obtain ⟨b, h1, h2⟩ := h; exact ⟨b, get_mono x h1, h2⟩
  | .nilp, _, h => by simpa only [R] using h
  | .slice .., _, h => by simp only [R] at h ⊢; obtain ⟨b, h1, h2⟩ := h; exact ⟨b, get_mono x h1, h2⟩
  | .nils, _, h => by simpa only [R] using h
  | .agg l, _, h => by simp only [R] at h ⊢; obtain ⟨b, h1, h2⟩ := h; exact ⟨b, h1, RL_mono x l h2⟩
  | .tup l, _, h => by simp only [R] at h ⊢; obtain ⟨b, h1, h2⟩ := h; exact ⟨b, h1, RL_mono x l h2⟩
  | .fn _ l, _, h => by simp only [R] at h ⊢; obtain ⟨b, h1, h2⟩ := h; exact ⟨b, h1, RL_mono x l h2⟩
  | .nilfn, _, h => by simpa only [R] using h
  | .map _, _, h => by simp only [R] at h ⊢; obtain ⟨b, h1, h2⟩ := h; exact ⟨b, get_mono x h1, h2⟩
  | .any, _, _ => by simp only [R]
theorem RL_mono {m : List Nat} (x : List Nat) : ∀ (l : List AV) {Vs : List Value}, RL m l Vs → RL (m ++ x) l Vs
  | [], _, h => by simpa only [RL] using h
  | v :: l, _, h => by
    obtain ⟨V, Vs', h1, h2, h3⟩ := RL_cons.1 h
    exact RL_cons.2 ⟨V, Vs', h1, R_mono x v h2, RL_mono x l h3⟩
end

mutual
/-- No block is named in it. -/
def AV.noPtr : AV → Bool
  | .int .. | .bool _ | .str _ | .nilp | .nils | .nilfn => true
  | .agg l | .tup l => AV.noPtrL l
  | _ => false
def AV.noPtrL : List AV → Bool
  | [] => true
  | v :: l => v.noPtr && AV.noPtrL l
end

mutual
theorem R_noPtr {m m' : List Nat} : ∀ (v : AV) {V : Value}, v.noPtr = true → R m v V → R m' v V
  | .int .., _, _, h => by simpa only [R] using h
  | .bool _, _, _, h => by simpa only [R] using h
  | .str _, _, _, h => by simpa only [R] using h
  | .ptr .., _, h, _ => by simp [AV.noPtr] at h
  | .nilp, _, _, h => by simpa only [R] using h
  | .slice .., _, h, _ => by simp [AV.noPtr] at h
  | .nils, _, _, h => by simpa only [R] using h
  | .agg l, _, hn, h => by
    simp only [R] at h ⊢; simp only [AV.noPtr] at hn; obtain ⟨b, h1, h2⟩ := h; exact ⟨b, h1, RL_noPtr l hn h2⟩
  | .tup l, _, hn, h => by
    simp only [R] at h ⊢; simp only [AV.noPtr] at hn; obtain ⟨b, h1, h2⟩ := h; exact ⟨b, h1, RL_noPtr l hn h2⟩
  | .fn .., _, h, _ => by simp [AV.noPtr] at h
  | .nilfn, _, _, h => by simpa only [R] using h
  | .map _, _, h, _ => by simp [AV.noPtr] at h
  | .any, _, h, _ => by simp [AV.noPtr] at h
theorem RL_noPtr {m m' : List Nat} : ∀ (l : List AV) {Vs : List Value}, AV.noPtrL l = true → RL m l Vs → RL m' l Vs
  | [], _, _, h => by simpa only [RL] using h
  | v :: l, _, hn, h => by
    obtain ⟨V, Vs', h1, h2, h3⟩ := RL_cons.1 h
    simp only [AV.noPtrL, Bool.and_eq_true] at hn
    exact RL_cons.2 ⟨V, Vs', h1, R_noPtr v hn.1 h2, RL_noPtr l hn.2 h3⟩
end

mutual
/-- A pointerless abstract value says all of a value. -/
theorem R_det {m m' : List Nat} : ∀ (v : AV) {V V' : Value}, v.noPtr = true → R m v V → R m' v V' → V = V'
  | .int .., _, _, _, h, h' => by simp only [R] at h h'; rw [h, h']
  | .bool _, _, _, _, h, h' => by simp only [R] at h h'; rw [h, h']
  | .str _, _, _, _, h, h' => by simp only [R] at h h'; rw [h, h']
  | .ptr .., _, _, h, _, _ => by simp [AV.noPtr] at h
  | .nilp, _, _, _, h, h' => by simp only [R] at h h'; rw [h, h']
  | .slice .., _, _, h, _, _ => by simp [AV.noPtr] at h
  | .nils, _, _, _, h, h' => by simp only [R] at h h'; rw [h, h']
  | .agg l, _, _, hn, h, h' => by
    simp only [R] at h h'; simp only [AV.noPtr] at hn
    obtain ⟨b, rfl, h2⟩ := h; obtain ⟨b', rfl, h2'⟩ := h'; rw [RL_det l hn h2 h2']
  | .tup l, _, _, hn, h, h' => by
    simp only [R] at h h'; simp only [AV.noPtr] at hn
    obtain ⟨b, rfl, h2⟩ := h; obtain ⟨b', rfl, h2'⟩ := h'; rw [RL_det l hn h2 h2']
  | .fn .., _, _, h, _, _ => by simp [AV.noPtr] at h
  | .nilfn, _, _, _, h, h' => by simp only [R] at h h'; rw [h, h']
  | .map _, _, _, h, _, _ => by simp [AV.noPtr] at h
  | .any, _, _, h, _, _ => by simp [AV.noPtr] at h
theorem RL_det {m m' : List Nat} : ∀ (l : List AV) {Vs Vs' : List Value}, AV.noPtrL l = true → RL m l Vs → RL m' l Vs' → Vs = Vs'
  | [], _, _, _, h, h' => by simp only [RL] at h h'; rw [h, h']
  | v :: l, _, _, hn, h, h' => by
    obtain ⟨V, Vs1, rfl, h2, h3⟩ := RL_cons.1 h
    obtain ⟨V', Vs1', rfl, h2', h3'⟩ := RL_cons.1 h'
    simp only [AV.noPtrL, Bool.and_eq_true] at hn
    rw [R_det v hn.1 h2 h2', RL_det l hn.2 h3 h3']
end

theorem RL_len {m : List Nat} : ∀ {l : List AV} {Vs : List Value}, RL m l Vs → Vs.length = l.length
  | [], _, h => by rw [RL_nil.1 h]; rfl
  | _ :: _, _, h => by obtain ⟨V, Vs', rfl, _, h3⟩ := RL_cons.1 h; simp [RL_len h3]

theorem RL_get {m : List Nat} : ∀ {l : List AV} {Vs : List Value} {i : Nat} {v : AV}, RL m l Vs → l[i]? = some v → ∃ V, Vs[i]? = some V ∧ R m v V
  | [], _, _, _, _, hi => by simp at hi
  | v :: l, _, i, _, h, hi => by
    obtain ⟨V, Vs', rfl, h2, h3⟩ := RL_cons.1 h
    cases i with
    | zero => simp at hi; subst hi; exact ⟨V, by simp, h2⟩
    | succ i => simp at hi; obtain ⟨V1, h4, h5⟩ := RL_get h3 hi; exact ⟨V1, by simpa using h4, h5⟩

theorem RL_set {m : List Nat} {v : AV} {V : Value} (hv : R m v V) : ∀ {l : List AV} {Vs : List Value} (i : Nat), RL m l Vs → RL m (l.set i v) (Vs.set i V)
  | [], _, i, h => by rw [RL_nil.1 h]; simpa using RL_nil.2 rfl
  | u :: l, _, i, h => by
    obtain ⟨U, Vs', rfl, h2, h3⟩ := RL_cons.1 h
    cases i with
    | zero => exact RL.cons hv h3
    | succ i => exact RL.cons h2 (RL_set hv i h3)

theorem RL_append {m : List Nat} {l' : List AV} {Vs' : List Value} (h' : RL m l' Vs') : ∀ {l : List AV} {Vs : List Value}, RL m l Vs → RL m (l ++ l') (Vs ++ Vs')
  | [], _, h => by rw [RL_nil.1 h]; exact h'
  | u :: l, _, h => by obtain ⟨U, Vs1, rfl, h2, h3⟩ := RL_cons.1 h; exact RL.cons h2 (RL_append h' h3)

theorem RL_take {m : List Nat} : ∀ {l : List AV} {Vs : List Value} (i : Nat), RL m l Vs → RL m (l.take i) (Vs.take i)
  | [], _, i, h => by rw [RL_nil.1 h]; simpa using RL_nil.2 rfl
  | u :: l, _, i, h => by
    obtain ⟨U, Vs', rfl, h2, h3⟩ := RL_cons.1 h
    cases i with
    | zero => exact RL_nil.2 rfl
    | succ i => exact RL.cons h2 (RL_take i h3)

theorem RL_drop {m : List Nat} : ∀ {l : List AV} {Vs : List Value} (i : Nat), RL m l Vs → RL m (l.drop i) (Vs.drop i)
  | [], _, i, h => by rw [RL_nil.1 h]; simpa using RL_nil.2 rfl
  | u :: l, _, i, h => by
    cases i with
    | zero => exact h
    | succ i => obtain ⟨U, Vs', rfl, h2, h3⟩ := RL_cons.1 h; exact RL_drop i h3

/-- An abstract block. -/
inductive AB where
  | cells (l : List AV) (t : TypeId)

def RB (m : List Nat) : AB → Obj → Prop
  | .cells l t, o => ∃ Vs, o = .cells ⟨Vs⟩ t (0, 0) ∧ RL m l Vs

theorem RB_mono {m : List Nat} (x : List Nat) {B : AB} {o : Obj} (h : RB m B o) : RB (m ++ x) B o := by
  cases B with
  | cells l t => obtain ⟨Vs, h1, h2⟩ := h; exact ⟨Vs, h1, RL_mono x l h2⟩

/-- What an abstract heap says of a world. -/
structure HR (m : List Nat) (H : List AB) (w : World) : Prop where
  len : m.length = H.length
  nodup : m.Nodup
  at_ : ∀ (i : Nat) (B : AB), H[i]? = some B → ∃ (b : Nat) (o : Obj), m[i]? = some b ∧ w.heap[b]? = some o ∧ RB m B o

/-- What may have become of a world: the blocks of m aside nothing that was there has turned; new blocks have come. -/
structure Ext (m : List Nat) (w : World) (m' : List Nat) (w' : World) : Prop where
  pre : ∃ x, m' = m ++ x ∧ ∀ b ∈ x, w.heap.size ≤ b
  os : w'.os = w.os
  tape : w'.tape = w.tape
  output : w'.output = w.output
  size : w.heap.size ≤ w'.heap.size
  block : ∀ k, k < w.heap.size → k ∉ m → w'.heap[k]? = w.heap[k]?

theorem Ext.refl (m : List Nat) (w : World) : Ext m w m w := ⟨⟨[], by simp⟩, rfl, rfl, rfl, Nat.le_refl _, fun _ _ _ => rfl⟩

theorem Ext.trans {m m1 m2 : List Nat} {w w1 w2 : World} (h : Ext m w m1 w1) (k : Ext m1 w1 m2 w2) : Ext m w m2 w2 := by
  obtain ⟨x, hx, hxs⟩ := h.pre
  obtain ⟨y, hy, hys⟩ := k.pre
  refine ⟨⟨x ++ y, by rw [hy, hx, List.append_assoc], ?_⟩, k.os.trans h.os, k.tape.trans h.tape, k.output.trans h.output, Nat.le_trans h.size k.size, ?_⟩
  · intro b hb
    rcases List.mem_append.1 hb with hb | hb
    · exact hxs b hb
    · exact Nat.le_trans h.size (hys b hb)
  · intro i hi hm
    rw [k.block i (Nat.lt_of_lt_of_le hi h.size) ?_, h.block i hi hm]
    rw [hx]
    intro hmem
    rcases List.mem_append.1 hmem with hmem | hmem
    · exact hm hmem
    · exact absurd (hxs i hmem) (by omega)

theorem Ext.drewN {m m' : List Nat} {w w' : World} (h : Ext m w m' w') (n : Nat) : Ext m w m' (w'.drewN n) := ⟨h.pre, h.os, h.tape, h.output, h.size, h.block⟩

theorem Ext.R {m m' : List Nat} {w w' : World} (h : Ext m w m' w') {v : AV} {V : Value} (hv : R m v V) : R m' v V := by
  obtain ⟨x, hx, _⟩ := h.pre; rw [hx]; exact R_mono x v hv
theorem Ext.RL {m m' : List Nat} {w w' : World} (h : Ext m w m' w') {l : List AV} {Vs : List Value} (hv : RL m l Vs) : RL m' l Vs := by
  obtain ⟨x, hx, _⟩ := h.pre; rw [hx]; exact RL_mono x l hv

theorem HR.drewN {m : List Nat} {H : List AB} {w : World} (h : HR m H w) (n : Nat) : HR m H (w.drewN n) := ⟨h.len, h.nodup, h.at_⟩

theorem HR.lt {m : List Nat} {H : List AB} {w : World} (h : HR m H w) {b : Nat} (hb : b ∈ m) : b < w.heap.size := by
  obtain ⟨i, hi, rfl⟩ := List.getElem_of_mem hb
  have hiH : i < H.length := h.len ▸ hi
  obtain ⟨b', o, h1, h2, _⟩ := h.at_ i H[i] (List.getElem?_eq_getElem hiH)
  rw [List.getElem?_eq_getElem hi] at h1
  cases h1
  exact (Array.getElem?_eq_some_iff.1 h2).1

/-- A new block. -/
theorem HR.push {m : List Nat} {H : List AB} {w : World} (h : HR m H w) {B : AB} {o : Obj} (hB : RB m B o) : HR (m ++ [w.heap.size]) (H ++ [B]) (w.alloc o) := by
  refine ⟨by simp [h.len], ?_, ?_⟩
  · rw [List.nodup_append]
    exact ⟨h.nodup, by simp, fun a ha b hb => by have := h.lt ha; simp at hb; omega⟩
  · intro i C hC
    by_cases hi : i < H.length
    · rw [List.getElem?_append_left hi] at hC
      obtain ⟨b, o', h1, h2, h3⟩ := h.at_ i C hC
      refine ⟨b, o', get_mono _ h1, ?_, RB_mono _ h3⟩
      show (w.heap.push o)[b]? = _
      have := (Array.getElem?_eq_some_iff.1 h2).1
      rw [Array.getElem?_push, if_neg (by omega)]; exact h2
    · rw [List.getElem?_append_right (by omega)] at hC
      have hz : i = H.length := by
        rcases Nat.lt_or_ge (i - H.length) 1 with h' | h'
        · omega
        · rw [List.getElem?_eq_none (by simpa using h')] at hC; cases hC
      subst hz
      simp at hC
      subst hC
      refine ⟨w.heap.size, o, ?_, ?_, RB_mono _ hB⟩
      · rw [← h.len]; simp
      · show (w.heap.push o)[w.heap.size]? = _
        rw [Array.getElem?_push, if_pos rfl]

theorem Ext.push {m0 m : List Nat} {w0 w : World} (h : Ext m0 w0 m w) (o : Obj) : Ext m0 w0 (m ++ [w.heap.size]) (w.alloc o) := by
  refine h.trans ⟨⟨[w.heap.size], rfl, by simp⟩, rfl, rfl, rfl, ?_, ?_⟩
  · show _ ≤ (w.heap.push o).size
    simp
  · intro k hk _
    show (w.heap.push o)[k]? = _
    rw [Array.getElem?_push, if_neg (by omega)]

theorem nodup_get {m : List Nat} (h : m.Nodup) {i j b : Nat} (hi : m[i]? = some b) (hj : m[j]? = some b) : i = j := by
  obtain ⟨hi', rfl⟩ := List.getElem?_eq_some_iff.1 hi
  obtain ⟨hj', e⟩ := List.getElem?_eq_some_iff.1 hj
  have hp := List.pairwise_iff_getElem.1 h
  rcases Nat.lt_trichotomy i j with hlt | heq | hlt
  · exact absurd e.symm (hp i j hi' hj' hlt)
  · exact heq
  · exact absurd e (hp j i hj' hi' hlt)

/-- A block's object is replaced. -/
theorem HR.put {m : List Nat} {H : List AB} {w : World} (h : HR m H w) {i b : Nat} (hb : m[i]? = some b) {B : AB} {o : Obj} (hB : RB m B o) {w' : World}
    (hs : w'.heap.size = w.heap.size) (hat : w'.heap[b]? = some o) (hrest : ∀ k, k ≠ b → w'.heap[k]? = w.heap[k]?) : HR m (H.set i B) w' := by
  refine ⟨by simp [h.len], h.nodup, ?_⟩
  intro j C hC
  by_cases hij : i = j
  · subst hij
    have hlt : i < (H.set i B).length := (List.getElem?_eq_some_iff.1 hC).1
    simp at hlt
    simp [List.getElem?_set, hlt] at hC
    subst hC
    exact ⟨b, o, hb, hat, hB⟩
  · rw [List.getElem?_set_ne hij] at hC
    obtain ⟨b', o', h1, h2, h3⟩ := h.at_ j C hC
    refine ⟨b', o', h1, ?_, h3⟩
    rw [hrest b' (fun e => hij (nodup_get h.nodup hb (e ▸ h1)))]
    exact h2

theorem Ext.put {m0 m : List Nat} {w0 w : World} (h : Ext m0 w0 m w) {i b : Nat} (hb : m[i]? = some b) {w' : World}
    (hs : w'.heap.size = w.heap.size) (hos : w'.os = w.os) (ht : w'.tape = w.tape) (ho : w'.output = w.output) (hrest : ∀ k, k ≠ b → w'.heap[k]? = w.heap[k]?) : Ext m0 w0 m w' := by
  refine h.trans ⟨⟨[], by simp⟩, hos, ht, ho, by omega, ?_⟩
  intro k _ hk
  exact hrest k (fun e => hk (e ▸ List.mem_of_getElem? hb))

#print axioms HR.put
end Go.Proofs.Ytkghoaggicnmoaa.Ae
