/- The abstract values and heaps of the interpreter: their meaning in the model's worlds, and the laws of that meaning. Conditions: none. -/
import Derived.LoopN
import Derived.Deep.Quiet
import Derived.KernelRfl
namespace Go.Proofs.Ytlkclpkpggapbaa.Ae
open Go

/-- An abstract value: blocks of memory are numbered from 0 on. -/
inductive AV where
  | int (k : IntKind) (n : Int)
  | bool (b : Bool)
  | str (s : ByteArray)
  | ptr (i o : Nat)
  | nilp
  | slice (i o len cap : Nat)
  | nils
  | own (i n : Nat)
  | agg (l : List AV)
  | tup (l : List AV)
  | fn (f : FuncId) (cap : List AV)
  | nilfn
  | map (i : Nat)
  | strF (s : ByteArray) (lo : Nat) (g : Nat → Int) (ex : List Int)
  | intF (k : IntKind) (z : Int) (lo hi : List Int) (ex : List Int)
  | strG (s : ByteArray) (n : Nat) (g : Nat → Int)
  | any

mutual
/-- What an abstract value says of a value, where block i of the numbering is block m[i] of the world. -/
def R (m : List Nat) : AV → Value → Prop
  | .int k n, V => V = .int k n
  | .bool b, V => V = .bool b
  | .str s, V => V = .string s
  | .ptr i o, V => ∃ b, m[i]? = some b ∧ V = .pointer (some ⟨b, o, none⟩)
  | .nilp, V => V = .pointer none
  | .slice i o len cap, V => ∃ b, m[i]? = some b ∧ V = .slice (some ⟨b, o, none⟩) len cap
  | .nils, V => V = .slice none 0 0
  | .own i n, V => ∃ b c, m[i]? = some b ∧ m[i + 1]? = some (b + c) ∧ V = .slice (some ⟨b, 0, none⟩) n c
  | .agg l, V => ∃ Vs, V = .agg ⟨Vs⟩ ∧ RL m l Vs
  | .tup l, V => ∃ Vs, V = .tuple ⟨Vs⟩ ∧ RL m l Vs
  | .fn f cap, V => ∃ Vs, V = .func (.func f) #[] ⟨Vs⟩ ∧ RL m cap Vs
  | .nilfn, V => V = .nilFunc
  | .map i, V => ∃ b, m[i]? = some b ∧ V = .map (some b)
  | .strF s lo g ex, V => V = .string s ∧ (lo ≤ s.size ∧ ∀ i, i < lo → ((s.data.getD i 0).toNat : Int) = g i) ∧ ∀ c ∈ ex, (s.size : Int) ≠ c
  | .intF k z lo hi ex, V => V = .int k z ∧ ((∀ l ∈ lo, l ≤ z) ∧ ∀ l ∈ hi, z ≤ l) ∧ ∀ c ∈ ex, z ≠ c
  | .strG s n g, V => V = .string s ∧ s.size = n ∧ ∀ i, i < n → ((s.data.getD i 0).toNat : Int) = g i
  | .any, _ => True
def RL (m : List Nat) : List AV → List Value → Prop
  | [], Vs => Vs = []
  | v :: l, Vs => ∃ V Vs', Vs = V :: Vs' ∧ R m v V ∧ RL m l Vs'
end

theorem RL_nil {m : List Nat} {Vs : List Value} : RL m [] Vs ↔ Vs = [] := by simp [RL]
theorem RL_cons {m : List Nat} {v : AV} {l : List AV} {Vs : List Value} : RL m (v :: l) Vs ↔ ∃ V Vs', Vs = V :: Vs' ∧ R m v V ∧ RL m l Vs' := by simp [RL]
theorem RL.cons {m : List Nat} {v : AV} {l : List AV} {V : Value} {Vs : List Value} (h : R m v V) (t : RL m l Vs) : RL m (v :: l) (V :: Vs) := RL_cons.2 ⟨V, Vs, rfl, h, t⟩

theorem get_mono {m : List Nat} {i b : Nat} (x : List Nat) (h : m[i]? = some b) : (m ++ x)[i]? = some b := by
  rw [List.getElem?_append_left]
  · exact h
  · exact (List.getElem?_eq_some_iff.1 h).1

mutual
theorem R_mono {m : List Nat} (x : List Nat) : ∀ (v : AV) {V : Value}, R m v V → R (m ++ x) v V
  | .int .., _, h => by simpa only [R] using h
  | .bool _, _, h => by simpa only [R] using h
  | .str _, _, h => by simpa only [R] using h
  | .ptr .., _, h => by simp only [R] at h ⊢; obtain ⟨b, h1, h2⟩ := h; exact ⟨b, get_mono x h1, h2⟩
  | .nilp, _, h => by simpa only [R] using h
  | .slice .., _, h => by simp only [R] at h ⊢; obtain ⟨b, h1, h2⟩ := h; exact ⟨b, get_mono x h1, h2⟩
  | .nils, _, h => by simpa only [R] using h
  | .own .., _, h => by simp only [R] at h ⊢; obtain ⟨b, c, h1, h2, h3⟩ := h; exact ⟨b, c, get_mono x h1, get_mono x h2, h3⟩
  | .agg l, _, h => by simp only [R] at h ⊢; obtain ⟨b, h1, h2⟩ := h; exact ⟨b, h1, RL_mono x l h2⟩
  | .tup l, _, h => by simp only [R] at h ⊢; obtain ⟨b, h1, h2⟩ := h; exact ⟨b, h1, RL_mono x l h2⟩
  | .fn _ l, _, h => by simp only [R] at h ⊢; obtain ⟨b, h1, h2⟩ := h; exact ⟨b, h1, RL_mono x l h2⟩
  | .nilfn, _, h => by simpa only [R] using h
  | .map _, _, h => by simp only [R] at h ⊢; obtain ⟨b, h1, h2⟩ := h; exact ⟨b, get_mono x h1, h2⟩
  | .strF .., _, h => by simpa only [R] using h
  | .intF .., _, h => by simpa only [R] using h
  | .strG .., _, h => by simpa only [R] using h
  | .any, _, _ => by simp only [R]
theorem RL_mono {m : List Nat} (x : List Nat) : ∀ (l : List AV) {Vs : List Value}, RL m l Vs → RL (m ++ x) l Vs
  | [], _, h => by simpa only [RL] using h
  | v :: l, _, h => by
    obtain ⟨V, Vs', h1, h2, h3⟩ := RL_cons.1 h
    exact RL_cons.2 ⟨V, Vs', h1, R_mono x v h2, RL_mono x l h3⟩
end

mutual
/-- No block is named in it. -/
def AV.noPtr : AV → Bool
  | .int .. | .bool _ | .str _ | .nilp | .nils | .nilfn | .strF .. | .intF .. | .strG .. => true
  | .agg l | .tup l => AV.noPtrL l
  | _ => false
def AV.noPtrL : List AV → Bool
  | [] => true
  | v :: l => v.noPtr && AV.noPtrL l
end

mutual
theorem R_noPtr {m m' : List Nat} : ∀ (v : AV) {V : Value}, v.noPtr = true → R m v V → R m' v V
  | .int .., _, _, h => by simpa only [R] using h
  | .bool _, _, _, h => by simpa only [R] using h
  | .str _, _, _, h => by simpa only [R] using h
  | .ptr .., _, h, _ => by simp [AV.noPtr] at h
  | .nilp, _, _, h => by simpa only [R] using h
  | .slice .., _, h, _ => by simp [AV.noPtr] at h
  | .nils, _, _, h => by simpa only [R] using h
  | .own .., _, h, _ => by simp [AV.noPtr] at h
  | .agg l, _, hn, h => by
    simp only [R] at h ⊢; simp only [AV.noPtr] at hn; obtain ⟨b, h1, h2⟩ := h; exact ⟨b, h1, RL_noPtr l hn h2⟩
  | .tup l, _, hn, h => by
    simp only [R] at h ⊢; simp only [AV.noPtr] at hn; obtain ⟨b, h1, h2⟩ := h; exact ⟨b, h1, RL_noPtr l hn h2⟩
  | .fn .., _, h, _ => by simp [AV.noPtr] at h
  | .nilfn, _, _, h => by simpa only [R] using h
  | .map _, _, h, _ => by simp [AV.noPtr] at h
  | .strF .., _, _, h => by simpa only [R] using h
  | .intF .., _, _, h => by simpa only [R] using h
  | .strG .., _, _, h => by simpa only [R] using h
  | .any, _, h, _ => by simp [AV.noPtr] at h
theorem RL_noPtr {m m' : List Nat} : ∀ (l : List AV) {Vs : List Value}, AV.noPtrL l = true → RL m l Vs → RL m' l Vs
  | [], _, _, h => by simpa only [RL] using h
  | v :: l, _, hn, h => by
    obtain ⟨V, Vs', h1, h2, h3⟩ := RL_cons.1 h
    simp only [AV.noPtrL, Bool.and_eq_true] at hn
    exact RL_cons.2 ⟨V, Vs', h1, R_noPtr v hn.1 h2, RL_noPtr l hn.2 h3⟩
end

mutual
/-- A pointerless abstract value says all of a value. -/
theorem R_det {m m' : List Nat} : ∀ (v : AV) {V V' : Value}, v.noPtr = true → R m v V → R m' v V' → V = V'
  | .int .., _, _, _, h, h' => by simp only [R] at h h'; rw [h, h']
  | .bool _, _, _, _, h, h' => by simp only [R] at h h'; rw [h, h']
  | .str _, _, _, _, h, h' => by simp only [R] at h h'; rw [h, h']
  | .ptr .., _, _, h, _, _ => by simp [AV.noPtr] at h
  | .nilp, _, _, _, h, h' => by simp only [R] at h h'; rw [h, h']
  | .slice .., _, _, h, _, _ => by simp [AV.noPtr] at h
  | .nils, _, _, _, h, h' => by simp only [R] at h h'; rw [h, h']
  | .own .., _, _, h, _, _ => by simp [AV.noPtr] at h
  | .agg l, _, _, hn, h, h' => by
    simp only [R] at h h'; simp only [AV.noPtr] at hn
    obtain ⟨b, rfl, h2⟩ := h; obtain ⟨b', rfl, h2'⟩ := h'; rw [RL_det l hn h2 h2']
  | .tup l, _, _, hn, h, h' => by
    simp only [R] at h h'; simp only [AV.noPtr] at hn
    obtain ⟨b, rfl, h2⟩ := h; obtain ⟨b', rfl, h2'⟩ := h'; rw [RL_det l hn h2 h2']
  | .fn .., _, _, h, _, _ => by simp [AV.noPtr] at h
  | .nilfn, _, _, _, h, h' => by simp only [R] at h h'; rw [h, h']
  | .map _, _, _, h, _, _ => by simp [AV.noPtr] at h
  | .strF .., _, _, _, h, h' => by simp only [R] at h h'; rw [h.1, h'.1]
  | .intF .., _, _, _, h, h' => by simp only [R] at h h'; rw [h.1, h'.1]
  | .strG .., _, _, _, h, h' => by simp only [R] at h h'; rw [h.1, h'.1]
  | .any, _, _, h, _, _ => by simp [AV.noPtr] at h
theorem RL_det {m m' : List Nat} : ∀ (l : List AV) {Vs Vs' : List Value}, AV.noPtrL l = true → RL m l Vs → RL m' l Vs' → Vs = Vs'
  | [], _, _, _, h, h' => by simp only [RL] at h h'; rw [h, h']
  | v :: l, _, _, hn, h, h' => by
    obtain ⟨V, Vs1, rfl, h2, h3⟩ := RL_cons.1 h
    obtain ⟨V', Vs1', rfl, h2', h3'⟩ := RL_cons.1 h'
    simp only [AV.noPtrL, Bool.and_eq_true] at hn
    rw [R_det v hn.1 h2 h2', RL_det l hn.2 h3 h3']
end

theorem RL_len {m : List Nat} : ∀ {l : List AV} {Vs : List Value}, RL m l Vs → Vs.length = l.length
  | [], _, h => by rw [RL_nil.1 h]; rfl
  | _ :: _, _, h => by obtain ⟨V, Vs', rfl, _, h3⟩ := RL_cons.1 h; simp [RL_len h3]

theorem RL_get {m : List Nat} : ∀ {l : List AV} {Vs : List Value} {i : Nat} {v : AV}, RL m l Vs → l[i]? = some v → ∃ V, Vs[i]? = some V ∧ R m v V
  | [], _, _, _, _, hi => by simp at hi
  | v :: l, _, i, _, h, hi => by
    obtain ⟨V, Vs', rfl, h2, h3⟩ := RL_cons.1 h
    cases i with
    | zero => simp at hi; subst hi; exact ⟨V, by simp, h2⟩
    | succ i => simp at hi; obtain ⟨V1, h4, h5⟩ := RL_get h3 hi; exact ⟨V1, by simpa using h4, h5⟩

theorem RL_set {m : List Nat} {v : AV} {V : Value} (hv : R m v V) : ∀ {l : List AV} {Vs : List Value} (i : Nat), RL m l Vs → RL m (l.set i v) (Vs.set i V)
  | [], _, i, h => by rw [RL_nil.1 h]; simpa using RL_nil.2 rfl
  | u :: l, _, i, h => by
    obtain ⟨U, Vs', rfl, h2, h3⟩ := RL_cons.1 h
    cases i with
    | zero => exact RL.cons hv h3
    | succ i => exact RL.cons h2 (RL_set hv i h3)

theorem RL_append {m : List Nat} {l' : List AV} {Vs' : List Value} (h' : RL m l' Vs') : ∀ {l : List AV} {Vs : List Value}, RL m l Vs → RL m (l ++ l') (Vs ++ Vs')
  | [], _, h => by rw [RL_nil.1 h]; exact h'
  | u :: l, _, h => by obtain ⟨U, Vs1, rfl, h2, h3⟩ := RL_cons.1 h; exact RL.cons h2 (RL_append h' h3)

theorem RL_take {m : List Nat} : ∀ {l : List AV} {Vs : List Value} (i : Nat), RL m l Vs → RL m (l.take i) (Vs.take i)
  | [], _, i, h => by rw [RL_nil.1 h]; simpa using RL_nil.2 rfl
  | u :: l, _, i, h => by
    obtain ⟨U, Vs', rfl, h2, h3⟩ := RL_cons.1 h
    cases i with
    | zero => exact RL_nil.2 rfl
    | succ i => exact RL.cons h2 (RL_take i h3)

theorem RL_drop {m : List Nat} : ∀ {l : List AV} {Vs : List Value} (i : Nat), RL m l Vs → RL m (l.drop i) (Vs.drop i)
  | [], _, i, h => by rw [RL_nil.1 h]; simpa using RL_nil.2 rfl
  | u :: l, _, i, h => by
    cases i with
    | zero => exact h
    | succ i => obtain ⟨U, Vs', rfl, h2, h3⟩ := RL_cons.1 h; exact RL_drop i h3

/-- A map's key: a number, or two. -/
abbrev MK := Int × Int
def keyV (two : Bool) (k : MK) : Value := if two then .agg ⟨[.int .i64 k.1, .int .i64 k.2]⟩ else .int .i64 k.1
/-- Entries of a map. -/
def RE (m : List Nat) (two : Bool) : List (MK × AV) → List MapEntry → Prop
  | [], es => es = []
  | (k, v) :: l, es => ∃ e es', es = e :: es' ∧ e.key = keyV two k ∧ R m v e.val ∧ RE m two l es'
theorem RE_mono {m : List Nat} (x : List Nat) {two : Bool} : ∀ {l : List (MK × AV)} {es : List MapEntry}, RE m two l es → RE (m ++ x) two l es
  | [], _, h => h
  | (k, v) :: l, _, ⟨e, es', h1, h2, h3, h4⟩ => ⟨e, es', h1, h2, R_mono x v h3, RE_mono x h4⟩

/-- An abstract block: cells; a row that may grow, of which the begin is known (behind it in the numbering stands how many cells it has); a row that is only read; a map; nothing any more. -/
inductive AB where
  | cells (l : List AV) (t : TypeId)
  | row (l : List AV) (t : TypeId)
  | ro (l : List AV) (t : TypeId)
  | map (two : Bool) (es : List (MK × AV))
  | dead

def RB (m : List Nat) : AB → Obj → Prop
  | .cells l t, o => ∃ Vs, o = .cells ⟨Vs⟩ t (0, 0) ∧ RL m l Vs
  | .row l t, o => ∃ Vs, o = .cells ⟨Vs⟩ t (0, 0) ∧ l.length ≤ Vs.length ∧ RL m l (Vs.take l.length)
  | .ro l t, o => ∃ Vs fz, o = .cells ⟨Vs⟩ t fz ∧ l.length ≤ Vs.length ∧ RL m l (Vs.take l.length)
  | .map two es, o => ∃ ess clock es', o = .map ⟨ess⟩ clock ∧ es'.Perm es ∧ RE m two es' ess ∧ (es.map Prod.fst).Nodup ∧ (two = false → ∀ e ∈ es, e.1.2 = 0)
  | .dead, _ => True

theorem RB_mono {m : List Nat} (x : List Nat) {B : AB} {o : Obj} (h : RB m B o) : RB (m ++ x) B o := by
  cases B with
  | cells l t => obtain ⟨Vs, h1, h2⟩ := h; exact ⟨Vs, h1, RL_mono x l h2⟩
  | row l t => obtain ⟨Vs, h1, h0, h2⟩ := h; exact ⟨Vs, h1, h0, RL_mono x l h2⟩
  | ro l t => obtain ⟨Vs, fz, h1, h0, h2⟩ := h; exact ⟨Vs, fz, h1, h0, RL_mono x l h2⟩
  | map two es => obtain ⟨ess, c, es', h1, h0, h2, h3⟩ := h; exact ⟨ess, c, es', h1, h0, RE_mono x h2, h3⟩
  | dead => trivial

def AB.live : AB → Bool
  | .dead => false
  | _ => true
/-- Behind a row's number stands how many cells it has. -/
def capAt (m : List Nat) (i b : Nat) (o : Obj) : AB → Prop
  | .row _ _ => ∀ cs t fz, o = .cells cs t fz → m[i + 1]? = some (b + cs.size)
  | _ => True
theorem capAt_mono {m : List Nat} (x : List Nat) {i b : Nat} {o : Obj} {B : AB} (h : capAt m i b o B) : capAt (m ++ x) i b o B := by
  cases B with
  | row l t => exact fun cs t fz e => get_mono x (h cs t fz e)
  | _ => trivial

/-- What an abstract heap says of a world. -/
structure HR (m : List Nat) (H : List AB) (w : World) : Prop where
  len : m.length = H.length
  nodup : ∀ (i j b : Nat) (B C : AB), m[i]? = some b → m[j]? = some b → H[i]? = some B → H[j]? = some C → B.live = true → C.live = true → i = j
  all : ∀ (i : Nat) (B : AB), H[i]? = some B → B.live = true → ∃ (b : Nat) (o : Obj), m[i]? = some b ∧ w.heap[b]? = some o ∧ RB m B o ∧ capAt m i b o B

theorem HR.at_ {m : List Nat} {H : List AB} {w : World} (h : HR m H w) (i : Nat) {B : AB} (hB : H[i]? = some B) (hl : B.live = true := by rfl) : ∃ (b : Nat) (o : Obj), m[i]? = some b ∧ w.heap[b]? = some o ∧ RB m B o := by
  obtain ⟨b, o, h1, h2, h3, _⟩ := h.all i B hB hl
  exact ⟨b, o, h1, h2, h3⟩

/-- What may have become of a world: the blocks of m aside nothing that was there has turned; new blocks have come. -/
structure Ext (m : List Nat) (w : World) (m' : List Nat) (w' : World) : Prop where
  pre : ∃ x, m' = m ++ x ∧ ∀ b ∈ x, w.heap.size ≤ b ∨ b ∈ m
  os : w'.os = w.os
  tape : w'.tape = w.tape
  output : w'.output = w.output
  size : w.heap.size ≤ w'.heap.size
  block : ∀ k, k < w.heap.size → k ∉ m → w'.heap[k]? = w.heap[k]?

theorem Ext.refl (m : List Nat) (w : World) : Ext m w m w := ⟨⟨[], by simp⟩, rfl, rfl, rfl, Nat.le_refl _, fun _ _ _ => rfl⟩

theorem Ext.trans {m m1 m2 : List Nat} {w w1 w2 : World} (h : Ext m w m1 w1) (k : Ext m1 w1 m2 w2) : Ext m w m2 w2 := by
  obtain ⟨x, hx, hxs⟩ := h.pre
  obtain ⟨y, hy, hys⟩ := k.pre
  refine ⟨⟨x ++ y, by rw [hy, hx, List.append_assoc], ?_⟩, k.os.trans h.os, k.tape.trans h.tape, k.output.trans h.output, Nat.le_trans h.size k.size, ?_⟩
  · intro b hb
    rcases List.mem_append.1 hb with hb | hb
    · exact hxs b hb
    · rcases hys b hb with h1 | h1
      · exact .inl (Nat.le_trans h.size h1)
      · rw [hx] at h1
        rcases List.mem_append.1 h1 with h1 | h1
        · exact .inr h1
        · exact hxs b h1
  · intro i hi hm
    rw [k.block i (Nat.lt_of_lt_of_le hi h.size) ?_, h.block i hi hm]
    rw [hx]
    intro hmem
    rcases List.mem_append.1 hmem with hmem | hmem
    · exact hm hmem
    · rcases hxs i hmem with h1 | h1
      · omega
      · exact hm h1

theorem Ext.drewN {m m' : List Nat} {w w' : World} (h : Ext m w m' w') (n : Nat) : Ext m w m' (w'.drewN n) := ⟨h.pre, h.os, h.tape, h.output, h.size, h.block⟩

theorem Ext.R {m m' : List Nat} {w w' : World} (h : Ext m w m' w') {v : AV} {V : Value} (hv : R m v V) : R m' v V := by
  obtain ⟨x, hx, _⟩ := h.pre; rw [hx]; exact R_mono x v hv
theorem Ext.RL {m m' : List Nat} {w w' : World} (h : Ext m w m' w') {l : List AV} {Vs : List Value} (hv : RL m l Vs) : RL m' l Vs := by
  obtain ⟨x, hx, _⟩ := h.pre; rw [hx]; exact RL_mono x l hv

theorem HR.drewN {m : List Nat} {H : List AB} {w : World} (h : HR m H w) (n : Nat) : HR m H (w.drewN n) := ⟨h.len, h.nodup, h.all⟩

theorem HR.lt {m : List Nat} {H : List AB} {w : World} (h : HR m H w) {i b : Nat} {B : AB} (hb : m[i]? = some b) (hB : H[i]? = some B) (hl : B.live = true) : b < w.heap.size := by
  obtain ⟨b', o, h1, h2, _⟩ := h.all i B hB hl
  rw [hb] at h1
  cases h1
  exact (Array.getElem?_eq_some_iff.1 h2).1

theorem get_append_cases {α : Type} {l x : List α} {i : Nat} {a : α} (h : (l ++ x)[i]? = some a) : (i < l.length ∧ l[i]? = some a) ∨ (l.length ≤ i ∧ x[i - l.length]? = some a) := by
  rcases Nat.lt_or_ge i l.length with hi | hi
  · rw [List.getElem?_append_left hi] at h; exact .inl ⟨hi, h⟩
  · rw [List.getElem?_append_right hi] at h; exact .inr ⟨hi, h⟩

/-- New blocks in a grown world: what was known stays known. -/
theorem HR.grow {m : List Nat} {H : List AB} {w w' : World} (h : HR m H w) {x : List Nat} {X : List AB} (hx : x.length = X.length)
    (hw : ∀ (i k : Nat) (A : AB), m[i]? = some k → H[i]? = some A → A.live = true → w'.heap[k]? = w.heap[k]?)
    (hfresh : ∀ (j b : Nat) (B : AB), x[j]? = some b → X[j]? = some B → B.live = true → ∀ (i : Nat) (A : AB), m[i]? = some b → H[i]? = some A → A.live = true → False)
    (hnd : ∀ (i j b : Nat) (B C : AB), x[i]? = some b → x[j]? = some b → X[i]? = some B → X[j]? = some C → B.live = true → C.live = true → i = j)
    (hall : ∀ (j : Nat) (B : AB), X[j]? = some B → B.live = true → ∃ (b : Nat) (o : Obj), x[j]? = some b ∧ w'.heap[b]? = some o ∧ RB (m ++ x) B o ∧ capAt (m ++ x) (H.length + j) b o B) : HR (m ++ x) (H ++ X) w' := by
  refine ⟨by simp [h.len, hx], ?_, ?_⟩
  · intro i j b B C h1 h2 h3 h4 h5 h6
    rcases get_append_cases h3 with ⟨i1, h3⟩ | ⟨i1, h3⟩ <;> rcases get_append_cases h4 with ⟨j1, h4⟩ | ⟨j1, h4⟩
    · rw [List.getElem?_append_left (by rw [h.len]; exact i1)] at h1
      rw [List.getElem?_append_left (by rw [h.len]; exact j1)] at h2
      exact h.nodup i j b B C h1 h2 h3 h4 h5 h6
    · rw [List.getElem?_append_left (by rw [h.len]; exact i1)] at h1
      rw [List.getElem?_append_right (by rw [h.len]; exact j1), h.len] at h2
      exact (hfresh _ _ _ h2 h4 h6 _ _ h1 h3 h5).elim
    · rw [List.getElem?_append_right (by rw [h.len]; exact i1), h.len] at h1
      rw [List.getElem?_append_left (by rw [h.len]; exact j1)] at h2
      exact (hfresh _ _ _ h1 h3 h5 _ _ h2 h4 h6).elim
    · rw [List.getElem?_append_right (by rw [h.len]; exact i1), h.len] at h1
      rw [List.getElem?_append_right (by rw [h.len]; exact j1), h.len] at h2
      have := hnd _ _ b B C h1 h2 h3 h4 h5 h6
      omega
  · intro i B hB hl
    rcases get_append_cases hB with ⟨i1, h3⟩ | ⟨i1, h3⟩
    · obtain ⟨b, o, e1, e2, e3, e4⟩ := h.all i B h3 hl
      exact ⟨b, o, get_mono _ e1, by rw [hw i b B e1 h3 hl]; exact e2, RB_mono _ e3, capAt_mono _ e4⟩
    · obtain ⟨b, o, e1, e2, e3, e4⟩ := hall _ B h3 hl
      refine ⟨b, o, by rw [List.getElem?_append_right (by rw [h.len]; exact i1), h.len]; exact e1, e2, e3, ?_⟩
      have : H.length + (i - H.length) = i := by omega
      rw [this] at e4
      exact e4

/-- A new block. -/
theorem HR.push {m : List Nat} {H : List AB} {w : World} (h : HR m H w) {l : List AV} {t : TypeId} {o : Obj} (hB : RB m (.cells l t) o) : HR (m ++ [w.heap.size]) (H ++ [.cells l t]) (w.alloc o) := by
  refine h.grow rfl (fun i k A hk hA hl => ?_) ?_ ?_ ?_
  · have := h.lt hk hA hl
    show (w.heap.push o)[k]? = _
    rw [Array.getElem?_push, if_neg (by omega)]
  · intro j b B h1 _ _ i A h2 h3 h4
    have := h.lt h2 h3 h4
    cases j with
    | zero => simp at h1; omega
    | succ j => simp at h1
  · intro i j b B C h1 h2 _ _ _ _
    cases i with
    | zero =>
      cases j with
      | zero => rfl
      | succ j => simp at h2
    | succ i => simp at h1
  · intro j B hB' _
    cases j with
    | zero =>
      simp at hB'
      subst hB'
      exact ⟨w.heap.size, o, rfl, by show (w.heap.push o)[w.heap.size]? = _; rw [Array.getElem?_push, if_pos rfl], RB_mono _ hB, trivial⟩
    | succ j => simp at hB'

/-- A new row, with its count of cells behind it in the numbering. -/
theorem HR.pushRow {m : List Nat} {H : List AB} {w : World} (h : HR m H w) {l : List AV} {t : TypeId} {Vs : List Value} (h0 : l.length ≤ Vs.length) (hl : RL m l (Vs.take l.length)) :
    HR (m ++ [w.heap.size, w.heap.size + Vs.length]) (H ++ [.row l t, .dead]) (w.alloc (.cells ⟨Vs⟩ t (0, 0))) := by
  refine h.grow rfl (fun i k A hk hA hl => ?_) ?_ ?_ ?_
  · have := h.lt hk hA hl
    show (w.heap.push _)[k]? = _
    rw [Array.getElem?_push, if_neg (by omega)]
  · intro j b B h1 h2 h3 i A h4 h5 h6
    have := h.lt h4 h5 h6
    rcases j with _ | _ | j
    · simp at h1; omega
    · simp at h2; subst h2; cases h3
    · simp at h1
  · intro i j b B C h1 h2 h3 h4 h5 h6
    rcases i with _ | _ | i
    · rcases j with _ | _ | j
      · rfl
      · simp at h4; subst h4; cases h6
      · simp at h2
    · simp at h3; subst h3; cases h5
    · simp at h1
  · intro j B hB' hlv
    rcases j with _ | _ | j
    · simp at hB'
      subst hB'
      refine ⟨w.heap.size, .cells ⟨Vs⟩ t (0, 0), rfl, by show (w.heap.push _)[w.heap.size]? = _; rw [Array.getElem?_push, if_pos rfl], ⟨Vs, rfl, h0, RL_mono _ _ hl⟩, ?_⟩
      intro cs t' fz e
      cases e
      rw [List.getElem?_append_right (by rw [h.len]; omega)]
      have : H.length + 0 + 1 - m.length = 1 := by rw [h.len]; omega
      rw [this]; rfl
    · simp at hB'; subst hB'; cases hlv
    · simp at hB'

/-- A new row that is only read. -/
theorem HR.pushRo {m : List Nat} {H : List AB} {w w' : World} (h : HR m H w) {l : List AV} {t : TypeId} {Vs : List Value} {fz : Nat × Nat} (h0 : l.length ≤ Vs.length) (hl : RL m l (Vs.take l.length)) {c : Nat}
    (hw : ∀ k, k < w.heap.size → w'.heap[k]? = w.heap[k]?) (hn : w'.heap[w.heap.size]? = some (.cells ⟨Vs⟩ t fz)) :
    HR (m ++ [w.heap.size, w.heap.size + c]) (H ++ [.ro l t, .dead]) w' := by
  refine h.grow rfl (fun i k A hk hA hl => hw k (h.lt hk hA hl)) ?_ ?_ ?_
  · intro j b B h1 h2 h3 i A h4 h5 h6
    have := h.lt h4 h5 h6
    rcases j with _ | _ | j
    · simp at h1; omega
    · simp at h2; subst h2; cases h3
    · simp at h1
  · intro i j b B C h1 h2 h3 h4 h5 h6
    rcases i with _ | _ | i
    · rcases j with _ | _ | j
      · rfl
      · simp at h4; subst h4; cases h6
      · simp at h2
    · simp at h3; subst h3; cases h5
    · simp at h1
  · intro j B hB' hlv
    rcases j with _ | _ | j
    · simp at hB'
      subst hB'
      exact ⟨w.heap.size, _, rfl, hn, ⟨Vs, fz, rfl, h0, RL_mono _ _ hl⟩, trivial⟩
    · simp at hB'; subst hB'; cases hlv
    · simp at hB'

theorem Ext.grown {m0 m : List Nat} {w0 w w' : World} (h : Ext m0 w0 m w) {x : List Nat} (hx : ∀ b ∈ x, w.heap.size ≤ b) (hos : w'.os = w.os) (ht : w'.tape = w.tape) (ho : w'.output = w.output) (hs : w.heap.size ≤ w'.heap.size)
    (hw : ∀ k, k < w.heap.size → w'.heap[k]? = w.heap[k]?) : Ext m0 w0 (m ++ x) w' :=
  h.trans ⟨⟨x, rfl, fun b hb => .inl (hx b hb)⟩, hos, ht, ho, hs, fun k hk _ => hw k hk⟩

theorem Ext.push {m0 m : List Nat} {w0 w : World} (h : Ext m0 w0 m w) (o : Obj) : Ext m0 w0 (m ++ [w.heap.size]) (w.alloc o) := by
  refine h.trans ⟨⟨[w.heap.size], rfl, by simp⟩, rfl, rfl, rfl, ?_, ?_⟩
  · show _ ≤ (w.heap.push o).size
    simp
  · intro k hk _
    show (w.heap.push o)[k]? = _
    rw [Array.getElem?_push, if_neg (by omega)]

/-- A block's object is replaced. -/
theorem HR.put {m : List Nat} {H : List AB} {w : World} (h : HR m H w) {i b : Nat} {A : AB} (hb : m[i]? = some b) (hA : H[i]? = some A) (hAl : A.live = true) {B : AB} {o : Obj} (hB : RB m B o) (hcap : capAt m i b o B) {w' : World}
    (hat : w'.heap[b]? = some o) (hrest : ∀ k, k ≠ b → w'.heap[k]? = w.heap[k]?) : HR m (H.set i B) w' := by
  have live : ∀ {j : Nat} {C : AB}, (H.set i B)[j]? = some C → C.live = true → ∃ D, H[j]? = some D ∧ D.live = true := fun {j C} hC hl => by
    by_cases hij : i = j
    · subst hij; exact ⟨A, hA, hAl⟩
    · rw [List.getElem?_set_ne hij] at hC; exact ⟨C, hC, hl⟩
  refine ⟨by simp [h.len], ?_, ?_⟩
  · intro j k c C D h1 h2 h3 h4 h5 h6
    obtain ⟨C', c1, c2⟩ := live h3 h5
    obtain ⟨D', d1, d2⟩ := live h4 h6
    exact h.nodup j k c C' D' h1 h2 c1 d1 c2 d2
  · intro j C hC hl
    by_cases hij : i = j
    · subst hij
      have hlt : i < (H.set i B).length := (List.getElem?_eq_some_iff.1 hC).1
      simp at hlt
      simp [List.getElem?_set, hlt] at hC
      subst hC
      exact ⟨b, o, hb, hat, hB, hcap⟩
    · rw [List.getElem?_set_ne hij] at hC
      obtain ⟨b', o', h1, h2, h3, h4⟩ := h.all j C hC hl
      refine ⟨b', o', h1, ?_, h3, h4⟩
      rw [hrest b' (fun e => hij (h.nodup i j b A C hb (e ▸ h1) hA hC hAl hl))]
      exact h2

/-- A block is forgotten. -/
theorem HR.kill {m : List Nat} {H : List AB} {w : World} (h : HR m H w) (i : Nat) : HR m (H.set i .dead) w := by
  have live : ∀ {j : Nat} {C : AB}, (H.set i .dead)[j]? = some C → C.live = true → H[j]? = some C := fun {j C} hC hl => by
    by_cases hij : i = j
    · subst hij
      have hlt : i < (H.set i AB.dead).length := (List.getElem?_eq_some_iff.1 hC).1
      simp at hlt
      simp [List.getElem?_set, hlt] at hC
      subst hC; cases hl
    · rw [List.getElem?_set_ne hij] at hC; exact hC
  exact ⟨by simp [h.len], fun j k c C D h1 h2 h3 h4 h5 h6 => h.nodup j k c C D h1 h2 (live h3 h5) (live h4 h6) h5 h6, fun j C hC hl => h.all j C (live hC hl) hl⟩

/-- A row that has grown where it lies. -/
theorem HR.moveRow {m : List Nat} {H : List AB} {w w' : World} (h : HR m H w) {i b : Nat} {A : AB} (hb : m[i]? = some b) (hA : H[i]? = some A) (hAl : A.live = true) {l : List AV} {t : TypeId} {Vs : List Value}
    (h0 : l.length ≤ Vs.length) (hl : RL m l (Vs.take l.length)) (hat : w'.heap[b]? = some (.cells ⟨Vs⟩ t (0, 0))) (hrest : ∀ k, k ≠ b → w'.heap[k]? = w.heap[k]?) :
    HR (m ++ [b, b + Vs.length]) (H.set i .dead ++ [.row l t, .dead]) w' := by
  have old : ∀ (j : Nat) (C : AB), (H.set i .dead)[j]? = some C → C.live = true → H[j]? = some C ∧ j ≠ i := fun j C hC hl => by
    by_cases hij : i = j
    · subst hij
      have hlt : i < (H.set i AB.dead).length := (List.getElem?_eq_some_iff.1 hC).1
      simp at hlt
      simp [hlt] at hC
      subst hC; cases hl
    · rw [List.getElem?_set_ne hij] at hC; exact ⟨hC, fun e => hij e.symm⟩
  have apart : ∀ (j : Nat) (C : AB), m[j]? = some b → (H.set i .dead)[j]? = some C → C.live = true → False := fun j C h1 h2 h3 => by
    obtain ⟨h4, h5⟩ := old j C h2 h3
    exact h5 (h.nodup j i b C A h1 hb h4 hA h3 hAl)
  refine (h.kill i).grow rfl (fun j k C hk hC hl => hrest k (fun e => by subst e; exact apart j C hk hC hl)) ?_ ?_ ?_
  · intro j c B h1 h2 h3 k C h4 h5 h6
    rcases j with _ | _ | j
    · simp at h1; subst h1; exact apart k C h4 h5 h6
    · simp at h2; subst h2; cases h3
    · simp at h1
  · intro i j b B C h1 h2 h3 h4 h5 h6
    rcases i with _ | _ | i
    · rcases j with _ | _ | j
      · rfl
      · simp at h4; subst h4; cases h6
      · simp at h2
    · simp at h3; subst h3; cases h5
    · simp at h1
  · intro j B hB' hlv
    rcases j with _ | _ | j
    · simp at hB'
      subst hB'
      refine ⟨b, _, rfl, hat, ⟨Vs, rfl, h0, RL_mono _ _ hl⟩, ?_⟩
      intro cs t' fz e
      cases e
      rw [List.getElem?_append_right (by rw [h.len]; simp)]
      have : (H.set i AB.dead).length + 0 + 1 - m.length = 1 := by rw [h.len]; simp
      rw [this]; rfl
    · simp at hB'; subst hB'; cases hlv
    · simp at hB'

theorem Ext.put {m0 m : List Nat} {w0 w : World} (h : Ext m0 w0 m w) {i b : Nat} (hb : m[i]? = some b) {w' : World}
    (hs : w'.heap.size = w.heap.size) (hos : w'.os = w.os) (ht : w'.tape = w.tape) (ho : w'.output = w.output) (hrest : ∀ k, k ≠ b → w'.heap[k]? = w.heap[k]?) : Ext m0 w0 m w' := by
  refine h.trans ⟨⟨[], by simp⟩, hos, ht, ho, by omega, ?_⟩
  intro k _ hk
  exact hrest k (fun e => hk (e ▸ List.mem_of_getElem? hb))

#print axioms HR.put
end Go.Proofs.Ytlkclpkpggapbaa.Ae
