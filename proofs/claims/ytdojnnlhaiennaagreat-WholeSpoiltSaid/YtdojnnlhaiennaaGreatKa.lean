/- The abstract values and heaps of the interpreter: their meaning in the model's worlds, and the laws of that meaning. Conditions: none. -/
import Derived.LoopN
import Derived.Deep.Quiet
import Derived.KernelRfl
import Derived.Laws.Entries
import Derived.ChangeKeysEq
import Derived.Laws.StructEq
import Derived.MapKept
namespace Go.Proofs.YtdojnnlhaiennaaGreat.Ae
open Go

/-- An abstract value: blocks of memory are numbered from 0 on. -/
inductive AV where
  | int (k : IntKind) (n : Int)
  | bool (b : Bool)
  | str (s : ByteArray)
  | ptr (i o : Nat)
  | nilp
  | slice (i o len cap : Nat)
  | nils
  | own (i n : Nat)
  | view (i o n : Nat)
  | agg (l : List AV)
  | tup (l : List AV)
  | fn (f : FuncId) (cap : List AV)
  | nilfn
  | map (i : Nat)
  | strF (s : ByteArray) (lo : Nat) (g : Nat → Int) (ex : List Int)
  | intF (k : IntKind) (z : Int) (lo hi : List Int) (ex : List Int)
  | strG (s : ByteArray) (n : Nat) (g : Nat → Int)
  | any

mutual
/-- What an abstract value says of a value, where block i of the numbering is block m[i] of the world. -/
def R (m : List Nat) : AV → Value → Prop
  | .int k n, V => V = .int k n
  | .bool b, V => V = .bool b
  | .str s, V => V = .string s
  | .ptr i o, V => ∃ b, m[i]? = some b ∧ V = .pointer (some ⟨b, o, none⟩)
  | .nilp, V => V = .pointer none
  | .slice i o len cap, V => ∃ b, m[i]? = some b ∧ V = .slice (some ⟨b, o, none⟩) len cap
  | .nils, V => V = .slice none 0 0
  | .own i n, V => ∃ b c, m[i]? = some b ∧ m[i + 1]? = some (b + c) ∧ n ≤ c ∧ V = .slice (some ⟨b, 0, none⟩) n c
  | .view i o n, V => ∃ b c, m[i]? = some b ∧ V = .slice (some ⟨b, o, none⟩) n c
  | .agg l, V => ∃ Vs, V = .agg ⟨Vs⟩ ∧ RL m l Vs
  | .tup l, V => ∃ Vs, V = .tuple ⟨Vs⟩ ∧ RL m l Vs
  | .fn f cap, V => ∃ Vs, V = .func (.func f) #[] ⟨Vs⟩ ∧ RL m cap Vs
  | .nilfn, V => V = .nilFunc
  | .map i, V => ∃ b, m[i]? = some b ∧ V = .map (some b)
  | .strF s lo g ex, V => V = .string s ∧ (lo ≤ s.size ∧ ∀ i, i < lo → ((s.data.getD i 0).toNat : Int) = g i) ∧ ∀ c ∈ ex, (s.size : Int) ≠ c
  | .intF k z lo hi ex, V => V = .int k z ∧ ((∀ l ∈ lo, l ≤ z) ∧ ∀ l ∈ hi, z ≤ l) ∧ ∀ c ∈ ex, z ≠ c
  | .strG s n g, V => V = .string s ∧ s.size = n ∧ ∀ i, i < n → ((s.data.getD i 0).toNat : Int) = g i
  | .any, _ => True
def RL (m : List Nat) : List AV → List Value → Prop
  | [], Vs => Vs = []
  | v :: l, Vs => ∃ V Vs', Vs = V :: Vs' ∧ R m v V ∧ RL m l Vs'
end

theorem RL_nil {m : List Nat} {Vs : List Value} : RL m [] Vs ↔ Vs = [] := by simp [RL]
theorem RL_cons {m : List Nat} {v : AV} {l : List AV} {Vs : List Value} : RL m (v :: l) Vs ↔ ∃ V Vs', Vs = V :: Vs' ∧ R m v V ∧ RL m l Vs' := by simp [RL]
theorem RL.cons {m : List Nat} {v : AV} {l : List AV} {V : Value} {Vs : List Value} (h : R m v V) (t : RL m l Vs) : RL m (v :: l) (V :: Vs) := RL_cons.2 ⟨V, Vs, rfl, h, t⟩

theorem get_mono {m : List Nat} {i b : Nat} (x : List Nat) (h : m[i]? = some b) : (m ++ x)[i]? = some b := by
  rw [List.getElem?_append_left]
  · exact h
  · exact (List.getElem?_eq_some_iff.1 h).1

mutual
theorem R_mono {m : List Nat} (x : List Nat) : ∀ (v : AV) {V : Value}, R m v V → R (m ++ x) v V
  | .int .., _, h => by simpa only [R] using h
  | .bool _, _, h => by simpa only [R] using h
  | .str _, _, h => by simpa only [R] using h
  | .ptr .., _, h => by simp only [R] at h ⊢; obtain ⟨b, h1, h2⟩ := h; exact ⟨b, get_mono x h1, h2⟩
  | .nilp, _, h => by simpa only [R] using h
  | .slice .., _, h => by simp only [R] at h ⊢; obtain ⟨b, h1, h2⟩ := h; exact ⟨b, get_mono x h1, h2⟩
  | .nils, _, h => by simpa only [R] using h
  | .own .., _, h => by simp only [R] at h ⊢; obtain ⟨b, c, h1, h2, h3⟩ := h; exact ⟨b, c, get_mono x h1, get_mono x h2, h3⟩
  | .view .., _, h => by simp only [R] at h ⊢; obtain ⟨b, c, h1, h2⟩ := h; exact ⟨b, c, get_mono x h1, h2⟩
  | .agg l, _, h => by simp only [R] at h ⊢; obtain ⟨b, h1, h2⟩ := h; exact ⟨b, h1, RL_mono x l h2⟩
  | .tup l, _, h => by simp only [R] at h ⊢; obtain ⟨b, h1, h2⟩ := h; exact ⟨b, h1, RL_mono x l h2⟩
  | .fn _ l, _, h => by simp only [R] at h ⊢; obtain ⟨b, h1, h2⟩ := h; exact ⟨b, h1, RL_mono x l h2⟩
  | .nilfn, _, h => by simpa only [R] using h
  | .map _, _, h => by simp only [R] at h ⊢; obtain ⟨b, h1, h2⟩ := h; exact ⟨b, get_mono x h1, h2⟩
  | .strF .., _, h => by simpa only [R] using h
  | .intF .., _, h => by simpa only [R] using h
  | .strG .., _, h => by simpa only [R] using h
  | .any, _, _ => by simp only [R]
theorem RL_mono {m : List Nat} (x : List Nat) : ∀ (l : List AV) {Vs : List Value}, RL m l Vs → RL (m ++ x) l Vs
  | [], _, h => by simpa only [RL] using h
  | v :: l, _, h => by
    obtain ⟨V, Vs', h1, h2, h3⟩ := RL_cons.1 h
    exact RL_cons.2 ⟨V, Vs', h1, R_mono x v h2, RL_mono x l h3⟩
end

mutual
/-- No block is named in it. -/
def AV.noPtr : AV → Bool
  | .int .. | .bool _ | .str _ | .nilp | .nils | .nilfn | .strF .. | .intF .. | .strG .. => true
  | .agg l | .tup l => AV.noPtrL l
  | _ => false
def AV.noPtrL : List AV → Bool
  | [] => true
  | v :: l => v.noPtr && AV.noPtrL l
end

mutual
theorem R_noPtr {m m' : List Nat} : ∀ (v : AV) {V : Value}, v.noPtr = true → R m v V → R m' v V
  | .int .., _, _, h => by simpa only [R] using h
  | .bool _, _, _, h => by simpa only [R] using h
  | .str _, _, _, h => by simpa only [R] using h
  | .ptr .., _, h, _ => by simp [AV.noPtr] at h
  | .nilp, _, _, h => by simpa only [R] using h
  | .slice .., _, h, _ => by simp [AV.noPtr] at h
  | .nils, _, _, h => by simpa only [R] using h
  | .own .., _, h, _ => by simp [AV.noPtr] at h
  | .view .., _, h, _ => by simp [AV.noPtr] at h
  | .agg l, _, hn, h => by
    simp only [R] at h ⊢; simp only [AV.noPtr] at hn; obtain ⟨b, h1, h2⟩ := h; exact ⟨b, h1, RL_noPtr l hn h2⟩
  | .tup l, _, hn, h => by
    simp only [R] at h ⊢; simp only [AV.noPtr] at hn; obtain ⟨b, h1, h2⟩ := h; exact ⟨b, h1, RL_noPtr l hn h2⟩
  | .fn .., _, h, _ => by simp [AV.noPtr] at h
  | .nilfn, _, _, h => by simpa only [R] using h
  | .map _, _, h, _ => by simp [AV.noPtr] at h
  | .strF .., _, _, h => by simpa only [R] using h
  | .intF .., _, _, h => by simpa only [R] using h
  | .strG .., _, _, h => by simpa only [R] using h
  | .any, _, h, _ => by simp [AV.noPtr] at h
theorem RL_noPtr {m m' : List Nat} : ∀ (l : List AV) {Vs : List Value}, AV.noPtrL l = true → RL m l Vs → RL m' l Vs
  | [], _, _, h => by simpa only [RL] using h
  | v :: l, _, hn, h => by
    obtain ⟨V, Vs', h1, h2, h3⟩ := RL_cons.1 h
    simp only [AV.noPtrL, Bool.and_eq_true] at hn
    exact RL_cons.2 ⟨V, Vs', h1, R_noPtr v hn.1 h2, RL_noPtr l hn.2 h3⟩
end

mutual
/-- A pointerless abstract value says all of a value. -/
theorem R_det {m m' : List Nat} : ∀ (v : AV) {V V' : Value}, v.noPtr = true → R m v V → R m' v V' → V = V'
  | .int .., _, _, _, h, h' => by simp only [R] at h h'; rw [h, h']
  | .bool _, _, _, _, h, h' => by simp only [R] at h h'; rw [h, h']
  | .str _, _, _, _, h, h' => by simp only [R] at h h'; rw [h, h']
  | .ptr .., _, _, h, _, _ => by simp [AV.noPtr] at h
  | .nilp, _, _, _, h, h' => by simp only [R] at h h'; rw [h, h']
  | .slice .., _, _, h, _, _ => by simp [AV.noPtr] at h
  | .nils, _, _, _, h, h' => by simp only [R] at h h'; rw [h, h']
  | .own .., _, _, h, _, _ => by simp [AV.noPtr] at h
  | .view .., _, _, h, _, _ => by simp [AV.noPtr] at h
  | .agg l, _, _, hn, h, h' => by
    simp only [R] at h h'; simp only [AV.noPtr] at hn
    obtain ⟨b, rfl, h2⟩ := h; obtain ⟨b', rfl, h2'⟩ := h'; rw [RL_det l hn h2 h2']
  | .tup l, _, _, hn, h, h' => by
    simp only [R] at h h'; simp only [AV.noPtr] at hn
    obtain ⟨b, rfl, h2⟩ := h; obtain ⟨b', rfl, h2'⟩ := h'; rw [RL_det l hn h2 h2']
  | .fn .., _, _, h, _, _ => by simp [AV.noPtr] at h
  | .nilfn, _, _, _, h, h' => by simp only [R] at h h'; rw [h, h']
  | .map _, _, _, h, _, _ => by simp [AV.noPtr] at h
  | .strF .., _, _, _, h, h' => by simp only [R] at h h'; rw [h.1, h'.1]
  | .intF .., _, _, _, h, h' => by simp only [R] at h h'; rw [h.1, h'.1]
  | .strG .., _, _, _, h, h' => by simp only [R] at h h'; rw [h.1, h'.1]
  | .any, _, _, h, _, _ => by simp [AV.noPtr] at h
theorem RL_det {m m' : List Nat} : ∀ (l : List AV) {Vs Vs' : List Value}, AV.noPtrL l = true → RL m l Vs → RL m' l Vs' → Vs = Vs'
  | [], _, _, _, h, h' => by simp only [RL] at h h'; rw [h, h']
  | v :: l, _, _, hn, h, h' => by
    obtain ⟨V, Vs1, rfl, h2, h3⟩ := RL_cons.1 h
    obtain ⟨V', Vs1', rfl, h2', h3'⟩ := RL_cons.1 h'
    simp only [AV.noPtrL, Bool.and_eq_true] at hn
    rw [R_det v hn.1 h2 h2', RL_det l hn.2 h3 h3']
end

theorem RL_len {m : List Nat} : ∀ {l : List AV} {Vs : List Value}, RL m l Vs → Vs.length = l.length
  | [], _, h => by rw [RL_nil.1 h]; rfl
  | _ :: _, _, h => by obtain ⟨V, Vs', rfl, _, h3⟩ := RL_cons.1 h; simp [RL_len h3]

theorem RL_get {m : List Nat} : ∀ {l : List AV} {Vs : List Value} {i : Nat} {v : AV}, RL m l Vs → l[i]? = some v → ∃ V, Vs[i]? = some V ∧ R m v V
  | [], _, _, _, _, hi => by simp at hi
  | v :: l, _, i, _, h, hi => by
    obtain ⟨V, Vs', rfl, h2, h3⟩ := RL_cons.1 h
    cases i with
    | zero => simp at hi; subst hi; exact ⟨V, by simp, h2⟩
    | succ i => simp at hi; obtain ⟨V1, h4, h5⟩ := RL_get h3 hi; exact ⟨V1, by simpa using h4, h5⟩

theorem RL_set {m : List Nat} {v : AV} {V : Value} (hv : R m v V) : ∀ {l : List AV} {Vs : List Value} (i : Nat), RL m l Vs → RL m (l.set i v) (Vs.set i V)
  | [], _, i, h => by rw [RL_nil.1 h]; simpa using RL_nil.2 rfl
  | u :: l, _, i, h => by
    obtain ⟨U, Vs', rfl, h2, h3⟩ := RL_cons.1 h
    cases i with
    | zero => exact RL.cons hv h3
    | succ i => exact RL.cons h2 (RL_set hv i h3)

theorem RL_append {m : List Nat} {l' : List AV} {Vs' : List Value} (h' : RL m l' Vs') : ∀ {l : List AV} {Vs : List Value}, RL m l Vs → RL m (l ++ l') (Vs ++ Vs')
  | [], _, h => by rw [RL_nil.1 h]; exact h'
  | u :: l, _, h => by obtain ⟨U, Vs1, rfl, h2, h3⟩ := RL_cons.1 h; exact RL.cons h2 (RL_append h' h3)

theorem RL_take {m : List Nat} : ∀ {l : List AV} {Vs : List Value} (i : Nat), RL m l Vs → RL m (l.take i) (Vs.take i)
  | [], _, i, h => by rw [RL_nil.1 h]; simpa using RL_nil.2 rfl
  | u :: l, _, i, h => by
    obtain ⟨U, Vs', rfl, h2, h3⟩ := RL_cons.1 h
    cases i with
    | zero => exact RL_nil.2 rfl
    | succ i => exact RL.cons h2 (RL_take i h3)

theorem RL_drop {m : List Nat} : ∀ {l : List AV} {Vs : List Value} (i : Nat), RL m l Vs → RL m (l.drop i) (Vs.drop i)
  | [], _, i, h => by rw [RL_nil.1 h]; simpa using RL_nil.2 rfl
  | u :: l, _, i, h => by
    cases i with
    | zero => exact h
    | succ i => obtain ⟨U, Vs', rfl, h2, h3⟩ := RL_cons.1 h; exact RL_drop i h3

/-- A map's key: a number, or two. -/
abbrev MK := Int × Int
def keyV (two : Bool) (k : MK) : Value := if two then .agg ⟨[.int .i64 k.1, .int .i64 k.2]⟩ else .int .i64 k.1
/-- Entries of a map. -/
def RE (m : List Nat) (two : Bool) : List (MK × AV) → List MapEntry → Prop
  | [], es => es = []
  | (k, v) :: l, es => ∃ e es', es = e :: es' ∧ e.key = keyV two k ∧ R m v e.val ∧ RE m two l es'
theorem RE_mono {m : List Nat} (x : List Nat) {two : Bool} : ∀ {l : List (MK × AV)} {es : List MapEntry}, RE m two l es → RE (m ++ x) two l es
  | [], _, h => h
  | (k, v) :: l, _, ⟨e, es', h1, h2, h3, h4⟩ => ⟨e, es', h1, h2, R_mono x v h3, RE_mono x h4⟩

theorem RE_flat {m m' : List Nat} {two : Bool} : ∀ {l : List (MK × AV)} {es : List MapEntry}, (∀ e ∈ l, e.2.noPtr = true) → RE m two l es → RE m' two l es
  | [], _, _, h => h
  | (k, v) :: l, _, hf, ⟨e, es', h1, h2, h3, h4⟩ => ⟨e, es', h1, h2, R_noPtr v (hf (k, v) (by simp)) h3, RE_flat (fun e he => hf e (by simp [he])) h4⟩

/-- Some numbers. -/
def numL (n : Nat) (h : Nat → Int) : List AV := (List.range n).map fun i => AV.int .i64 (h i)
/-- An abstract block: cells; a row that may grow, of which the begin is known (behind it in the numbering stands how many cells it has); a row that is only read; a map; nothing any more. -/
inductive AB where
  | cells (l : List AV) (t : TypeId)
  | row (l : List AV) (t : TypeId)
  | ro (l : List AV) (t : TypeId)
  | map (two : Bool) (es : List (MK × AV))
  | cst (l : List AV) (t : TypeId)
  | tab (f : Nat → List AV) (k n : Nat) (t : TypeId)
  | rowz (z : Nat) (l : List AV) (t : TypeId)
  | mapN (n : Nat) (g : Int → Nat → Int) (p : Int → Bool)
  | tabO (ob : Obj) (o0 : Nat) (f : Nat → List AV) (k n : Nat) (t : TypeId)
  | bts (n : Nat) (g : Nat → Int) (t : TypeId)
  | dead

def RB (m : List Nat) : AB → Obj → Prop
  | .cells l t, o => ∃ Vs, o = .cells ⟨Vs⟩ t (0, 0) ∧ RL m l Vs
  | .row l t, o => ∃ Vs, o = .cells ⟨Vs⟩ t (0, 0) ∧ l.length ≤ Vs.length ∧ RL m l (Vs.take l.length)
  | .ro l t, o => ∃ Vs fz, o = .cells ⟨Vs⟩ t fz ∧ (l.length ≤ Vs.length ∧ l.length ≤ fz.1) ∧ RL m l (Vs.take l.length)
  | .map two es, o => ∃ ess clock es', o = .map ⟨ess⟩ clock ∧ es'.Perm es ∧ RE m two es' ess ∧ (es.map Prod.fst).Nodup ∧ (two = false → ∀ e ∈ es, e.1.2 = 0)
  | .cst l t, o => ∃ Vs, o = .cells ⟨Vs⟩ t (0, 0) ∧ RL m l Vs
  | .tab f k n t, o => ∃ Vs fz, o = .cells ⟨Vs⟩ t fz ∧ ∀ i, i < n → i * k + k ≤ Vs.length ∧ (f i).length = k ∧ RL m (f i) ((Vs.drop (i * k)).take k)
  | .rowz _ l t, o => ∃ Vs, o = .cells ⟨Vs⟩ t (0, 0) ∧ l.length ≤ Vs.length ∧ RL m l (Vs.take l.length)
  | .mapN n g p, o => ∃ es ess clock es', o = .map ⟨ess⟩ clock ∧ es'.Perm es ∧ RE m false es' ess ∧ (es.map Prod.fst).Nodup ∧ (∀ e ∈ es, e.1.2 = 0) ∧ (∀ e ∈ es, e.2.noPtr = true) ∧ ∀ k : Int, (p k = true → ((k, 0), AV.agg (numL n (g k))) ∈ es) ∧ (p k = false → ∀ e ∈ es, e.1 ≠ (k, 0))
  | .tabO ob o0 f k n t, o => o = ob ∧ ∃ Vs fz, o = .cells ⟨Vs⟩ t fz ∧ ∀ i, i < n → o0 + i * k + k ≤ Vs.length ∧ (f i).length = k ∧ RL m (f i) ((Vs.drop (o0 + i * k)).take k)
  | .bts n g t, o => ∃ Vs fz, o = .cells ⟨Vs⟩ t fz ∧ (n ≤ Vs.length ∧ n ≤ fz.1) ∧ ∀ i, i < n → Vs[i]? = some (.int .u8 (g i))
  | .dead, _ => True

theorem RB_mono {m : List Nat} (x : List Nat) {B : AB} {o : Obj} (h : RB m B o) : RB (m ++ x) B o := by
  cases B with
  | cells l t => obtain ⟨Vs, h1, h2⟩ := h; exact ⟨Vs, h1, RL_mono x l h2⟩
  | row l t => obtain ⟨Vs, h1, h0, h2⟩ := h; exact ⟨Vs, h1, h0, RL_mono x l h2⟩
  | ro l t => obtain ⟨Vs, fz, h1, h0, h2⟩ := h; exact ⟨Vs, fz, h1, h0, RL_mono x l h2⟩
  | map two es => obtain ⟨ess, c, es', h1, h0, h2, h3⟩ := h; exact ⟨ess, c, es', h1, h0, RE_mono x h2, h3⟩
  | cst l t => obtain ⟨Vs, h1, h2⟩ := h; exact ⟨Vs, h1, RL_mono x l h2⟩
  | tab f k n t => obtain ⟨Vs, fz, h1, h2⟩ := h; exact ⟨Vs, fz, h1, fun i hi => ⟨(h2 i hi).1, (h2 i hi).2.1, RL_mono x _ (h2 i hi).2.2⟩⟩
  | rowz z l t => obtain ⟨Vs, h1, h0, h2⟩ := h; exact ⟨Vs, h1, h0, RL_mono x l h2⟩
  | mapN n g p => obtain ⟨es, ess, c, es', h1, h0, h2, h3⟩ := h; exact ⟨es, ess, c, es', h1, h0, RE_mono x h2, h3⟩
  | tabO ob o0 f k n t => obtain ⟨h0, Vs, fz, h1, h2⟩ := h; exact ⟨h0, Vs, fz, h1, fun i hi => ⟨(h2 i hi).1, (h2 i hi).2.1, RL_mono x _ (h2 i hi).2.2⟩⟩
  | bts n g t => exact h
  | dead => trivial

def AB.live : AB → Bool
  | .dead => false
  | _ => true
/-- Behind a row's number stands how many cells it has. -/
def capAt (m : List Nat) (i b : Nat) (o : Obj) : AB → Prop
  | .row _ _ => ∀ cs t fz, o = .cells cs t fz → m[i + 1]? = some (b + cs.size)
  | .rowz z _ _ => ∀ cs t fz, o = .cells cs t fz → ∃ c, m[i + 1]? = some (b + c) ∧ cs.size = c * z
  | _ => True
theorem capAt_mono {m : List Nat} (x : List Nat) {i b : Nat} {o : Obj} {B : AB} (h : capAt m i b o B) : capAt (m ++ x) i b o B := by
  cases B with
  | row l t => exact fun cs t fz e => get_mono x (h cs t fz e)
  | rowz z l t => exact fun cs t fz e => (h cs t fz e).imp fun c h => ⟨get_mono x h.1, h.2⟩
  | _ => trivial

/-- What an abstract heap says of a world. -/
structure HR (m : List Nat) (H : List AB) (w : World) : Prop where
  len : m.length = H.length
  nodup : ∀ (i j b : Nat) (B C : AB), m[i]? = some b → m[j]? = some b → H[i]? = some B → H[j]? = some C → B.live = true → C.live = true → i = j
  all : ∀ (i : Nat) (B : AB), H[i]? = some B → B.live = true → ∃ (b : Nat) (o : Obj), m[i]? = some b ∧ w.heap[b]? = some o ∧ RB m B o ∧ capAt m i b o B

theorem HR.at_ {m : List Nat} {H : List AB} {w : World} (h : HR m H w) (i : Nat) {B : AB} (hB : H[i]? = some B) (hl : B.live = true := by rfl) : ∃ (b : Nat) (o : Obj), m[i]? = some b ∧ w.heap[b]? = some o ∧ RB m B o := by
  obtain ⟨b, o, h1, h2, h3, _⟩ := h.all i B hB hl
  exact ⟨b, o, h1, h2, h3⟩

/-- What may have become of a world: the blocks of m aside nothing that was there has turned; new blocks have come. -/
structure Ext (m : List Nat) (w : World) (m' : List Nat) (w' : World) : Prop where
  pre : ∃ x, m' = m ++ x ∧ ∀ b ∈ x, w.heap.size ≤ b ∨ b ∈ m
  os : w'.os = w.os
  tape : w'.tape = w.tape
  output : w'.output = w.output
  size : w.heap.size ≤ w'.heap.size
  block : ∀ k, k < w.heap.size → k ∉ m → w'.heap[k]? = w.heap[k]?

theorem Ext.refl (m : List Nat) (w : World) : Ext m w m w := ⟨⟨[], by simp⟩, rfl, rfl, rfl, Nat.le_refl _, fun _ _ _ => rfl⟩

theorem Ext.trans {m m1 m2 : List Nat} {w w1 w2 : World} (h : Ext m w m1 w1) (k : Ext m1 w1 m2 w2) : Ext m w m2 w2 := by
  obtain ⟨x, hx, hxs⟩ := h.pre
  obtain ⟨y, hy, hys⟩ := k.pre
  refine ⟨⟨x ++ y, by rw [hy, hx, List.append_assoc], ?_⟩, k.os.trans h.os, k.tape.trans h.tape, k.output.trans h.output, Nat.le_trans h.size k.size, ?_⟩
  · intro b hb
    rcases List.mem_append.1 hb with hb | hb
    · exact hxs b hb
    · rcases hys b hb with h1 | h1
      · exact .inl (Nat.le_trans h.size h1)
      · rw [hx] at h1
        rcases List.mem_append.1 h1 with h1 | h1
        · exact .inr h1
        · exact hxs b h1
  · intro i hi hm
    rw [k.block i (Nat.lt_of_lt_of_le hi h.size) ?_, h.block i hi hm]
    rw [hx]
    intro hmem
    rcases List.mem_append.1 hmem with hmem | hmem
    · exact hm hmem
    · rcases hxs i hmem with h1 | h1
      · omega
      · exact hm h1

theorem Ext.drewN {m m' : List Nat} {w w' : World} (h : Ext m w m' w') (n : Nat) : Ext m w m' (w'.drewN n) := ⟨h.pre, h.os, h.tape, h.output, h.size, h.block⟩

theorem Ext.R {m m' : List Nat} {w w' : World} (h : Ext m w m' w') {v : AV} {V : Value} (hv : R m v V) : R m' v V := by
  obtain ⟨x, hx, _⟩ := h.pre; rw [hx]; exact R_mono x v hv
theorem Ext.RL {m m' : List Nat} {w w' : World} (h : Ext m w m' w') {l : List AV} {Vs : List Value} (hv : RL m l Vs) : RL m' l Vs := by
  obtain ⟨x, hx, _⟩ := h.pre; rw [hx]; exact RL_mono x l hv

theorem HR.drewN {m : List Nat} {H : List AB} {w : World} (h : HR m H w) (n : Nat) : HR m H (w.drewN n) := ⟨h.len, h.nodup, h.all⟩

theorem HR.lt {m : List Nat} {H : List AB} {w : World} (h : HR m H w) {i b : Nat} {B : AB} (hb : m[i]? = some b) (hB : H[i]? = some B) (hl : B.live = true) : b < w.heap.size := by
  obtain ⟨b', o, h1, h2, _⟩ := h.all i B hB hl
  rw [hb] at h1
  cases h1
  exact (Array.getElem?_eq_some_iff.1 h2).1

theorem get_append_cases {α : Type} {l x : List α} {i : Nat} {a : α} (h : (l ++ x)[i]? = some a) : (i < l.length ∧ l[i]? = some a) ∨ (l.length ≤ i ∧ x[i - l.length]? = some a) := by
  rcases Nat.lt_or_ge i l.length with hi | hi
  · rw [List.getElem?_append_left hi] at h; exact .inl ⟨hi, h⟩
  · rw [List.getElem?_append_right hi] at h; exact .inr ⟨hi, h⟩

/-- New blocks in a grown world: what was known stays known. -/
theorem HR.grow {m : List Nat} {H : List AB} {w w' : World} (h : HR m H w) {x : List Nat} {X : List AB} (hx : x.length = X.length)
    (hw : ∀ (i k : Nat) (A : AB), m[i]? = some k → H[i]? = some A → A.live = true → w'.heap[k]? = w.heap[k]?)
    (hfresh : ∀ (j b : Nat) (B : AB), x[j]? = some b → X[j]? = some B → B.live = true → ∀ (i : Nat) (A : AB), m[i]? = some b → H[i]? = some A → A.live = true → False)
    (hnd : ∀ (i j b : Nat) (B C : AB), x[i]? = some b → x[j]? = some b → X[i]? = some B → X[j]? = some C → B.live = true → C.live = true → i = j)
    (hall : ∀ (j : Nat) (B : AB), X[j]? = some B → B.live = true → ∃ (b : Nat) (o : Obj), x[j]? = some b ∧ w'.heap[b]? = some o ∧ RB (m ++ x) B o ∧ capAt (m ++ x) (H.length + j) b o B) : HR (m ++ x) (H ++ X) w' := by
  refine ⟨by simp [h.len, hx], ?_, ?_⟩
  · intro i j b B C h1 h2 h3 h4 h5 h6
    rcases get_append_cases h3 with ⟨i1, h3⟩ | ⟨i1, h3⟩ <;> rcases get_append_cases h4 with ⟨j1, h4⟩ | ⟨j1, h4⟩
    · rw [List.getElem?_append_left (by rw [h.len]; exact i1)] at h1
      rw [List.getElem?_append_left (by rw [h.len]; exact j1)] at h2
      exact h.nodup i j b B C h1 h2 h3 h4 h5 h6
    · rw [List.getElem?_append_left (by rw [h.len]; exact i1)] at h1
      rw [List.getElem?_append_right (by rw [h.len]; exact j1), h.len] at h2
      exact (hfresh _ _ _ h2 h4 h6 _ _ h1 h3 h5).elim
    · rw [List.getElem?_append_right (by rw [h.len]; exact i1), h.len] at h1
      rw [List.getElem?_append_left (by rw [h.len]; exact j1)] at h2
      exact (hfresh _ _ _ h1 h3 h5 _ _ h2 h4 h6).elim
    · rw [List.getElem?_append_right (by rw [h.len]; exact i1), h.len] at h1
      rw [List.getElem?_append_right (by rw [h.len]; exact j1), h.len] at h2
      have := hnd _ _ b B C h1 h2 h3 h4 h5 h6
      omega
  · intro i B hB hl
    rcases get_append_cases hB with ⟨i1, h3⟩ | ⟨i1, h3⟩
    · obtain ⟨b, o, e1, e2, e3, e4⟩ := h.all i B h3 hl
      exact ⟨b, o, get_mono _ e1, by rw [hw i b B e1 h3 hl]; exact e2, RB_mono _ e3, capAt_mono _ e4⟩
    · obtain ⟨b, o, e1, e2, e3, e4⟩ := hall _ B h3 hl
      refine ⟨b, o, by rw [List.getElem?_append_right (by rw [h.len]; exact i1), h.len]; exact e1, e2, e3, ?_⟩
      have : H.length + (i - H.length) = i := by omega
      rw [this] at e4
      exact e4

/-- A new block. -/
theorem HR.push {m : List Nat} {H : List AB} {w : World} (h : HR m H w) {l : List AV} {t : TypeId} {o : Obj} (hB : RB m (.cells l t) o) : HR (m ++ [w.heap.size]) (H ++ [.cells l t]) (w.alloc o) := by
  refine h.grow rfl (fun i k A hk hA hl => ?_) ?_ ?_ ?_
  · have := h.lt hk hA hl
    show (w.heap.push o)[k]? = _
    rw [Array.getElem?_push, if_neg (by omega)]
  · intro j b B h1 _ _ i A h2 h3 h4
    have := h.lt h2 h3 h4
    cases j with
    | zero => simp at h1; omega
    | succ j => simp at h1
  · intro i j b B C h1 h2 _ _ _ _
    cases i with
    | zero =>
      cases j with
      | zero => rfl
      | succ j => simp at h2
    | succ i => simp at h1
  · intro j B hB' _
    cases j with
    | zero =>
      simp at hB'
      subst hB'
      exact ⟨w.heap.size, o, rfl, by show (w.heap.push o)[w.heap.size]? = _; rw [Array.getElem?_push, if_pos rfl], RB_mono _ hB, trivial⟩
    | succ j => simp at hB'

/-- A new row, with its count of cells behind it in the numbering. -/
theorem HR.pushRow {m : List Nat} {H : List AB} {w : World} (h : HR m H w) {l : List AV} {t : TypeId} {Vs : List Value} (h0 : l.length ≤ Vs.length) (hl : RL m l (Vs.take l.length)) :
    HR (m ++ [w.heap.size, w.heap.size + Vs.length]) (H ++ [.row l t, .dead]) (w.alloc (.cells ⟨Vs⟩ t (0, 0))) := by
  refine h.grow rfl (fun i k A hk hA hl => ?_) ?_ ?_ ?_
  · have := h.lt hk hA hl
    show (w.heap.push _)[k]? = _
    rw [Array.getElem?_push, if_neg (by omega)]
  · intro j b B h1 h2 h3 i A h4 h5 h6
    have := h.lt h4 h5 h6
    rcases j with _ | _ | j
    · simp at h1; omega
    · simp at h2; subst h2; cases h3
    · simp at h1
  · intro i j b B C h1 h2 h3 h4 h5 h6
    rcases i with _ | _ | i
    · rcases j with _ | _ | j
      · rfl
      · simp at h4; subst h4; cases h6
      · simp at h2
    · simp at h3; subst h3; cases h5
    · simp at h1
  · intro j B hB' hlv
    rcases j with _ | _ | j
    · simp at hB'
      subst hB'
      refine ⟨w.heap.size, .cells ⟨Vs⟩ t (0, 0), rfl, by show (w.heap.push _)[w.heap.size]? = _; rw [Array.getElem?_push, if_pos rfl], ⟨Vs, rfl, h0, RL_mono _ _ hl⟩, ?_⟩
      intro cs t' fz e
      cases e
      rw [List.getElem?_append_right (by rw [h.len]; omega)]
      have : H.length + 0 + 1 - m.length = 1 := by rw [h.len]; omega
      rw [this]; rfl
    · simp at hB'; subst hB'; cases hlv
    · simp at hB'

/-- A new row, its elements of z cells. -/
theorem HR.pushRowz {m : List Nat} {H : List AB} {w : World} (h : HR m H w) {z c : Nat} {l : List AV} {t : TypeId} {Vs : List Value} (h0 : l.length ≤ Vs.length) (hl : RL m l (Vs.take l.length)) (hc : Vs.length = c * z) :
    HR (m ++ [w.heap.size, w.heap.size + c]) (H ++ [.rowz z l t, .dead]) (w.alloc (.cells ⟨Vs⟩ t (0, 0))) := by
  refine h.grow rfl (fun i k A hk hA hl => ?_) ?_ ?_ ?_
  · have := h.lt hk hA hl
    show (w.heap.push _)[k]? = _
    rw [Array.getElem?_push, if_neg (by omega)]
  · intro j b B h1 h2 h3 i A h4 h5 h6
    have := h.lt h4 h5 h6
    rcases j with _ | _ | j
    · simp at h1; omega
    · simp at h2; subst h2; cases h3
    · simp at h1
  · intro i j b B C h1 h2 h3 h4 h5 h6
    rcases i with _ | _ | i
    · rcases j with _ | _ | j
      · rfl
      · simp at h4; subst h4; cases h6
      · simp at h2
    · simp at h3; subst h3; cases h5
    · simp at h1
  · intro j B hB' hlv
    rcases j with _ | _ | j
    · simp at hB'
      subst hB'
      refine ⟨w.heap.size, .cells ⟨Vs⟩ t (0, 0), rfl, by show (w.heap.push _)[w.heap.size]? = _; rw [Array.getElem?_push, if_pos rfl], ⟨Vs, rfl, h0, RL_mono _ _ hl⟩, ?_⟩
      intro cs t' fz e
      cases e
      refine ⟨c, ?_, hc⟩
      rw [List.getElem?_append_right (by rw [h.len]; omega)]
      have : H.length + 0 + 1 - m.length = 1 := by rw [h.len]; omega
      rw [this]; rfl
    · simp at hB'; subst hB'; cases hlv
    · simp at hB'

/-- A new row that is only read. -/
theorem HR.pushRo {m : List Nat} {H : List AB} {w w' : World} (h : HR m H w) {l : List AV} {t : TypeId} {Vs : List Value} {fz : Nat × Nat} (h0 : l.length ≤ Vs.length) (hfz : l.length ≤ fz.1) (hl : RL m l (Vs.take l.length)) {c : Nat}
    (hw : ∀ k, k < w.heap.size → w'.heap[k]? = w.heap[k]?) (hn : w'.heap[w.heap.size]? = some (.cells ⟨Vs⟩ t fz)) :
    HR (m ++ [w.heap.size, w.heap.size + c]) (H ++ [.ro l t, .dead]) w' := by
  refine h.grow rfl (fun i k A hk hA hl => hw k (h.lt hk hA hl)) ?_ ?_ ?_
  · intro j b B h1 h2 h3 i A h4 h5 h6
    have := h.lt h4 h5 h6
    rcases j with _ | _ | j
    · simp at h1; omega
    · simp at h2; subst h2; cases h3
    · simp at h1
  · intro i j b B C h1 h2 h3 h4 h5 h6
    rcases i with _ | _ | i
    · rcases j with _ | _ | j
      · rfl
      · simp at h4; subst h4; cases h6
      · simp at h2
    · simp at h3; subst h3; cases h5
    · simp at h1
  · intro j B hB' hlv
    rcases j with _ | _ | j
    · simp at hB'
      subst hB'
      exact ⟨w.heap.size, _, rfl, hn, ⟨Vs, fz, rfl, ⟨h0, hfz⟩, RL_mono _ _ hl⟩, trivial⟩
    · simp at hB'; subst hB'; cases hlv
    · simp at hB'

theorem Ext.grown {m0 m : List Nat} {w0 w w' : World} (h : Ext m0 w0 m w) {x : List Nat} (hx : ∀ b ∈ x, w.heap.size ≤ b) (hos : w'.os = w.os) (ht : w'.tape = w.tape) (ho : w'.output = w.output) (hs : w.heap.size ≤ w'.heap.size)
    (hw : ∀ k, k < w.heap.size → w'.heap[k]? = w.heap[k]?) : Ext m0 w0 (m ++ x) w' :=
  h.trans ⟨⟨x, rfl, fun b hb => .inl (hx b hb)⟩, hos, ht, ho, hs, fun k hk _ => hw k hk⟩

theorem Ext.push {m0 m : List Nat} {w0 w : World} (h : Ext m0 w0 m w) (o : Obj) : Ext m0 w0 (m ++ [w.heap.size]) (w.alloc o) := by
  refine h.trans ⟨⟨[w.heap.size], rfl, by simp⟩, rfl, rfl, rfl, ?_, ?_⟩
  · show _ ≤ (w.heap.push o).size
    simp
  · intro k hk _
    show (w.heap.push o)[k]? = _
    rw [Array.getElem?_push, if_neg (by omega)]

/-- A block's object is replaced. -/
theorem HR.put {m : List Nat} {H : List AB} {w : World} (h : HR m H w) {i b : Nat} {A : AB} (hb : m[i]? = some b) (hA : H[i]? = some A) (hAl : A.live = true) {B : AB} {o : Obj} (hB : RB m B o) (hcap : capAt m i b o B) {w' : World}
    (hat : w'.heap[b]? = some o) (hrest : ∀ k, k ≠ b → w'.heap[k]? = w.heap[k]?) : HR m (H.set i B) w' := by
  have live : ∀ {j : Nat} {C : AB}, (H.set i B)[j]? = some C → C.live = true → ∃ D, H[j]? = some D ∧ D.live = true := fun {j C} hC hl => by
    by_cases hij : i = j
    · subst hij; exact ⟨A, hA, hAl⟩
    · rw [List.getElem?_set_ne hij] at hC; exact ⟨C, hC, hl⟩
  refine ⟨by simp [h.len], ?_, ?_⟩
  · intro j k c C D h1 h2 h3 h4 h5 h6
    obtain ⟨C', c1, c2⟩ := live h3 h5
    obtain ⟨D', d1, d2⟩ := live h4 h6
    exact h.nodup j k c C' D' h1 h2 c1 d1 c2 d2
  · intro j C hC hl
    by_cases hij : i = j
    · subst hij
      have hlt : i < (H.set i B).length := (List.getElem?_eq_some_iff.1 hC).1
      simp at hlt
      simp [List.getElem?_set, hlt] at hC
      subst hC
      exact ⟨b, o, hb, hat, hB, hcap⟩
    · rw [List.getElem?_set_ne hij] at hC
      obtain ⟨b', o', h1, h2, h3, h4⟩ := h.all j C hC hl
      refine ⟨b', o', h1, ?_, h3, h4⟩
      rw [hrest b' (fun e => hij (h.nodup i j b A C hb (e ▸ h1) hA hC hAl hl))]
      exact h2

/-- A block is forgotten. -/
theorem HR.kill {m : List Nat} {H : List AB} {w : World} (h : HR m H w) (i : Nat) : HR m (H.set i .dead) w := by
  have live : ∀ {j : Nat} {C : AB}, (H.set i .dead)[j]? = some C → C.live = true → H[j]? = some C := fun {j C} hC hl => by
    by_cases hij : i = j
    · subst hij
      have hlt : i < (H.set i AB.dead).length := (List.getElem?_eq_some_iff.1 hC).1
      simp at hlt
      simp [List.getElem?_set, hlt] at hC
      subst hC; cases hl
    · rw [List.getElem?_set_ne hij] at hC; exact hC
  exact ⟨by simp [h.len], fun j k c C D h1 h2 h3 h4 h5 h6 => h.nodup j k c C D h1 h2 (live h3 h5) (live h4 h6) h5 h6, fun j C hC hl => h.all j C (live hC hl) hl⟩

/-- A row that has grown where it lies. -/
theorem HR.moveRow {m : List Nat} {H : List AB} {w w' : World} (h : HR m H w) {i b : Nat} {A : AB} (hb : m[i]? = some b) (hA : H[i]? = some A) (hAl : A.live = true) {l : List AV} {t : TypeId} {Vs : List Value}
    (h0 : l.length ≤ Vs.length) (hl : RL m l (Vs.take l.length)) (hat : w'.heap[b]? = some (.cells ⟨Vs⟩ t (0, 0))) (hrest : ∀ k, k ≠ b → w'.heap[k]? = w.heap[k]?) :
    HR (m ++ [b, b + Vs.length]) (H.set i .dead ++ [.row l t, .dead]) w' := by
  have old : ∀ (j : Nat) (C : AB), (H.set i .dead)[j]? = some C → C.live = true → H[j]? = some C ∧ j ≠ i := fun j C hC hl => by
    by_cases hij : i = j
    · subst hij
      have hlt : i < (H.set i AB.dead).length := (List.getElem?_eq_some_iff.1 hC).1
      simp at hlt
      simp [hlt] at hC
      subst hC; cases hl
    · rw [List.getElem?_set_ne hij] at hC; exact ⟨hC, fun e => hij e.symm⟩
  have apart : ∀ (j : Nat) (C : AB), m[j]? = some b → (H.set i .dead)[j]? = some C → C.live = true → False := fun j C h1 h2 h3 => by
    obtain ⟨h4, h5⟩ := old j C h2 h3
    exact h5 (h.nodup j i b C A h1 hb h4 hA h3 hAl)
  refine (h.kill i).grow rfl (fun j k C hk hC hl => hrest k (fun e => by subst e; exact apart j C hk hC hl)) ?_ ?_ ?_
  · intro j c B h1 h2 h3 k C h4 h5 h6
    rcases j with _ | _ | j
    · simp at h1; subst h1; exact apart k C h4 h5 h6
    · simp at h2; subst h2; cases h3
    · simp at h1
  · intro i j b B C h1 h2 h3 h4 h5 h6
    rcases i with _ | _ | i
    · rcases j with _ | _ | j
      · rfl
      · simp at h4; subst h4; cases h6
      · simp at h2
    · simp at h3; subst h3; cases h5
    · simp at h1
  · intro j B hB' hlv
    rcases j with _ | _ | j
    · simp at hB'
      subst hB'
      refine ⟨b, _, rfl, hat, ⟨Vs, rfl, h0, RL_mono _ _ hl⟩, ?_⟩
      intro cs t' fz e
      cases e
      rw [List.getElem?_append_right (by rw [h.len]; simp)]
      have : (H.set i AB.dead).length + 0 + 1 - m.length = 1 := by rw [h.len]; simp
      rw [this]; rfl
    · simp at hB'; subst hB'; cases hlv
    · simp at hB'

theorem HR.moveRowz {m : List Nat} {H : List AB} {w w' : World} (h : HR m H w) {i b : Nat} {A : AB} (hb : m[i]? = some b) (hA : H[i]? = some A) (hAl : A.live = true) {z c : Nat} {l : List AV} {t : TypeId} {Vs : List Value}
    (h0 : l.length ≤ Vs.length) (hl : RL m l (Vs.take l.length)) (hat : w'.heap[b]? = some (.cells ⟨Vs⟩ t (0, 0))) (hrest : ∀ k, k ≠ b → w'.heap[k]? = w.heap[k]?) (hc : Vs.length = c * z) :
    HR (m ++ [b, b + c]) (H.set i .dead ++ [.rowz z l t, .dead]) w' := by
  have old : ∀ (j : Nat) (C : AB), (H.set i .dead)[j]? = some C → C.live = true → H[j]? = some C ∧ j ≠ i := fun j C hC hl => by
    by_cases hij : i = j
    · subst hij
      have hlt : i < (H.set i AB.dead).length := (List.getElem?_eq_some_iff.1 hC).1
      simp at hlt
      simp [hlt] at hC
      subst hC; cases hl
    · rw [List.getElem?_set_ne hij] at hC; exact ⟨hC, fun e => hij e.symm⟩
  have apart : ∀ (j : Nat) (C : AB), m[j]? = some b → (H.set i .dead)[j]? = some C → C.live = true → False := fun j C h1 h2 h3 => by
    obtain ⟨h4, h5⟩ := old j C h2 h3
    exact h5 (h.nodup j i b C A h1 hb h4 hA h3 hAl)
  refine (h.kill i).grow rfl (fun j k C hk hC hl => hrest k (fun e => by subst e; exact apart j C hk hC hl)) ?_ ?_ ?_
  · intro j c B h1 h2 h3 k C h4 h5 h6
    rcases j with _ | _ | j
    · simp at h1; subst h1; exact apart k C h4 h5 h6
    · simp at h2; subst h2; cases h3
    · simp at h1
  · intro i j b B C h1 h2 h3 h4 h5 h6
    rcases i with _ | _ | i
    · rcases j with _ | _ | j
      · rfl
      · simp at h4; subst h4; cases h6
      · simp at h2
    · simp at h3; subst h3; cases h5
    · simp at h1
  · intro j B hB' hlv
    rcases j with _ | _ | j
    · simp at hB'
      subst hB'
      refine ⟨b, _, rfl, hat, ⟨Vs, rfl, h0, RL_mono _ _ hl⟩, ?_⟩
      intro cs t' fz e
      cases e
      refine ⟨c, ?_, hc⟩
      rw [List.getElem?_append_right (by rw [h.len]; simp)]
      have : (H.set i AB.dead).length + 0 + 1 - m.length = 1 := by rw [h.len]; simp
      rw [this]; rfl
    · simp at hB'; subst hB'; cases hlv
    · simp at hB'

theorem Ext.put {m0 m : List Nat} {w0 w : World} (h : Ext m0 w0 m w) {i b : Nat} (hb : m[i]? = some b) {w' : World}
    (hs : w'.heap.size = w.heap.size) (hos : w'.os = w.os) (ht : w'.tape = w.tape) (ho : w'.output = w.output) (hrest : ∀ k, k ≠ b → w'.heap[k]? = w.heap[k]?) : Ext m0 w0 m w' := by
  refine h.trans ⟨⟨[], by simp⟩, hos, ht, ho, by omega, ?_⟩
  intro k _ hk
  exact hrest k (fun e => hk (e ▸ List.mem_of_getElem? hb))

end Go.Proofs.YtdojnnlhaiennaaGreat.Ae

/- The interpreter's operations that touch no memory, and that they are the model's. Conditions: none. -/
namespace Go.Proofs.YtdojnnlhaiennaaGreat.Ae
open Go

/-! ### Integers -/
def w64 (n : Int) : Int := (n + 9223372036854775808) % 18446744073709551616 - 9223372036854775808
def wr : IntKind → Int → Int
  | .i64, n => w64 n
  | .u64, n => n % 18446744073709551616
  | .i32, n => (n + 2147483648) % 4294967296 - 2147483648
  | .u32, n => n % 4294967296
  | .i16, n => (n + 32768) % 65536 - 32768
  | .u16, n => n % 65536
  | .i8, n => (n + 128) % 256 - 128
  | .u8, n => n % 256

theorem wr_eq (k : IntKind) (n : Int) : k.wrap n = wr k n := by
  cases k <;> simp [IntKind.wrap, IntKind.signed, IntKind.bits, wr, w64] <;> (try split) <;> omega

/-- The bits of two numbers, met by or, and, xor. -/
def bor (k : IntKind) (x y : Int) : Int := k.wrap (BitVec.ofInt k.bits x ||| BitVec.ofInt k.bits y).toNat
def band (k : IntKind) (x y : Int) : Int := k.wrap (BitVec.ofInt k.bits x &&& BitVec.ofInt k.bits y).toNat
def bxor (k : IntKind) (x y : Int) : Int := k.wrap (BitVec.ofInt k.bits x ^^^ BitVec.ofInt k.bits y).toNat

def p2 (n : Nat) : Int := ((2 ^ n : Nat) : Int)
theorem p2_eq (n : Nat) : (2 : Int) ^ n = p2 n := by simp [p2]

/-! ### The frame's temporaries -/
def get : List (Nat × AV) → Nat → AV
  | [], _ => .any
  | (j, v) :: T, i => bif Nat.beq j i then v else get T i

def TR (m : List Nat) (n : Nat) (T : List (Nat × AV)) (tmps : Array Value) : Prop := tmps.size = n ∧ ∀ i, R m (get T i) (tmps.getD i undef)

theorem TR.put {m : List Nat} {n : Nat} {T : List (Nat × AV)} {tmps : Array Value} (h : TR m n T tmps) {d : Nat} (hd : d < n) {v : AV} {V : Value} (hv : R m v V) :
    TR m n ((d, v) :: T) (tmps.setIfInBounds d V) := by
  refine ⟨by simp [h.1], fun i => ?_⟩
  unfold get
  by_cases e : d = i
  · subst e
    have : Nat.beq d d = true := by simp [Nat.beq_refl]
    rw [this]
    simp only [cond_true]
    have hs : d < tmps.size := h.1 ▸ hd
    simpa [hs] using hv
  · have : Nat.beq d i = false := by
      rw [← Bool.not_eq_true]; intro hh; exact e (Nat.eq_of_beq_eq_true hh)
    rw [this]
    simp only [cond_false]
    have h2 := h.2 i
    simpa [Array.getElem?_setIfInBounds_ne e] using h2

theorem TR.mono {m : List Nat} {n : Nat} {T : List (Nat × AV)} {tmps : Array Value} (x : List Nat) (h : TR m n T tmps) : TR (m ++ x) n T tmps :=
  ⟨h.1, fun i => R_mono x _ (h.2 i)⟩

/-! ### Constants and operands -/
def cAV0 : Value → AV
  | .int k n => .int k n
  | .bool b => .bool b
  | .string s => .str s
  | .pointer none => .nilp
  | .slice none 0 0 => .nils
  | .nilFunc => .nilfn
  | _ => .any
def cAV : Value → AV
  | .agg cs => .agg (cs.toList.map cAV0)
  | v => cAV0 v

theorem R_int (m : List Nat) (k : IntKind) (n : Int) : R m (.int k n) (.int k n) := by simp [R]
theorem R_bool (m : List Nat) (b : Bool) : R m (.bool b) (.bool b) := by simp [R]
theorem R_str (m : List Nat) (b : ByteArray) : R m (.str b) (.string b) := by simp [R]
theorem R_cAV0 (m : List Nat) (v : Value) : R m (cAV0 v) v := by
  unfold cAV0; split <;> simp [R]
theorem RL_cAV0 (m : List Nat) : ∀ l : List Value, RL m (l.map cAV0) l
  | [] => RL_nil.2 rfl
  | v :: l => RL.cons (R_cAV0 m v) (RL_cAV0 m l)
theorem R_cAV (m : List Nat) (v : Value) : R m (cAV v) v := by
  unfold cAV; split
  · rename_i cs; simp only [R]; exact ⟨cs.toList, by simp, RL_cAV0 m _⟩
  · exact R_cAV0 m v

def ev (T : List (Nat × AV)) : Operand → AV
  | .tmp t => get T t
  | .const v => cAV v
  | .func f => .fn f []
  | .global _ => .any

theorem R_ev {m : List Nat} {n : Nat} {T : List (Nat × AV)} {a : Act} (h : TR m n T a.tmps) (x : Operand) : R m (ev T x) (a.eval x) := by
  cases x with
  | tmp t => exact h.2 t
  | const v => exact R_cAV m v
  | func f => simp only [ev, R, Act.eval]; exact ⟨[], rfl, RL_nil.2 rfl⟩
  | global g => simp only [ev, R]

/-! ### Cells -/
def cellsOf? : AV → Option (List AV)
  | .agg l => some l
  | .any => none
  | v => some [v]

theorem R_cells {m : List Nat} {v : AV} {V : Value} (h : R m v V) {l : List AV} (hl : cellsOf? v = some l) : RL m l V.cells.toList := by
  cases v <;> simp only [cellsOf?, Option.some.injEq, reduceCtorEq] at hl <;> subst hl <;> simp only [R] at h
  case agg => obtain ⟨Vs, rfl, hh⟩ := h; simpa [Value.cells] using hh
  case strF => obtain ⟨rfl, h⟩ := h; exact RL.cons (by simp only [R]; exact ⟨trivial, h⟩) (RL_nil.2 rfl)
  case strG => obtain ⟨rfl, h⟩ := h; exact RL.cons (by simp only [R]; exact ⟨trivial, h⟩) (RL_nil.2 rfl)
  case intF => obtain ⟨rfl, h⟩ := h; exact RL.cons (by simp only [R]; exact ⟨trivial, h⟩) (RL_nil.2 rfl)
  all_goals first
    | (subst h; exact RL.cons (by simp [R]) (RL_nil.2 rfl))
    | (obtain ⟨b, hb, rfl⟩ := h; exact RL.cons (by simp only [R]; exact ⟨b, hb, rfl⟩) (RL_nil.2 rfl))
    | (obtain ⟨b, rfl, hb⟩ := h; exact RL.cons (by simp only [R]; exact ⟨b, rfl, hb⟩) (RL_nil.2 rfl))
    | (obtain ⟨b, c, h1, h2, h3, rfl⟩ := h; exact RL.cons (by simp only [R]; exact ⟨b, c, h1, h2, h3, rfl⟩) (RL_nil.2 rfl))
    | (obtain ⟨b, c, h1, rfl⟩ := h; exact RL.cons (by simp only [R]; exact ⟨b, c, h1, rfl⟩) (RL_nil.2 rfl))

def isAggA (P : Program) (t : TypeId) : Option Bool :=
  match P.underlying t with
  | some (.struct _) | some (.array _ _) => some true
  | some _ => some false
  | none => none
def sizeA (P : Program) (t : TypeId) : Option Nat := (P.info? t).map (·.size)
def zeroA (P : Program) (t : TypeId) : Option AV := ((P.info? t).bind (·.zero)).map cAV

theorem run_isAgg {P : Program} {t : TypeId} {b : Bool} (h : isAggA P t = some b) (w : World) : (isAgg t).run P w = .ok b w := by
  unfold isAggA at h
  cases hu : P.underlying t with
  | none => simp [hu] at h
  | some d => cases d <;> simp [hu] at h <;> subst h <;> simp [isAgg, run_underlying hu]
theorem run_sizeA {P : Program} {t : TypeId} {n : Nat} (h : sizeA P t = some n) (w : World) : (sizeOf t).run P w = .ok n w := by
  unfold sizeA at h
  obtain ⟨i, hi, rfl⟩ := Option.map_eq_some_iff.1 h
  rw [run_sizeOf (w := w) hi]; simp [Program.cellsOf, hi]
theorem run_zeroA {P : Program} {t : TypeId} {v : AV} (h : zeroA P t = some v) (m : List Nat) : ∃ V, (∀ w, (zeroValue t).run P w = .ok V w) ∧ R m v V := by
  unfold zeroA at h
  obtain ⟨z, hz, rfl⟩ := Option.map_eq_some_iff.1 h
  obtain ⟨i, hi, hz⟩ := Option.bind_eq_some_iff.1 hz
  exact ⟨z, fun w => by simp [zeroValue, run_typeInfo w hi, hz], R_cAV m z⟩

def partA (P : Program) (t : TypeId) (cs : List AV) (off : Nat) : Option AV :=
  match isAggA P t with
  | some true => match sizeA P t with
    | some n => some (.agg ((cs.drop off).take n))
    | none => none
  | some false => cs[off]?
  | none => none

theorem RL_extract {m : List Nat} {l : List AV} {cs : Array Value} (h : RL m l cs.toList) (off n : Nat) : RL m ((l.drop off).take n) (cs.extract off (off + n)).toList := by
  have := RL_take n (RL_drop off h)
  rw [Array.toList_extract]
  simpa [List.extract_eq_take_drop] using this

theorem run_partA {P : Program} {t : TypeId} {m : List Nat} {l : List AV} {cs : Array Value} (h : RL m l cs.toList) {off : Nat} {v : AV} (hv : partA P t l off = some v) :
    ∃ V, (∀ w, (part t cs off).run P w = .ok V w) ∧ R m v V := by
  unfold partA at hv
  split at hv
  · rename_i ha
    split at hv
    · rename_i n hn
      cases hv
      refine ⟨.agg (cs.extract off (off + n)), fun w => by simp [part, run_isAgg ha, run_sizeA hn], ?_⟩
      simp only [R]
      exact ⟨_, rfl, RL_extract h off n⟩
    · cases hv
  · rename_i ha
    obtain ⟨V, h1, h2⟩ := RL_get h hv
    have h1' : cs[off]? = some V := by simpa using h1
    exact ⟨V, fun w => by simp [part, run_isAgg ha, h1'], h2⟩
  · cases hv

/-! ### Writing parts into cells -/
def setL : List AV → Nat → List AV → List AV
  | cs, _, [] => cs
  | cs, off, c :: l => setL (cs.set off c) (off + 1) l

theorem RL_setL {m : List Nat} : ∀ {l : List AV} {Vs : List Value}, RL m l Vs → ∀ (off k : Nat) {cs : List AV} {Cs : Array Value}, RL m cs Cs.toList →
    RL m (setL cs (off + k) l) ((Vs.zipIdx k).foldl (fun cs (c, j) => cs.setIfInBounds (off + j) c) Cs).toList
  | [], _, h, off, k, cs, Cs, hc => by rw [RL_nil.1 h]; simpa [setL] using hc
  | v :: l, _, h, off, k, cs, Cs, hc => by
    obtain ⟨V, Vs', rfl, h2, h3⟩ := RL_cons.1 h
    simp only [setL, List.zipIdx_cons, List.foldl_cons]
    have := RL_setL h3 off (k + 1) (cs := cs.set (off + k) v) (Cs := Cs.setIfInBounds (off + k) V) (by
      rw [Array.toList_setIfInBounds]; exact RL_set h2 _ hc)
    simpa [Nat.add_assoc] using this

def fillA (place : Nat → Option (Nat × Nat)) (cells : List AV) : List (Nat × AV) → Option (List AV)
  | [] => some cells
  | (i, v) :: rest =>
    match place i, cellsOf? v with
    | some (off, size), some l => bif (Nat.beq l.length size && Nat.ble (off + l.length) cells.length) then fillA place (setL cells off l) rest else none
    | _, _ => none

/-- Parts that stand for parts. -/
def RP (m : List Nat) : List (Nat × AV) → List (Nat × Value) → Prop
  | [], Ps => Ps = []
  | (i, v) :: ps, Ps => ∃ V Ps', Ps = (i, V) :: Ps' ∧ R m v V ∧ RP m ps Ps'

theorem RP_map {m : List Nat} {f : Operand → AV} {g : Operand → Value} (h : ∀ x, R m (f x) (g x)) : ∀ l : List (Nat × Operand), RP m (l.map fun (i, x) => (i, f x)) (l.map fun (i, x) => (i, g x))
  | [] => rfl
  | (i, x) :: l => ⟨g x, _, rfl, h x, RP_map h l⟩

theorem fillA_ok {m : List Nat} {place : Nat → Option (Nat × Nat)} : ∀ {ps : List (Nat × AV)} {Ps : List (Nat × Value)} {cs : List AV} {Cs : Array Value} {l : List AV},
    RP m ps Ps → RL m cs Cs.toList → fillA place cs ps = some l → ∃ L, Instr.fill place Cs Ps = some L ∧ RL m l L.toList
  | [], Ps, cs, Cs, l, hp, hc, h => by
    cases hp; simp only [fillA, Option.some.injEq] at h; subst h; exact ⟨Cs, rfl, hc⟩
  | (i, v) :: ps, Ps, cs, Cs, l, hp, hc, h => by
    obtain ⟨V, Ps', rfl, hv, hps⟩ := hp
    simp only [fillA] at h
    split at h
    · rename_i off size lv hpl hcv
      cases hb : (Nat.beq lv.length size && Nat.ble (off + lv.length) cs.length) with
      | false => rw [hb] at h; cases h
      | true =>
        rw [hb] at h
        simp only [cond_true] at h
        simp only [Bool.and_eq_true] at hb
        have e1 := Nat.eq_of_beq_eq_true hb.1
        have e2 := Nat.le_of_ble_eq_true hb.2
        have hcl := R_cells hv hcv
        have n1 : V.cells.size = lv.length := by have := RL_len hcl; simpa using this
        have n2 : Cs.size = cs.length := by have := RL_len hc; simpa using this
        have hset := RL_setL hcl off 0 hc
        simp only [Nat.add_zero] at hset
        obtain ⟨L, hL, hR⟩ := fillA_ok hps hset h
        refine ⟨L, ?_, hR⟩
        simp only [Instr.fill, hpl, n1, n2]
        rw [if_neg (by simp [e1]; omega)]
        rw [← hL]
        congr 1
        rw [← Array.foldl_toList]
        simp
    · cases h

/-! ### Comparisons and arithmetic -/
section
variable {ρ : Type}

def abinI (op : BinOp) (k : IntKind) (x y : Int) (K : AV → Option ρ) : Option ρ :=
  match op with
  | .add => K (.int k (wr k (x + y)))
  | .sub => K (.int k (wr k (x - y)))
  | .mul => K (.int k (wr k (x * y)))
  | .quo => bif y == 0 then none else K (.int k (wr k (x.tdiv y)))
  | .rem => bif y == 0 then none else K (.int k (x.tmod y))
  | .and => K (.int k (band k x y))
  | .or => K (.int k (bor k x y))
  | .xor => K (.int k (bxor k x y))
  | .eql => K (.bool (x == y))
  | .neq => K (.bool (x != y))
  | .lss => K (.bool (decide (x < y)))
  | .leq => K (.bool (decide (x ≤ y)))
  | .gtr => K (.bool (decide (x > y)))
  | .geq => K (.bool (decide (x ≥ y)))
  | _ => none

def ashift (left : Bool) (k : IntKind) (x y : Int) (K : AV → Option ρ) : Option ρ :=
  bif decide (y < 0) then none else bif left then K (.int k (wr k (x * p2 (min y.toNat k.bits)))) else K (.int k (x / p2 (min y.toNat k.bits)))

/-- Equality of two values of one type, where it can be told. -/
def aeq (P : Program) : Nat → TypeId → AV → AV → Option Bool
  | 0, _, _, _ => none
  | d + 1, t, x, y =>
    match P.underlying t, x, y with
    | some .bool, .bool a, .bool b => some (a == b)
    | some (.int _), .int k a, .int k' b => if k = k' then some (a == b) else none
    | some .string, .str a, .str b => some (a == b)
    | some (.pointer _), .nilp, .nilp => some true
    | some (.pointer _), .nilp, .ptr .. => some false
    | some (.pointer _), .ptr .., .nilp => some false
    | some (.func ..), .nilfn, .nilfn => some true
    | some (.func ..), .nilfn, .fn .. => some false
    | some (.func ..), .fn .., .nilfn => some false
    | some (.slice _), .nils, .nils => some true
    | some (.slice _), .slice .., .nils => some false
    | some (.slice _), .nils, .slice .. => some false
    | some (.struct fs), .agg xs, .agg ys => if P.stoodInHeld t then none else aeqFields (aeq P d) P xs ys fs.toList
    | some (.array n e), .agg xs, .agg ys => match sizeA P e with
      | some sz => aeqItems (aeq P d) P xs ys e sz n 0
      | none => none
    | _, _, _ => none
where
  aeqFields (rec : TypeId → AV → AV → Option Bool) (P : Program) (xs ys : List AV) : List Field → Option Bool
    | [] => some true
    | f :: fs =>
      if f.name ≠ "_" then
        match partA P f.type xs f.offset, partA P f.type ys f.offset with
        | some a, some b => match rec f.type a b with
          | some r => match aeqFields rec P xs ys fs with
            | some s => some (r && s)
            | none => none
          | none => none
        | _, _ => none
      else aeqFields rec P xs ys fs
  aeqItems (rec : TypeId → AV → AV → Option Bool) (P : Program) (xs ys : List AV) (e : TypeId) (sz : Nat) : Nat → Nat → Option Bool
    | 0, _ => some true
    | n + 1, i =>
      match partA P e xs (i * sz), partA P e ys (i * sz) with
      | some a, some b => match rec e a b with
        | some r => match aeqItems rec P xs ys e sz n (i + 1) with
          | some s => some (r && s)
          | none => none
        | none => none
      | _, _ => none

/-- Nothing in the way of a comparison (the model's own guard at values that are aggregates). -/
def eqFree (P : Program) (t : TypeId) : AV → Bool
  | .agg _ => !P.eqGuardType P.depth t
  | _ => true

/-- Of a kind that == compares by the model's general equality. -/
def plainEq : AV → Bool
  | .bool _ | .ptr .. | .nilp | .fn .. | .nilfn | .slice .. | .nils | .agg _ => true
  | _ => false

def abin (P : Program) (op : BinOp) (t : TypeId) (x y : AV) (K : AV → Option ρ) : Option ρ :=
  match x, y with
  | .int k a, .int k' b =>
    match op with
    | .shl => ashift true k a b K
    | .shr => ashift false k a b K
    | op => if k = k' then abinI op k a b K else none
  | .intF k a lo hi ex, .int k' b =>
    if k = k' then
      match op with
      | .neq => bif ex.any (fun c => c == b) then K (.bool true) else K (.bool (a != b))
      | .eql => bif ex.any (fun c => c == b) then K (.bool false) else K (.bool (a == b))
      | .lss => bif lo.any (fun l => decide (b ≤ l)) then K (.bool false) else bif hi.any (fun l => decide (l < b)) then K (.bool true) else K (.bool (decide (a < b)))
      | .gtr => bif lo.any (fun l => decide (b < l)) then K (.bool true) else bif hi.any (fun l => decide (l ≤ b)) then K (.bool false) else K (.bool (decide (a > b)))
      | _ => none
    else none
  | .int k b, .intF k' a _ _ ex =>
    if k = k' then
      match op with
      | .neq => bif ex.any (fun c => c == b) then K (.bool true) else K (.bool (b != a))
      | .eql => bif ex.any (fun c => c == b) then K (.bool false) else K (.bool (b == a))
      | _ => none
    else none
  | .str a, .str b =>
    match op with
    | .eql => K (.bool (a == b))
    | .neq => K (.bool (!(a == b)))
    | .add => bif decide (a.size + b.size ≤ 4611686018427387904) then K (.str (a ++ b)) else none
    | _ => none
  | x, y =>
    match op with
    | .eql => bif plainEq x && eqFree P t x then match aeq P 10000 t x y with
      | some b => K (.bool b)
      | none => none else none
    | .neq => bif plainEq x && eqFree P t x then match aeq P 10000 t x y with
      | some b => K (.bool (!b))
      | none => none else none
    | _ => none

def aun (op : UnOp) (x : AV) : Option AV :=
  match op, x with
  | .neg, .int k n => some (.int k (wr k (0 - n)))
  | .not, .bool b => some (.bool (!b))
  | _, _ => none

end
end Go.Proofs.YtdojnnlhaiennaaGreat.Ae

/- The interpreter's comparisons and arithmetic are the model's. Conditions: none. -/
namespace Go.Proofs.YtdojnnlhaiennaaGreat.Ae
open Go

theorem aeqFields_ok {P : Program} {m : List Nat} {d : Nat} (ih : ∀ t x y b, aeq P d t x y = some b → ∀ X Y, R m x X → R m y Y → ∀ w, (Op.equalIn d t X Y).run P w = .ok b w)
    {xs ys : List AV} {Xs Ys : Array Value} (hx : RL m xs Xs.toList) (hy : RL m ys Ys.toList) : ∀ (fs : List Field) (b : Bool), aeq.aeqFields (aeq P d) P xs ys fs = some b →
    ∀ w, (Op.eqFields d Xs Ys fs).run P w = .ok b w
  | [], b, h, w => by simp only [aeq.aeqFields, Option.some.injEq] at h; subst h; simp [Op.eqFields]
  | f :: fs, b, h, w => by
    simp only [aeq.aeqFields] at h
    by_cases hn : f.name ≠ "_"
    · rw [if_pos hn] at h
      split at h
      · rename_i a c ha hc
        split at h
        · rename_i r hr
          split at h
          · rename_i s hs
            cases h
            obtain ⟨A, hA, hAR⟩ := run_partA hx ha
            obtain ⟨C, hC, hCR⟩ := run_partA hy hc
            have h1 := ih _ _ _ _ hr A C hAR hCR
            have h2 := aeqFields_ok ih hx hy fs s hs
            simp only [Op.eqFields, if_pos hn, Sem.run_bind, hA, hC, h1, Result.andThen_ok]
            cases r
            · simp
            · simpa using h2 w
          · cases h
        · cases h
      · cases h
    · rw [if_neg hn] at h
      simp only [Op.eqFields, if_neg hn]
      exact aeqFields_ok ih hx hy fs b h w

theorem aeqItems_ok {P : Program} {m : List Nat} {d : Nat} (ih : ∀ t x y b, aeq P d t x y = some b → ∀ X Y, R m x X → R m y Y → ∀ w, (Op.equalIn d t X Y).run P w = .ok b w)
    {xs ys : List AV} {Xs Ys : Array Value} (hx : RL m xs Xs.toList) (hy : RL m ys Ys.toList) (e : TypeId) (sz : Nat) : ∀ (n i : Nat) (b : Bool), aeq.aeqItems (aeq P d) P xs ys e sz n i = some b →
    ∀ w, (Op.eqItems d e sz Xs Ys (List.range' i n)).run P w = .ok b w
  | 0, i, b, h, w => by simp only [aeq.aeqItems, Option.some.injEq] at h; subst h; simp [Op.eqItems]
  | n + 1, i, b, h, w => by
    simp only [aeq.aeqItems] at h
    split at h
    · rename_i a c ha hc
      split at h
      · rename_i r hr
        split at h
        · rename_i s hs
          cases h
          obtain ⟨A, hA, hAR⟩ := run_partA hx ha
          obtain ⟨C, hC, hCR⟩ := run_partA hy hc
          have h1 := ih _ _ _ _ hr A C hAR hCR
          have h2 := aeqItems_ok ih hx hy e sz n (i + 1) s hs
          simp only [List.range'_succ, Op.eqItems, Sem.run_bind, hA, hC, h1, Result.andThen_ok]
          cases r
          · simp
          · simpa using h2 w
        · cases h
      · cases h
    · cases h

theorem aeq_ok {P : Program} {m : List Nat} : ∀ (d : Nat) (t : TypeId) (x y : AV) (b : Bool), aeq P d t x y = some b → ∀ X Y, R m x X → R m y Y → ∀ w, (Op.equalIn d t X Y).run P w = .ok b w
  | 0, t, x, y, b, h, _, _, _, _, _ => by simp [aeq] at h
  | d + 1, t, x, y, b, h, X, Y, hX, hY, w => by
    have ih := aeq_ok (P := P) (m := m) d
    unfold aeq at h
    split at h
    all_goals (try (rename_i hu; simp only [R] at hX hY))
    case h_1 => cases h; subst hX; subst hY; simp [Op.equalIn, run_underlying hu]
    case h_2 => split at h <;> cases h; subst hX; subst hY; simp [Op.equalIn, run_underlying hu, *]
    case h_3 => cases h; subst hX; subst hY; simp [Op.equalIn, run_underlying hu]
    case h_4 => cases h; subst hX; subst hY; simp [Op.equalIn, run_underlying hu]
    case h_5 => cases h; subst hX; obtain ⟨_, _, rfl⟩ := hY; simp [Op.equalIn, run_underlying hu]
    case h_6 => cases h; subst hY; obtain ⟨_, _, rfl⟩ := hX; simp [Op.equalIn, run_underlying hu]
    case h_7 => cases h; subst hX; subst hY; simp [Op.equalIn, run_underlying hu]
    case h_8 => cases h; subst hX; obtain ⟨_, rfl, _⟩ := hY; simp [Op.equalIn, run_underlying hu]
    case h_9 => cases h; subst hY; obtain ⟨_, rfl, _⟩ := hX; simp [Op.equalIn, run_underlying hu]
    case h_10 => cases h; subst hX; subst hY; simp [Op.equalIn, run_underlying hu]
    case h_11 => cases h; subst hY; obtain ⟨_, _, rfl⟩ := hX; simp [Op.equalIn, run_underlying hu]
    case h_12 => cases h; subst hX; obtain ⟨_, _, rfl⟩ := hY; simp [Op.equalIn, run_underlying hu]
    case h_13 fs xs ys =>
      split at h
      · cases h
      · rename_i hs
        obtain ⟨Vx, rfl, hx⟩ := hX
        obtain ⟨Vy, rfl, hy⟩ := hY
        have hf : P.fieldsOf t = fs := by simp [Program.fieldsOf, hu]
        rw [run_equalIn_struct w d t _ _ (by rw [hf]; exact hu) (by simpa using hs), hf]
        exact aeqFields_ok ih (by simpa using hx) (by simpa using hy) fs.toList b h w
    case h_14 n e xs ys =>
      split at h
      · rename_i sz hsz
        obtain ⟨Vx, rfl, hx⟩ := hX
        obtain ⟨Vy, rfl, hy⟩ := hY
        obtain ⟨i, hi, rfl⟩ := Option.map_eq_some_iff.1 hsz
        rw [run_equalIn_array w d _ _ hu hi, List.range_eq_range']
        have hc : P.cellsOf e = i.size := by simp [Program.cellsOf, hi]
        rw [hc]
        exact aeqItems_ok ih (by simpa using hx) (by simpa using hy) e i.size n 0 b h w
      · cases h
    case h_15 => cases h

theorem eqFree_ok {P : Program} {m : List Nat} {t : TypeId} {x : AV} {X Y : Value} (hx : R m x X) (h : eqFree P t x = true) (hn : x ≠ .any) (op : BinOp) (p q : Operand) (w : World) :
    (eqGuard op t p q X Y).run P w = .ok () w := by
  cases x <;> simp only [R] at hx
  case any => exact absurd rfl hn
  case agg =>
    obtain ⟨Vs, rfl, _⟩ := hx
    simp only [eqFree, Bool.not_eq_true'] at h
    cases Y <;> cases op <;> simp [eqGuard, run_program, h]
  all_goals first
    | (subst hx; cases op <;> cases Y <;> simp [eqGuard])
    | (obtain ⟨rfl, _, _⟩ := hx; cases op <;> cases Y <;> simp [eqGuard])
    | (obtain ⟨_, _, rfl⟩ := hx; cases op <;> cases Y <;> simp [eqGuard])
    | (obtain ⟨_, rfl, _⟩ := hx; cases op <;> cases Y <;> simp [eqGuard])
    | (obtain ⟨_, _, _, _, _, rfl⟩ := hx; cases op <;> cases Y <;> simp [eqGuard])
    | (obtain ⟨_, _, _, rfl⟩ := hx; cases op <;> cases Y <;> simp [eqGuard])

section
variable {ρ : Type}

theorem abinI_ok {P : Program} {m : List Nat} {op : BinOp} {k : IntKind} {x y : Int} {K : AV → Option ρ} {r : ρ} (t : TypeId) (h : abinI op k x y K = some r) :
    ∃ v V, K v = some r ∧ R m v V ∧ ∀ w, (binOp op t (.int k x) (.int k y)).run P w = .ok V w := by
  cases op <;> simp only [abinI] at h
  case quo =>
    cases hy : (y == 0) with
    | true => rw [hy] at h; cases h
    | false =>
      rw [hy] at h
      refine ⟨_, .int k (wr k (x.tdiv y)), h, by simp [R], fun w => ?_⟩
      have : y ≠ 0 := by simpa using hy
      simp [binOp, Op.intDiv, this, wr_eq]
  case rem =>
    cases hy : (y == 0) with
    | true => rw [hy] at h; cases h
    | false =>
      rw [hy] at h
      refine ⟨_, .int k (x.tmod y), h, by simp [R], fun w => ?_⟩
      have : y ≠ 0 := by simpa using hy
      simp [binOp, Op.intDiv, this]
  all_goals first
    | (cases h; done)
    | (refine ⟨_, _, h, (by first | exact R_int _ _ _ | exact R_bool _ _), fun w => ?_⟩; simp [binOp, Op.intArith, Op.intBits, Op.intCmp, wr_eq, band, bor, bxor])

theorem ashift_ok {P : Program} {m : List Nat} {left : Bool} {k k' : IntKind} {x y : Int} {K : AV → Option ρ} {r : ρ} (t : TypeId) (h : ashift left k x y K = some r) :
    ∃ v V, K v = some r ∧ R m v V ∧ ∀ w, (binOp (if left then .shl else .shr) t (.int k x) (.int k' y)).run P w = .ok V w := by
  unfold ashift at h
  by_cases hy : y < 0
  · simp [hy] at h
  · rw [decide_eq_false hy] at h
    simp only [cond_false] at h
    cases left with
    | true =>
      simp only [cond_true] at h
      refine ⟨_, _, h, R_int _ _ _, fun w => ?_⟩
      simp [binOp, Op.shift, hy, wr_eq, p2_eq]
    | false =>
      simp only [cond_false] at h
      refine ⟨_, _, h, R_int _ _ _, fun w => ?_⟩
      have hp : (0 : Int) ≤ p2 (min y.toNat k.bits) := Int.natCast_nonneg _
      simp [binOp, Op.shift, hy, p2_eq, Int.fdiv_eq_ediv_of_nonneg _ hp]

theorem plain_eql {P : Program} {m : List Nat} {t : TypeId} {x : AV} {X Y : Value} (hx : R m x X) (hp : plainEq x = true) (w : World) {b : Bool} (he : (Op.equal t X Y).run P w = .ok b w) :
    (binOp .eql t X Y).run P w = .ok (.bool b) w ∧ (binOp .neq t X Y).run P w = .ok (.bool (!b)) w := by
  cases x <;> simp [plainEq] at hp <;> simp only [R] at hx
  all_goals first
    | (subst hx; constructor <;> simp [binOp, he]; done)
    | (obtain ⟨_, _, rfl⟩ := hx; constructor <;> simp [binOp, he]; done)
    | (obtain ⟨_, rfl, _⟩ := hx; constructor <;> simp [binOp, he]; done)

theorem any_eq {ex : List Int} {b : Int} (h : ex.any (fun c => c == b) = true) : b ∈ ex := by
  obtain ⟨c, hc, e⟩ := List.any_eq_true.1 h
  have : c = b := by simpa using e
  exact this ▸ hc
theorem abinI_run {P : Program} {op : BinOp} {k : IntKind} {x y : Int} {b : Bool} (t : TypeId) (h : abinI op k x y (fun v => some v) = some (AV.bool b)) (w : World) : (binOp op t (.int k x) (.int k y)).run P w = .ok (.bool b) w := by
  obtain ⟨v, V, h1, h2, h3⟩ := abinI_ok (P := P) (m := []) t h
  cases h1
  simp only [R] at h2
  rw [h3 w, h2]

theorem abin_ok {P : Program} {m : List Nat} {op : BinOp} {t : TypeId} {x y : AV} {X Y : Value} (hx : R m x X) (hy : R m y Y) {K : AV → Option ρ} {r : ρ} (h : abin P op t x y K = some r) (p q : Operand) :
    ∃ v V, K v = some r ∧ R m v V ∧ ∀ w, (do eqGuard op t p q X Y; binOp op t X Y : Sem Value).run P w = .ok V w := by
  unfold abin at h
  split at h
  · rename_i k a k' b
    simp only [R] at hx hy
    subst hx; subst hy
    have hg : ∀ w, (eqGuard op t p q (.int k a) (.int k' b)).run P w = .ok () w := fun w => by cases op <;> simp [eqGuard]
    split at h
    · obtain ⟨v, V, h1, h2, h3⟩ := ashift_ok (P := P) (m := m) (k' := k') t h
      exact ⟨v, V, h1, h2, fun w => by simp only [Sem.run_bind, hg, Result.andThen_ok]; exact h3 w⟩
    · obtain ⟨v, V, h1, h2, h3⟩ := ashift_ok (P := P) (m := m) (k' := k') t h
      exact ⟨v, V, h1, h2, fun w => by simp only [Sem.run_bind, hg, Result.andThen_ok]; exact h3 w⟩
    · split at h
      · rename_i hk
        subst hk
        obtain ⟨v, V, h1, h2, h3⟩ := abinI_ok (P := P) (m := m) t h
        exact ⟨v, V, h1, h2, fun w => by simp only [Sem.run_bind, hg, Result.andThen_ok]; exact h3 w⟩
      · cases h
  · rename_i k a lo hi ex k' b
    simp only [R] at hx hy
    obtain ⟨rfl, hlo, hex⟩ := hx
    subst hy
    have hg : ∀ w, (eqGuard op t p q (.int k a) (.int k' b)).run P w = .ok () w := fun w => by cases op <;> simp [eqGuard]
    split at h
    · rename_i hk
      subst hk
      have fin : ∀ (c : Bool), K (.bool c) = some r → abinI op k a b (fun v => some v) = some (AV.bool c) → ∃ v V, K v = some r ∧ R m v V ∧ ∀ w, (do eqGuard op t p q (.int k a) (.int k b); binOp op t (.int k a) (.int k b) : Sem Value).run P w = .ok V w := fun c hK hc =>
        ⟨.bool c, .bool c, hK, R_bool _ _, fun w => by simp only [Sem.run_bind, hg, Result.andThen_ok]; exact abinI_run t hc w⟩
      split at h
      · cases hb : ex.any (fun c => c == b) with
        | true =>
          rw [hb] at h
          exact fin true h (by simp only [abinI, Option.some.injEq, AV.bool.injEq]; simpa using hex b (any_eq hb))
        | false => rw [hb] at h; exact fin _ h rfl
      · cases hb : ex.any (fun c => c == b) with
        | true =>
          rw [hb] at h
          exact fin false h (by simp only [abinI, Option.some.injEq, AV.bool.injEq]; simpa using hex b (any_eq hb))
        | false => rw [hb] at h; exact fin _ h rfl
      · cases hb : lo.any (fun l => decide (b ≤ l)) with
        | true =>
          rw [hb] at h
          obtain ⟨l, hl, hl2⟩ := List.any_eq_true.1 hb
          have h1 := hlo.1 l hl
          have h2 := of_decide_eq_true hl2
          exact fin false h (by simp only [abinI, Option.some.injEq, AV.bool.injEq, decide_eq_false_iff_not]; omega)
        | false =>
          rw [hb] at h
          cases hb2 : hi.any (fun l => decide (l < b)) with
          | true =>
            rw [hb2] at h
            obtain ⟨l, hl, hl2⟩ := List.any_eq_true.1 hb2
            have h1 := hlo.2 l hl
            have h2 := of_decide_eq_true hl2
            exact fin true h (by simp only [abinI, Option.some.injEq, AV.bool.injEq, decide_eq_true_eq]; omega)
          | false => rw [hb2] at h; exact fin _ h rfl
      · cases hb : lo.any (fun l => decide (b < l)) with
        | true =>
          rw [hb] at h
          obtain ⟨l, hl, hl2⟩ := List.any_eq_true.1 hb
          have h1 := hlo.1 l hl
          have h2 := of_decide_eq_true hl2
          exact fin true h (by simp only [abinI, Option.some.injEq, AV.bool.injEq, decide_eq_true_eq]; omega)
        | false =>
          rw [hb] at h
          cases hb2 : hi.any (fun l => decide (l ≤ b)) with
          | true =>
            rw [hb2] at h
            obtain ⟨l, hl, hl2⟩ := List.any_eq_true.1 hb2
            have h1 := hlo.2 l hl
            have h2 := of_decide_eq_true hl2
            exact fin false h (by simp only [abinI, Option.some.injEq, AV.bool.injEq, decide_eq_false_iff_not]; omega)
          | false => rw [hb2] at h; exact fin _ h rfl
      · cases h
    · cases h
  · rename_i k b k' a lo hi ex
    simp only [R] at hx hy
    obtain ⟨rfl, hlo, hex⟩ := hy
    subst hx
    have hg : ∀ w, (eqGuard op t p q (.int k b) (.int k' a)).run P w = .ok () w := fun w => by cases op <;> simp [eqGuard]
    split at h
    · rename_i hk
      subst hk
      have fin : ∀ (c : Bool), K (.bool c) = some r → abinI op k b a (fun v => some v) = some (AV.bool c) → ∃ v V, K v = some r ∧ R m v V ∧ ∀ w, (do eqGuard op t p q (.int k b) (.int k a); binOp op t (.int k b) (.int k a) : Sem Value).run P w = .ok V w := fun c hK hc =>
        ⟨.bool c, .bool c, hK, R_bool _ _, fun w => by simp only [Sem.run_bind, hg, Result.andThen_ok]; exact abinI_run t hc w⟩
      split at h
      · cases hb : ex.any (fun c => c == b) with
        | true =>
          rw [hb] at h
          exact fin true h (by simp only [abinI, Option.some.injEq, AV.bool.injEq]; simpa using fun e => hex b (any_eq hb) e.symm)
        | false => rw [hb] at h; exact fin _ h rfl
      · cases hb : ex.any (fun c => c == b) with
        | true =>
          rw [hb] at h
          exact fin false h (by simp only [abinI, Option.some.injEq, AV.bool.injEq]; simpa using fun e => hex b (any_eq hb) e.symm)
        | false => rw [hb] at h; exact fin _ h rfl
      · cases h
    · cases h
  · rename_i a b
    simp only [R] at hx hy
    subst hx; subst hy
    have hg : ∀ w, (eqGuard op t p q (.string a) (.string b)).run P w = .ok () w := fun w => by cases op <;> simp [eqGuard]
    split at h
    · exact ⟨_, _, h, R_bool _ _, fun w => by simp only [Sem.run_bind, hg, Result.andThen_ok, beq_toListBytes]; simp [binOp, Op.stringOp]⟩
    · exact ⟨_, _, h, R_bool _ _, fun w => by simp only [Sem.run_bind, hg, Result.andThen_ok, beq_toListBytes]; simp [binOp, Op.stringOp]⟩
    · by_cases hs : a.size + b.size ≤ 4611686018427387904
      · rw [decide_eq_true hs] at h
        simp only [cond_true] at h
        refine ⟨_, _, h, R_str _ _, fun w => ?_⟩
        simp only [Sem.run_bind, hg, Result.andThen_ok]
        have : ¬ ((a.size + b.size : Nat) : Int) > IntKind.i64.max := by simp [IntKind.max, IntKind.signed, IntKind.bits]; omega
        simp only [binOp, Op.stringOp]
        rw [if_neg this]
        simp
      · rw [decide_eq_false hs] at h; cases h
    · cases h
  · split at h
    · cases hb : (plainEq x && eqFree P t x) with
      | false => rw [hb] at h; cases h
      | true =>
        rw [hb] at h
        simp only [Bool.and_eq_true] at hb
        simp only [cond_true] at h
        split at h
        · rename_i b haeq
          refine ⟨_, _, h, R_bool _ _, fun w => ?_⟩
          have hn : x ≠ .any := by intro e; subst e; simp [plainEq] at hb
          simp only [Sem.run_bind, eqFree_ok hx hb.2 hn, Result.andThen_ok]
          exact (plain_eql hx hb.1 w (aeq_ok (P := P) (m := m) 10000 t x y b haeq X Y hx hy w)).1
        · cases h
    · cases hb : (plainEq x && eqFree P t x) with
      | false => rw [hb] at h; cases h
      | true =>
        rw [hb] at h
        simp only [Bool.and_eq_true] at hb
        simp only [cond_true] at h
        split at h
        · rename_i b haeq
          refine ⟨_, _, h, R_bool _ _, fun w => ?_⟩
          have hn : x ≠ .any := by intro e; subst e; simp [plainEq] at hb
          simp only [Sem.run_bind, eqFree_ok hx hb.2 hn, Result.andThen_ok]
          exact (plain_eql hx hb.1 w (aeq_ok (P := P) (m := m) 10000 t x y b haeq X Y hx hy w)).2
        · cases h
    · cases h

theorem aun_ok {P : Program} {m : List Nat} {op : UnOp} {x v : AV} {X : Value} (hx : R m x X) (h : aun op x = some v) : ∃ V, R m v V ∧ ∀ w, (Op.unary op X).run P w = .ok V w := by
  unfold aun at h
  split at h <;> cases h <;> simp only [R] at hx <;> subst hx
  · exact ⟨_, R_int _ _ _, fun w => by simp [Op.unary, Op.intArith, wr_eq]⟩
  · exact ⟨_, R_bool _ _, fun w => by simp [Op.unary]⟩

end
end Go.Proofs.YtdojnnlhaiennaaGreat.Ae

/- The interpreter's operations, with and without memory, are the model's. Conditions: none. -/
namespace Go.Proofs.YtdojnnlhaiennaaGreat.Ae
open Go

/-- Comparisons of a number with a length, by its successors. -/
def ltN : Int → Nat → Bool
  | .ofNat k, n => Nat.ble (k + 1) n
  | .negSucc _, _ => false
def leN : Int → Nat → Bool
  | .ofNat k, n => Nat.ble k n
  | .negSucc _, _ => false
theorem ltN_ok {i : Int} {n : Nat} (h : ltN i n = true) : 0 ≤ i ∧ i < (n : Int) := by
  cases i with
  | ofNat k => have := Nat.le_of_ble_eq_true h; exact ⟨Int.natCast_nonneg _, by show (k : Int) < n; omega⟩
  | negSucc k => cases h
theorem leN_ok {i : Int} {n : Nat} (h : leN i n = true) : 0 ≤ i ∧ i ≤ (n : Int) := by
  cases i with
  | ofNat k => have := Nat.le_of_ble_eq_true h; exact ⟨Int.natCast_nonneg _, by show (k : Int) ≤ n; omega⟩
  | negSucc k => cases h
theorem ltN_of {i : Int} {n : Nat} (h0 : 0 ≤ i) (h1 : i < (n : Int)) : ltN i n = true := by
  cases i with
  | ofNat k => exact Nat.ble_eq_true_of_le (by have : (k : Int) < n := h1; omega)
  | negSucc k => omega
theorem leN_of {i : Int} {n : Nat} (h0 : 0 ≤ i) (h1 : i ≤ (n : Int)) : leN i n = true := by
  cases i with
  | ofNat k => exact Nat.ble_eq_true_of_le (by have : (k : Int) ≤ n := h1; omega)
  | negSucc k => omega

section
variable {ρ : Type}

/-- A bound of a slice expression. -/
def abound (x : Option AV) (dflt top : Nat) (K : Nat → Option ρ) : Option ρ :=
  match x with
  | none => K dflt
  | some (.int _ i) => bif leN i top then K i.toNat else none
  | some _ => none

/-- Operations whose answer hangs on their operands alone. -/
def apure (P : Program) (e : Operand → AV) (o : Op) (K : AV → Option ρ) : Option ρ :=
  match o with
  | .move x => K (e x)
  | .assign x => K (e x)
  | .pick c a b =>
    match e c with
    | .bool c =>
      match e a, e b with
      | .bool x, .bool y => K (.bool (bif c then x else y))
      | va, vb => bif c then K va else K vb
    | _ => none
  | .build t parts =>
    match zeroA P t, P.underlying t with
    | some z, some (.struct fs) =>
      match cellsOf? z with
      | some zc =>
        match fillA (fun i => (fs[i]?).bind fun f => (sizeA P f.type).map fun n => (f.offset, n)) zc (parts.toList.map fun (i, x) => (i, e x)) with
        | some cs => bif fs.all (fun f => (sizeA P f.type).isSome) then K (.agg cs) else none
        | none => none
      | none => none
    | some z, some (.array _ el) =>
      match cellsOf? z, sizeA P el with
      | some zc, some n =>
        match fillA (fun i => some (i * n, n)) zc (parts.toList.map fun (i, x) => (i, e x)) with
        | some cs => K (.agg cs)
        | none => none
      | _, _ => none
    | _, _ => none
  | .nilCheck x =>
    match e x with
    | .ptr i o => K (.ptr i o)
    | .fn f c => K (.fn f c)
    | _ => none
  | .binOp op t x y _ => abin P op t (e x) (e y) K
  | .unOp op _ x =>
    match aun op (e x) with
    | some v => K v
    | none => none
  | .convert src dst x =>
    match (P.underlying src).isSome, P.underlying dst, e x with
    | true, some (.int k), .int _ n => K (.int k (wr k n))
    | true, some .string, .str s => K (.str s)
    | _, _, _ => none
  | .makeFunc (.func f) first cap => bif first.isEmpty then K (.fn f (cap.toList.map e)) else none
  | .fieldAddr s x f =>
    match P.underlying s, e x with
    | some (.struct fs), .ptr i o =>
      match fs[f]? with
      | some fl =>
        match sizeA P fl.type with
        | some n => bif Nat.beq n 0 then none else K (.ptr i (o + fl.offset))
        | none => none
      | none => none
    | _, _ => none
  | .field t x f =>
    match P.underlying t, e x with
    | some (.struct fs), .agg cs =>
      match fs[f]? with
      | some fl =>
        match partA P fl.type cs fl.offset with
        | some v => K v
        | none => none
      | none => none
    | _, _ => none
  | .indexAddr t x ix =>
    match e ix with
    | .int _ i =>
      match P.underlying t, e x with
      | some (.array len el), .ptr b o =>
        match sizeA P el with
        | some n => bif decide (0 ≤ i) && decide (i < (len : Int)) then K (.ptr b (o + i.toNat * n)) else none
        | none => none
      | some (.slice el), .slice b o len _ =>
        match sizeA P el with
        | some n => bif decide (0 ≤ i) && decide (i < (len : Int)) then K (.ptr b (o + i.toNat * n)) else none
        | none => none
      | some (.slice el), .own b len =>
        match sizeA P el with
        | some n => bif decide (0 ≤ i) && decide (i < (len : Int)) then K (.ptr b (i.toNat * n)) else none
        | none => none
      | _, _ => none
    | _ => none
  | .index t x ix =>
    match e ix with
    | .int _ i =>
      match P.underlying t, e x with
      | some (.array len el), .agg cs =>
        match sizeA P el with
        | some n =>
          bif decide (0 ≤ i) && decide (i < (len : Int)) then
            match partA P el cs (i.toNat * n) with
            | some v => K v
            | none => none
          else none
        | none => none
      | some .string, .str s =>
        bif ltN i s.size then K (.int .u8 ((s.data.getD i.toNat 0).toNat : Int)) else none
      | some .string, .strG _ n g =>
        bif ltN i n then K (.int .u8 (g i.toNat)) else none
      | some .string, .strF _ lo g _ =>
        bif ltN i lo then K (.int .u8 (g i.toNat)) else none
      | _, _ => none
    | _ => none
  | .slice t x lo hi mx =>
    match mx with
    | some _ => none
    | none =>
      match P.underlying t, e x with
      | some .string, .str s => abound (hi.map e) s.size s.size fun h => abound (lo.map e) 0 h fun l => K (.str (s.extract l h))
      | some .string, .strG s n g => abound (hi.map e) n n fun h => abound (lo.map e) 0 h fun l => K (.strG (s.extract l h) (h - l) fun i => g (l + i))
      | some (.slice el), .slice b o len cap =>
        match sizeA P el with
        | some n => abound (hi.map e) len cap fun h => abound (lo.map e) 0 h fun l => bif Nat.beq cap l then none else K (.slice b (o + l * n) (h - l) (cap - l))
        | none => none
      | some (.array len el), .ptr b o =>
        match sizeA P el with
        | some n => abound (hi.map e) len len fun h => abound (lo.map e) 0 h fun l => bif Nat.beq len l then none else K (.slice b (o + l * n) (h - l) (len - l))
        | none => none
      | some (.slice el), .own b len =>
        match hi, sizeA P el with
        | none, some n => abound (lo.map e) 0 len fun l => bif Nat.ble (l + 1) len then K (.view b (l * n) (len - l)) else none
        | _, _ => none
      | _, _ => none
  | .sliceToArrayPointer t x =>
    match P.underlying t, e x with
    | some (.array n _), .slice b o len _ => bif Nat.ble n len then K (.ptr b o) else none
    | _, _ => none
  | .extract x i =>
    match e x with
    | .tup l =>
      match l[i]? with
      | some v => K v
      | none => none
    | _ => none
  | _ => none

theorem addr_add (b o n : Nat) : (⟨b, o, none⟩ : Addr).add n = ⟨b, o + n, none⟩ := by
  unfold Addr.add; split
  · subst_vars; rfl
  · rfl


theorem run_v {P : Program} {s : Sem Value} {V : Value} (h : ∀ w, s.run P w = .ok V w) (w : World) : (do pure (Next.value (← s)) : Sem Next).run P w = .ok (.value V) w := by
  simp only [Sem.run_bind, h, Result.andThen_ok]; simp

theorem run_bound {P : Program} {m : List Nat} {e : Operand → AV} {E : Operand → Value} (he : ∀ x, R m (e x) (E x)) {x : Option Operand} {dflt top : Nat} {K : Nat → Option ρ} {r : ρ}
    (h : abound (x.map e) dflt top K = some r) : ∃ n, K n = some r ∧ ∀ (code : BoundsCode) (w : World),
      (match x.map E with | some v => Instr.sliceBound v top code | none => pure dflt : Sem Nat).run P w = .ok n w := by
  cases x with
  | none => exact ⟨dflt, h, fun _ _ => by simp⟩
  | some x =>
    simp only [Option.map_some, abound] at h
    have hx := he x
    split at h
    · rename_i heq; cases heq
    · rename_i k i heq
      simp only [Option.some.injEq] at heq
      rw [heq] at hx
      simp only [R] at hx
      cases hb : leN i top with
      | false => rw [hb] at h; cases h
      | true =>
        rw [hb] at h
        have hb := leN_ok hb
        refine ⟨_, h, fun code w => ?_⟩
        simp [hx, Instr.sliceBound, asIntOf, hb.1, hb.2]
    · cases h

theorem run_bound_le {P : Program} {m : List Nat} {e : Operand → AV} {E : Operand → Value} (he : ∀ x, R m (e x) (E x)) {x : Option Operand} {dflt top : Nat} (hd : dflt ≤ top) {K : Nat → Option ρ} {r : ρ}
    (h : abound (x.map e) dflt top K = some r) : ∃ n, K n = some r ∧ n ≤ top ∧ ∀ (code : BoundsCode) (w : World),
      (match x.map E with | some v => Instr.sliceBound v top code | none => pure dflt : Sem Nat).run P w = .ok n w := by
  cases x with
  | none => exact ⟨dflt, h, hd, fun _ _ => by simp⟩
  | some x =>
    simp only [Option.map_some, abound] at h
    have hx := he x
    split at h
    · rename_i heq; cases heq
    · rename_i k i heq
      simp only [Option.some.injEq] at heq
      rw [heq] at hx
      simp only [R] at hx
      cases hb : leN i top with
      | false => rw [hb] at h; cases h
      | true =>
        rw [hb] at h
        have hb := leN_ok hb
        refine ⟨_, h, by omega, fun code w => ?_⟩
        simp [hx, Instr.sliceBound, asIntOf, hb.1, hb.2]
    · cases h
theorem run_bounds' {P : Program} {m : List Nat} {e : Operand → AV} {E : Operand → Value} (he : ∀ x, R m (e x) (E x)) {lo hi : Option Operand} {len : Nat} {K : Nat → Nat → Option ρ} {r : ρ}
    (h : abound (hi.map e) len len (fun h => abound (lo.map e) 0 h fun l => K h l) = some r) (isSlice : Bool) : ∃ h l, K h l = some r ∧ (∀ w,
      (Instr.sliceBounds isSlice len len (lo.map E) (hi.map E) none).run P w = .ok (l, h, len) w) ∧ l ≤ h ∧ h ≤ len := by
  obtain ⟨hh, h1, b1, h2⟩ := run_bound_le (P := P) he (Nat.le_refl _) h
  obtain ⟨l, h3, b2, h4⟩ := run_bound_le (P := P) he (Nat.zero_le _) h1
  refine ⟨hh, l, h3, fun w => ?_, b2, b1⟩
  have h2' := h2 (if isSlice then .sliceAcap else .sliceAlen) w
  have h4' := h4 .sliceB w
  unfold Instr.sliceBounds
  simp only [Sem.run_bind, Sem.run_pure, Result.andThen_ok]
  cases hi <;> cases lo <;> simp_all

theorem run_bounds {P : Program} {m : List Nat} {e : Operand → AV} {E : Operand → Value} (he : ∀ x, R m (e x) (E x)) {lo hi : Option Operand} {len cap : Nat} {K : Nat → Nat → Option ρ} {r : ρ}
    (h : abound (hi.map e) len cap (fun h => abound (lo.map e) 0 h fun l => K h l) = some r) (isSlice : Bool) : ∃ h l, K h l = some r ∧ ∀ w,
      (Instr.sliceBounds isSlice len cap (lo.map E) (hi.map E) none).run P w = .ok (l, h, cap) w := by
  obtain ⟨hh, h1, h2⟩ := run_bound (P := P) he h
  obtain ⟨l, h3, h4⟩ := run_bound (P := P) he h1
  refine ⟨hh, l, h3, fun w => ?_⟩
  have h2' := h2 (if isSlice then .sliceAcap else .sliceAlen) w
  have h4' := h4 .sliceB w
  unfold Instr.sliceBounds
  simp only [Sem.run_bind, Sem.run_pure, Result.andThen_ok]
  cases hi <;> cases lo <;> simp_all

theorem apure_ok {P : Program} {m : List Nat} {e : Operand → AV} {E : Operand → Value} (he : ∀ x, R m (e x) (E x)) {o : Oper} {K : AV → Option ρ} {r : ρ}
    (h : apure P e o.op K = some r) : ∃ v V, K v = some r ∧ R m v V ∧ ∀ w, (execOp E o).run P w = .ok (.value V) w := by
  obtain ⟨dst, op, type, pos, after, guard⟩ := o
  cases op <;> simp only [apure, reduceCtorEq] at h <;> (try (cases h; done)) <;> simp only [execOp]
  case move x => exact ⟨_, _, h, he x, fun w => by simp⟩
  case assign x => exact ⟨_, _, h, he x, fun w => by simp⟩
  case pick c a b =>
    have hc := he c
    have ha := he a
    have hb := he b
    split at h
    · rename_i c' hc'
      rw [hc'] at hc
      simp only [R] at hc
      split at h
      · rename_i x y hx hy
        rw [hx] at ha; rw [hy] at hb
        simp only [R] at ha hb
        refine ⟨_, .bool (bif c' then x else y), h, R_bool _ _, fun w => ?_⟩
        cases c' <;> simp [hc, ha, hb, asBool]
      · cases c' with
        | true => exact ⟨_, _, h, ha, fun w => by simp [hc, asBool]⟩
        | false => exact ⟨_, _, h, hb, fun w => by simp [hc, asBool]⟩
    · cases h
  case build t parts =>
    split at h
    · rename_i z fs hz hu
      obtain ⟨Z, hZ, hRZ⟩ := run_zeroA hz m
      split at h
      · rename_i zc hzc
        split at h
        · rename_i cs hcs
          cases hall : fs.all (fun f => (sizeA P f.type).isSome) with
          | false => rw [hall] at h; cases h
          | true =>
            rw [hall] at h
            simp only [cond_true] at h
            have hall' := Array.all_eq_true'.1 hall
            have hp := RP_map (m := m) he parts.toList
            obtain ⟨L, hL, hRL⟩ := fillA_ok hp (R_cells hRZ hzc) hcs
            refine ⟨_, .agg L, h, by simp only [R]; exact ⟨L.toList, rfl, hRL⟩, run_v fun w => ?_⟩
            have hm : ∀ (l : List Field) (w : World), (∀ f ∈ l, (sizeA P f.type).isSome = true) → (l.mapM (fun (f : Field) => do pure (f.offset, ← sizeOf f.type) : Field → Sem (Nat × Nat))).run P w = .ok (l.map fun f => (f.offset, (sizeA P f.type).getD 0)) w := by
              intro l
              induction l with
              | nil => intro w _; simp
              | cons f l ih =>
                intro w hl
                obtain ⟨n, hn⟩ := Option.isSome_iff_exists.1 (hl f (by simp))
                rw [List.mapM_cons]
                simp only [Sem.run_bind, run_sizeA hn, Result.andThen_ok, Sem.run_pure, ih w (fun g hg => hl g (by simp [hg])), hn, List.map_cons, Option.getD_some]
            have hmA : ∀ w, (fs.mapM (fun (f : Field) => do pure (f.offset, ← sizeOf f.type) : Field → Sem (Nat × Nat))).run P w = .ok (fs.map fun f => (f.offset, (sizeA P f.type).getD 0)) w := by
              intro w
              rw [Array.mapM_eq_mapM_toList]
              simp only [map_eq_pure_bind, Sem.run_bind]
              rw [hm fs.toList w (fun f hf => hall' f (by simpa using hf))]
              simp only [Result.andThen_ok, Sem.run_pure]
              congr 1
              exact Array.toList_inj.1 (by simp)
            have hpl : (fun (i : Nat) => (fs.map fun (f : Field) => (f.offset, (sizeA P f.type).getD 0))[i]?) = (fun (i : Nat) => (fs[i]?).bind fun f => (sizeA P f.type).map fun n => (f.offset, n)) := by
              funext i
              rw [Array.getElem?_map]
              cases hf : fs[i]? with
              | none => rfl
              | some f =>
                obtain ⟨n, hn⟩ := Option.isSome_iff_exists.1 (hall' f (Array.mem_of_getElem? hf))
                simp [hn]
            simp only [Instr.build, Sem.run_bind, hZ, Result.andThen_ok, run_underlying hu, hmA]
            rw [hpl]
            simp only [Array.toList_map]
            rw [hL]
            simp
        · cases h
      · cases h
    · rename_i z len el hz hu
      obtain ⟨Z, hZ, hRZ⟩ := run_zeroA hz m
      split at h
      · rename_i zc n hzc hn
        split at h
        · rename_i cs hcs
          have hp := RP_map (m := m) he parts.toList
          obtain ⟨L, hL, hRL⟩ := fillA_ok hp (R_cells hRZ hzc) hcs
          refine ⟨_, .agg L, h, by simp only [R]; exact ⟨L.toList, rfl, hRL⟩, run_v fun w => ?_⟩
          simp only [Instr.build, Sem.run_bind, hZ, Result.andThen_ok, run_underlying hu, run_sizeA hn]
          simp only [Array.toList_map]
          rw [hL]
          simp
        · cases h
      · cases h
    · cases h
  case nilCheck x =>
    have hx := he x
    split at h
    · rename_i i o hx'
      rw [hx'] at hx
      refine ⟨_, _, h, hx, fun w => ?_⟩
      simp only [R] at hx
      obtain ⟨b, _, hb⟩ := hx
      simp [hb]
    · rename_i f c hx'
      rw [hx'] at hx
      refine ⟨_, _, h, hx, fun w => ?_⟩
      simp only [R] at hx
      obtain ⟨b, hb, _⟩ := hx
      simp [hb]
    · cases h
  case binOp op t x y yt =>
    obtain ⟨v, V, h1, h2, h3⟩ := abin_ok (P := P) (he x) (he y) h x y
    exact ⟨v, V, h1, h2, run_v h3⟩
  case unOp op t x =>
    split at h
    · rename_i v hv
      obtain ⟨V, h1, h2⟩ := aun_ok (P := P) (he x) hv
      exact ⟨v, V, h, h1, run_v h2⟩
    · cases h
  case convert src dst x =>
    have hx := he x
    split at h
    · rename_i k q n hs hd hx'
      rw [hx'] at hx
      simp only [R] at hx
      obtain ⟨sd, hsd⟩ := Option.isSome_iff_exists.1 hs
      exact ⟨_, _, h, R_int _ _ _, run_v fun w => by rw [hx]; simp [convert, run_underlying hsd, run_underlying hd, Conv.intToInt, wr_eq]⟩
    · rename_i s hs hd hx'
      rw [hx'] at hx
      simp only [R] at hx
      obtain ⟨sd, hsd⟩ := Option.isSome_iff_exists.1 hs
      exact ⟨_, _, h, R_str _ _, run_v fun w => by rw [hx]; simp [convert, run_underlying hsd, run_underlying hd]⟩
    · cases h
  case makeFunc fn first cap =>
    cases fn with
    | func f =>
      simp only at h
      cases hf : first.isEmpty with
      | false => rw [hf] at h; cases h
      | true =>
        rw [hf] at h
        have hf' : first = #[] := by simpa using hf
        refine ⟨_, .func (.func f) #[] ⟨cap.toList.map E⟩, h, ?_, run_v fun w => ?_⟩
        · simp only [R]
          refine ⟨_, rfl, ?_⟩
          generalize cap.toList = l
          induction l with
          | nil => exact RL_nil.2 rfl
          | cons x l ih => exact RL.cons (he x) ih
        · subst hf'
          simp [Instr.makeFunc]
          exact Array.toList_inj.1 (by simp)
    | _ => cases h
  case fieldAddr s x f =>
    have hx := he x
    split at h
    · rename_i fs i o' hu hx'
      rw [hx'] at hx
      split at h
      · rename_i fl hfl
        split at h
        · rename_i n hn
          cases hb : Nat.beq n 0 with
          | true => rw [hb] at h; cases h
          | false =>
            rw [hb] at h
            have hn0 : ¬ n = 0 := fun e => by subst e; simp at hb
            simp only [R] at hx
            obtain ⟨b, hm, hX⟩ := hx
            refine ⟨_, .pointer (some ⟨b, o' + fl.offset, none⟩), h, by simp only [R]; exact ⟨b, hm, rfl⟩, run_v fun w => ?_⟩
            simp [Instr.fieldAt, run_underlying hu, hfl, hX, Instr.sureAddr, fieldPlace, run_sizeA hn, hn0, addr_add]
        · cases h
      · cases h
    · cases h
  case field t x f =>
    have hx := he x
    split at h
    · rename_i fs cs hu hx'
      rw [hx'] at hx
      split at h
      · rename_i fl hfl
        split at h
        · rename_i v hv
          simp only [R] at hx
          obtain ⟨Vs, hX, hR⟩ := hx
          obtain ⟨V, h1, h2⟩ := run_partA (P := P) (m := m) (cs := ⟨Vs⟩) (by simpa using hR) hv
          exact ⟨v, V, h, h2, run_v fun w => by simp [Instr.field, run_underlying hu, hfl, hX, asAgg, h1]⟩
        · cases h
      · cases h
    · cases h
  case indexAddr t x ix =>
    have hx := he x
    have hi := he ix
    split at h
    · rename_i k i hi'
      rw [hi'] at hi
      simp only [R] at hi
      split at h
      · rename_i len el b o' hu hx'
        rw [hx'] at hx
        split at h
        · rename_i n hn
          cases hb : (decide (0 ≤ i) && decide (i < (len : Int))) with
          | false => rw [hb] at h; cases h
          | true =>
            rw [hb] at h
            simp only [Bool.and_eq_true, decide_eq_true_eq] at hb
            simp only [R] at hx
            obtain ⟨c, hm, hX⟩ := hx
            refine ⟨_, .pointer (some ⟨c, o' + i.toNat * n, none⟩), h, by simp only [R]; exact ⟨c, hm, rfl⟩, run_v fun w => ?_⟩
            simp [Instr.indexAt, hi, asIntOf, run_underlying hu, hX, Instr.sureAddr, hb.1, hb.2, run_sizeA hn, addr_add]
        · cases h
      · rename_i el b o' len cap hu hx'
        rw [hx'] at hx
        split at h
        · rename_i n hn
          cases hb : (decide (0 ≤ i) && decide (i < (len : Int))) with
          | false => rw [hb] at h; cases h
          | true =>
            rw [hb] at h
            simp only [Bool.and_eq_true, decide_eq_true_eq] at hb
            simp only [R] at hx
            obtain ⟨c, hm, hX⟩ := hx
            refine ⟨_, .pointer (some ⟨c, o' + i.toNat * n, none⟩), h, by simp only [R]; exact ⟨c, hm, rfl⟩, run_v fun w => ?_⟩
            simp [Instr.indexAt, hi, asIntOf, run_underlying hu, hX, hb.1, hb.2, run_sizeA hn, addr_add]
        · cases h
      · rename_i el b len hu hx'
        rw [hx'] at hx
        split at h
        · rename_i n hn
          cases hb : (decide (0 ≤ i) && decide (i < (len : Int))) with
          | false => rw [hb] at h; cases h
          | true =>
            rw [hb] at h
            simp only [Bool.and_eq_true, decide_eq_true_eq] at hb
            simp only [R] at hx
            obtain ⟨c, cp, hm, _, hX⟩ := hx
            refine ⟨_, .pointer (some ⟨c, 0 + i.toNat * n, none⟩), h, by simp only [R]; exact ⟨c, hm, by rw [Nat.zero_add]⟩, run_v fun w => ?_⟩
            simp [Instr.indexAt, hi, asIntOf, run_underlying hu, hX, hb.1, hb.2, run_sizeA hn, addr_add]
        · cases h
      · cases h
    · cases h
  case index t x ix =>
    have hx := he x
    have hi := he ix
    split at h
    · rename_i k i hi'
      rw [hi'] at hi
      simp only [R] at hi
      split at h
      · rename_i len el cs hu hx'
        rw [hx'] at hx
        split at h
        · rename_i n hn
          cases hb : (decide (0 ≤ i) && decide (i < (len : Int))) with
          | false => rw [hb] at h; cases h
          | true =>
            rw [hb] at h
            simp only [Bool.and_eq_true, decide_eq_true_eq] at hb
            simp only [cond_true] at h
            split at h
            · rename_i v hv
              simp only [R] at hx
              obtain ⟨Vs, hX, hR⟩ := hx
              obtain ⟨V, h1, h2⟩ := run_partA (P := P) (m := m) (cs := ⟨Vs⟩) (by simpa using hR) hv
              exact ⟨v, V, h, h2, run_v fun w => by simp [Instr.index, hi, asIntOf, run_underlying hu, hX, hb.1, hb.2, run_sizeA hn, h1]⟩
            · cases h
        · cases h
      · rename_i s hu hx'
        rw [hx'] at hx
        cases hb : ltN i s.size with
        | false => rw [hb] at h; cases h
        | true =>
          rw [hb] at h
          have hb := ltN_ok hb
          simp only [cond_true] at h
          simp only [R] at hx
          refine ⟨_, _, h, R_int _ _ _, run_v fun w => ?_⟩
          have hlt : i.toNat < s.size := by omega
          have hg : s[i.toNat]? = some (s.data.getD i.toNat 0) := by
            have hlt' : i.toNat < s.data.size := hlt
            rw [getElem?_pos s i.toNat hlt]
            simp [Array.getElem?_eq_getElem hlt']
            rfl
          simp [Instr.index, hi, asIntOf, run_underlying hu, hx, hb.1, hg]
      · rename_i s n g hu hx'
        rw [hx'] at hx
        cases hb : ltN i n with
        | false => rw [hb] at h; cases h
        | true =>
          rw [hb] at h
          have hb := ltN_ok hb
          simp only [cond_true] at h
          simp only [R] at hx
          obtain ⟨hx, hlo, hg0⟩ := hx
          have hgi := hg0 i.toNat (by omega)
          rw [← hgi] at h
          refine ⟨_, _, h, R_int _ _ _, run_v fun w => ?_⟩
          have hlt : i.toNat < s.size := by omega
          have hg : s[i.toNat]? = some (s.data.getD i.toNat 0) := by
            have hlt' : i.toNat < s.data.size := hlt
            rw [getElem?_pos s i.toNat hlt]
            simp [Array.getElem?_eq_getElem hlt']
            rfl
          simp [Instr.index, hi, asIntOf, run_underlying hu, hx, hb.1, hg]
      · rename_i s n g ex hu hx'
        rw [hx'] at hx
        cases hb : ltN i n with
        | false => rw [hb] at h; cases h
        | true =>
          rw [hb] at h
          have hb := ltN_ok hb
          simp only [cond_true] at h
          simp only [R] at hx
          obtain ⟨hx, ⟨hlo, hg0⟩, _⟩ := hx
          have hgi := hg0 i.toNat (by omega)
          rw [← hgi] at h
          refine ⟨_, _, h, R_int _ _ _, run_v fun w => ?_⟩
          have hlt : i.toNat < s.size := by omega
          have hg : s[i.toNat]? = some (s.data.getD i.toNat 0) := by
            have hlt' : i.toNat < s.data.size := hlt
            rw [getElem?_pos s i.toNat hlt]
            simp [Array.getElem?_eq_getElem hlt']
            rfl
          simp [Instr.index, hi, asIntOf, run_underlying hu, hx, hb.1, hg]
      · cases h
    · cases h
  case slice t x lo hi mx =>
    have hx := he x
    split at h
    · cases h
    · split at h
      · rename_i s hu hx'
        rw [hx'] at hx
        simp only [R] at hx
        obtain ⟨hh, l, h1, h2⟩ := run_bounds (P := P) he h false
        refine ⟨_, _, h1, R_str _ _, run_v fun w => ?_⟩
        simp [Instr.sliceAt, Instr.slice, run_underlying hu, hx, h2]
      · rename_i s n g hu hx'
        rw [hx'] at hx
        simp only [R] at hx
        obtain ⟨hX, hn, hg⟩ := hx
        subst hn
        obtain ⟨hh, l, h1, h2, hb1, hb2⟩ := run_bounds' (P := P) he h false
        refine ⟨_, .string (s.extract l hh), h1, ?_, run_v fun w => ?_⟩
        · simp only [R]
          refine ⟨trivial, by simp [ByteArray.size_extract]; omega, fun i hi => ?_⟩
          rw [← hg (l + i) (by omega)]
          have hlt : l + i < s.size := by omega
          have e1 : (s.extract l hh).data.getD i 0 = s.data.getD (l + i) 0 := by
            rw [ByteArray.data_extract]
            simp only [Array.getD_eq_getD_getElem?, Array.getElem?_extract]
            have : i < min hh s.data.size - l := by
              have : s.data.size = s.size := rfl
              omega
            rw [if_pos this]
          rw [e1]
        · simp [Instr.sliceAt, Instr.slice, run_underlying hu, hX, h2]
      · rename_i el b o' len cap hu hx'
        rw [hx'] at hx
        split at h
        · rename_i n hn
          obtain ⟨hh, l, h1, h2⟩ := run_bounds (P := P) (K := fun h l => bif Nat.beq cap l then none else K (.slice b (o' + l * n) (h - l) (cap - l))) he h true
          cases hb : Nat.beq cap l with
          | true => rw [hb] at h1; cases h1
          | false =>
            rw [hb] at h1
            have hne : ¬ cap = l := fun e => by subst e; simp at hb
            simp only [R] at hx
            obtain ⟨c, hm, hX⟩ := hx
            refine ⟨_, .slice (some ⟨c, o' + l * n, none⟩) (hh - l) (cap - l), h1, by simp only [R]; exact ⟨c, hm, rfl⟩, run_v fun w => ?_⟩
            simp [Instr.sliceAt, Instr.slice, run_underlying hu, hX, h2, run_sizeA hn, hne, addr_add]
        · cases h
      · rename_i len el b o' hu hx'
        rw [hx'] at hx
        split at h
        · rename_i n hn
          obtain ⟨hh, l, h1, h2⟩ := run_bounds (P := P) (K := fun h l => bif Nat.beq len l then none else K (.slice b (o' + l * n) (h - l) (len - l))) he h false
          cases hb : Nat.beq len l with
          | true => rw [hb] at h1; cases h1
          | false =>
            rw [hb] at h1
            have hne : ¬ len = l := fun e => by subst e; simp at hb
            simp only [R] at hx
            obtain ⟨c, hm, hX⟩ := hx
            refine ⟨_, .slice (some ⟨c, o' + l * n, none⟩) (hh - l) (len - l), h1, by simp only [R]; exact ⟨c, hm, rfl⟩, run_v fun w => ?_⟩
            simp [Instr.sliceAt, run_underlying hu, hX, Instr.sureAddr, h2, run_sizeA hn, hne, addr_add]
        · cases h
      · rename_i el b len hu hx'
        rw [hx'] at hx
        split at h
        · rename_i n hn
          obtain ⟨l, h1, h2⟩ := run_bound (P := P) (K := fun l => bif Nat.ble (l + 1) len then K (.view b (l * n) (len - l)) else none) he h
          cases hb : Nat.ble (l + 1) len with
          | false => rw [hb] at h1; cases h1
          | true =>
            rw [hb] at h1
            have hle := Nat.le_of_ble_eq_true hb
            simp only [R] at hx
            obtain ⟨c, cap, hm, _, hcap, hX⟩ := hx
            have hne : ¬ cap = l := by omega
            have h3 : ∀ w, (Instr.sliceBounds true len cap (lo.map E) none none).run P w = .ok (l, len, cap) w := by
              intro w
              have h2' := h2 .sliceB w
              unfold Instr.sliceBounds
              simp only [Sem.run_bind, Sem.run_pure, Result.andThen_ok]
              cases lo <;> simp_all
            refine ⟨_, .slice (some ⟨c, 0 + l * n, none⟩) (len - l) (cap - l), h1, by simp only [R]; exact ⟨c, cap - l, hm, by rw [Nat.zero_add]⟩, run_v fun w => ?_⟩
            simp [Instr.sliceAt, Instr.slice, run_underlying hu, hX, h3, run_sizeA hn, hne, addr_add]
        · cases h
      · cases h
  case sliceToArrayPointer t x =>
    have hx := he x
    split at h
    · rename_i n el b o' len cap hu hx'
      rw [hx'] at hx
      cases hb : Nat.ble n len with
      | false => rw [hb] at h; cases h
      | true =>
        rw [hb] at h
        simp only [R] at hx
        obtain ⟨c, hm, hX⟩ := hx
        refine ⟨_, .pointer (some ⟨c, o', none⟩), h, by simp only [R]; exact ⟨c, hm, rfl⟩, run_v fun w => ?_⟩
        simp [Instr.arrayAt, run_underlying hu, hX, Nat.not_lt.2 (Nat.le_of_ble_eq_true hb)]
    · cases h
  case extract x i =>
    have hx := he x
    split at h
    · rename_i l hx'
      rw [hx'] at hx
      split at h
      · rename_i v hv
        simp only [R] at hx
        obtain ⟨Vs, hX, hR⟩ := hx
        obtain ⟨V, h1, h2⟩ := RL_get hR hv
        exact ⟨v, V, h, h2, run_v fun w => by simp [Instr.extract, hX, h1]⟩
      · cases h
    · cases h

end
end Go.Proofs.YtdojnnlhaiennaaGreat.Ae

/- Values that are laid together; maps whose keys are two numbers. Conditions: none. -/
namespace Go.Proofs.YtdojnnlhaiennaaGreat.Ae
open Go

mutual
def mergeAV (x : Bool) : AV → AV → AV
  | .bool p, .bool q => .bool (bif x then p else q)
  | .int k p, .int k' q => if k = k' then .int k (bif x then p else q) else bif x then .int k p else .int k' q
  | .nilp, .nilp => .nilp
  | .nils, .nils => .nils
  | .nilfn, .nilfn => .nilfn
  | .ptr i o, .ptr i' o' => bif Nat.beq i i' && Nat.beq o o' then .ptr i o else bif x then .ptr i o else .ptr i' o'
  | .str p, .str q => .str (bif x then p else q)
  | .agg l, .agg l' => bif Nat.beq l.length l'.length then .agg (mergeL x l l') else bif x then .agg l else .agg l'
  | .tup l, .tup l' => bif Nat.beq l.length l'.length then .tup (mergeL x l l') else bif x then .tup l else .tup l'
  | .slice i o l c, .slice i' o' l' c' => bif Nat.beq i i' && Nat.beq o o' && Nat.beq l l' && Nat.beq c c' then .slice i o l c else bif x then .slice i o l c else .slice i' o' l' c'
  | .own i n, .own i' n' => bif Nat.beq i i' && Nat.beq n n' then .own i n else bif x then .own i n else .own i' n'
  | .map i, .map i' => bif Nat.beq i i' then .map i else bif x then .map i else .map i'
  | .fn f l, .fn f' l' => bif Nat.beq f f' && Nat.beq l.length l'.length then .fn f (mergeL x l l') else bif x then .fn f l else .fn f' l'
  | .any, .any => .any
  | v, u => bif x then v else u
def mergeL (x : Bool) : List AV → List AV → List AV
  | v :: l, u :: l' => mergeAV x v u :: mergeL x l l'
  | _, _ => []
end

mutual
theorem R_merge {m : List Nat} {x : Bool} : ∀ (v u : AV) {V : Value}, (x = true → R m v V) → (x = false → R m u V) → R m (mergeAV x v u) V := by
  intro v u V h1 h2
  cases v <;> cases u <;> simp only [mergeAV] <;> (try (simp only [R]; done)) <;> (try (cases x; exact h2 rfl; exact h1 rfl))
  case int.int k p k' q =>
    split
    · rename_i e; subst e; cases x <;> simp_all [R]
    · cases x; exact h2 rfl; exact h1 rfl
  case ptr.ptr i o i' o' =>
    cases hb : (Nat.beq i i' && Nat.beq o o') with
    | false => simp only [cond_false]; cases x; exact h2 rfl; exact h1 rfl
    | true =>
      simp only [Bool.and_eq_true] at hb
      obtain rfl := Nat.eq_of_beq_eq_true hb.1
      obtain rfl := Nat.eq_of_beq_eq_true hb.2
      simp only [cond_true]
      cases x
      · exact h2 rfl
      · exact h1 rfl
  case slice.slice i o l c i' o' l' c' =>
    cases hb : (Nat.beq i i' && Nat.beq o o' && Nat.beq l l' && Nat.beq c c') with
    | false => simp only [cond_false]; cases x; exact h2 rfl; exact h1 rfl
    | true =>
      simp only [Bool.and_eq_true] at hb
      obtain rfl := Nat.eq_of_beq_eq_true hb.1.1.1
      obtain rfl := Nat.eq_of_beq_eq_true hb.1.1.2
      obtain rfl := Nat.eq_of_beq_eq_true hb.1.2
      obtain rfl := Nat.eq_of_beq_eq_true hb.2
      simp only [cond_true]
      cases x
      · exact h2 rfl
      · exact h1 rfl
  case own.own i n i' n' =>
    cases hb : (Nat.beq i i' && Nat.beq n n') with
    | false => simp only [cond_false]; cases x; exact h2 rfl; exact h1 rfl
    | true =>
      simp only [Bool.and_eq_true] at hb
      obtain rfl := Nat.eq_of_beq_eq_true hb.1
      obtain rfl := Nat.eq_of_beq_eq_true hb.2
      simp only [cond_true]
      cases x
      · exact h2 rfl
      · exact h1 rfl
  case map.map i i' =>
    cases hb : Nat.beq i i' with
    | false => simp only [cond_false]; cases x; exact h2 rfl; exact h1 rfl
    | true =>
      obtain rfl := Nat.eq_of_beq_eq_true hb
      simp only [cond_true]
      cases x
      · exact h2 rfl
      · exact h1 rfl
  case fn.fn f l f' l' =>
    cases hb : (Nat.beq f f' && Nat.beq l.length l'.length) with
    | false => simp only [cond_false]; cases x; exact h2 rfl; exact h1 rfl
    | true =>
      simp only [Bool.and_eq_true] at hb
      obtain rfl := Nat.eq_of_beq_eq_true hb.1
      have hl := Nat.eq_of_beq_eq_true hb.2
      simp only [cond_true]
      cases x
      · have := h2 rfl; simp only [R] at this ⊢; obtain ⟨Vs, e, hr⟩ := this; exact ⟨Vs, e, RL_merge l l' hl (fun h => by cases h) (fun _ => hr)⟩
      · have := h1 rfl; simp only [R] at this ⊢; obtain ⟨Vs, e, hr⟩ := this; exact ⟨Vs, e, RL_merge l l' hl (fun _ => hr) (fun h => by cases h)⟩
  case agg.agg l l' =>
    cases hb : Nat.beq l.length l'.length with
    | false => simp only [cond_false]; cases x; exact h2 rfl; exact h1 rfl
    | true =>
      have hl := Nat.eq_of_beq_eq_true hb
      simp only [cond_true]
      cases x
      · have := h2 rfl; simp only [R] at this ⊢; obtain ⟨Vs, e, hr⟩ := this; exact ⟨Vs, e, RL_merge l l' hl (fun h => by cases h) (fun _ => hr)⟩
      · have := h1 rfl; simp only [R] at this ⊢; obtain ⟨Vs, e, hr⟩ := this; exact ⟨Vs, e, RL_merge l l' hl (fun _ => hr) (fun h => by cases h)⟩
  case tup.tup l l' =>
    cases hb : Nat.beq l.length l'.length with
    | false => simp only [cond_false]; cases x; exact h2 rfl; exact h1 rfl
    | true =>
      have hl := Nat.eq_of_beq_eq_true hb
      simp only [cond_true]
      cases x
      · have := h2 rfl; simp only [R] at this ⊢; obtain ⟨Vs, e, hr⟩ := this; exact ⟨Vs, e, RL_merge l l' hl (fun h => by cases h) (fun _ => hr)⟩
      · have := h1 rfl; simp only [R] at this ⊢; obtain ⟨Vs, e, hr⟩ := this; exact ⟨Vs, e, RL_merge l l' hl (fun _ => hr) (fun h => by cases h)⟩
theorem RL_merge {m : List Nat} {x : Bool} : ∀ (l l' : List AV) {Vs : List Value}, l.length = l'.length → (x = true → RL m l Vs) → (x = false → RL m l' Vs) → RL m (mergeL x l l') Vs
  | [], [], Vs, _, h1, h2 => by
    simp only [mergeL]
    cases x
    · exact h2 rfl
    · exact h1 rfl
  | [], _ :: _, _, h, _, _ => by simp at h
  | _ :: _, [], _, h, _, _ => by simp at h
  | v :: l, u :: l', Vs, h, h1, h2 => by
    simp only [List.length_cons, Nat.add_right_cancel_iff] at h
    simp only [mergeL]
    cases x
    · obtain ⟨V, Vs', rfl, a1, a2⟩ := RL_cons.1 (h2 rfl)
      exact RL.cons (R_merge v u (fun h => by cases h) (fun _ => a1)) (RL_merge l l' h (fun h => by cases h) (fun _ => a2))
    · obtain ⟨V, Vs', rfl, a1, a2⟩ := RL_cons.1 (h1 rfl)
      exact RL.cons (R_merge v u (fun _ => a1) (fun h => by cases h)) (RL_merge l l' h (fun _ => a2) (fun h => by cases h))
end

/-! ### Maps whose keys are numbers, or two numbers -/
/-- Is it the type of two numbers? -/
def isPK (P : Program) (k : TypeId) : Bool :=
  match P.underlying k with
  | some (.array 2 el) =>
    match P.underlying el, sizeA P el with
    | some (.int _), some 1 => true
    | _, _ => false
  | some (.struct fs) =>
    match fs.toList with
    | [f, g] =>
      match P.underlying f.type, P.underlying g.type with
      | some (.int _), some (.int _) => decide (f.offset = 0) && (decide (g.offset = 1) && (decide (f.name ≠ "_") && (decide (g.name ≠ "_") && !(P.stoodInHeld k))))
      | _, _ => false
    | _ => false
  | _ => false
/-- Of how many numbers are a map's keys, and the kind of what it bears. -/
def mapT (P : Program) (t : TypeId) : Option (Bool × TypeId) :=
  match P.underlying t with
  | some (.map k el) =>
    bif isPK P k then some (true, el) else
      match P.underlying k with
      | some (.int _) => some (false, el)
      | _ => none
  | _ => none
abbrev pkV (a b : Int) : Value := .agg ⟨[.int .i64 a, .int .i64 b]⟩
theorem pk_inv {P : Program} {k : TypeId} (h : isPK P k = true) : (∃ el j, P.underlying k = some (.array 2 el) ∧ P.underlying el = some (.int j) ∧ sizeA P el = some 1) ∨
    (∃ f g j j', P.underlying k = some (.struct #[f, g]) ∧ P.underlying f.type = some (.int j) ∧ P.underlying g.type = some (.int j') ∧ f.offset = 0 ∧ g.offset = 1 ∧ f.name ≠ "_" ∧ g.name ≠ "_" ∧ P.stoodInHeld k = false) := by
  unfold isPK at h
  split at h
  · rename_i el hk
    split at h
    · rename_i j h1 h2; exact .inl ⟨el, j, hk, h1, h2⟩
    · cases h
  · rename_i fs hk
    split at h
    · rename_i f g hfg
      split at h
      · rename_i j j' h1 h2
        simp only [Bool.and_eq_true, decide_eq_true_eq, Bool.not_eq_true'] at h
        obtain ⟨a1, a2, a3, a4, a5⟩ := h
        have e : fs = #[f, g] := by rw [← Array.toArray_toList (xs := fs), hfg]
        rw [e] at hk
        exact .inr ⟨f, g, j, j', hk, h1, h2, a1, a2, a3, a4, a5⟩
      · cases h
    · cases h
  · cases h
theorem run_part1 {P : Program} {el : TypeId} {j : IntKind} (h1 : P.underlying el = some (.int j)) (cs : Array Value) (o : Nat) (v : Value) (hv : cs[o]? = some v) (w : World) : (part el cs o).run P w = .ok v w := by
  have ha : isAggA P el = some false := by unfold isAggA; rw [h1]
  simp only [part, Sem.run_bind, run_isAgg ha, Result.andThen_ok, hv]
  simp
theorem pk_equalIn {P : Program} {k : TypeId} (h : isPK P k = true) (n : Nat) (a b c d : Int) (w : World) : (Op.equalIn (n + 1 + 1) k (pkV a b) (pkV c d)).run P w = .ok (a == c && b == d) w := by
  rcases pk_inv h with ⟨el, j, h1, h2, h3⟩ | ⟨f, g, j, j', h1, h2, h3, a1, a2, a3, a4, a5⟩
  rotate_left
  · have p0 : ∀ a b : Int, (part f.type ⟨[.int .i64 a, .int .i64 b]⟩ f.offset).run P w = .ok (.int .i64 a) w := fun a b => run_part1 h2 _ _ _ (by rw [a1]; rfl) w
    have p1 : ∀ a b : Int, (part g.type ⟨[.int .i64 a, .int .i64 b]⟩ g.offset).run P w = .ok (.int .i64 b) w := fun a b => run_part1 h3 _ _ _ (by rw [a2]; rfl) w
    have q : ∀ a c : Int, (Op.equalIn (n + 1) f.type (.int .i64 a) (.int .i64 c)).run P w = .ok (a == c) w := fun a c => by simp [Op.equalIn, run_underlying h2]
    have q' : ∀ a c : Int, (Op.equalIn (n + 1) g.type (.int .i64 a) (.int .i64 c)).run P w = .ok (a == c) w := fun a c => by simp [Op.equalIn, run_underlying h3]
    rw [Op.equalIn]
    simp only [Sem.run_bind, run_underlying h1, Result.andThen_ok, run_program, a5, Bool.false_eq_true, if_false]
    simp only [← Array.forIn_toList, List.forIn_cons, List.forIn_nil, Sem.run_bind, if_pos a3, if_pos a4, p0, p1, Result.andThen_ok, q, q']
    cases (a == c)
    · rfl
    · simp only [Bool.not_true, Bool.false_eq_true, if_false, Sem.run_pure, Sem.run_bind, if_pos a4, p1, Result.andThen_ok, q']
      cases (b == d) <;> rfl
  have p0 : ∀ a b : Int, (part el ⟨[.int .i64 a, .int .i64 b]⟩ 0).run P w = .ok (.int .i64 a) w := fun a b => run_part1 h2 _ _ _ rfl w
  have p1 : ∀ a b : Int, (part el ⟨[.int .i64 a, .int .i64 b]⟩ 1).run P w = .ok (.int .i64 b) w := fun a b => run_part1 h2 _ _ _ rfl w
  have q : ∀ a c : Int, (Op.equalIn (n + 1) el (.int .i64 a) (.int .i64 c)).run P w = .ok (a == c) w := fun a c => by simp [Op.equalIn, run_underlying h2]
  rw [Op.equalIn]
  simp only [Sem.run_bind, run_underlying h1, Result.andThen_ok, run_sizeA h3]
  simp only [Std.Legacy.Range.forIn_eq_forIn_range', Std.Legacy.Range.size, Nat.sub_zero, Nat.add_one_sub_one, Nat.div_one]
  have e : List.range' 0 2 1 = [0, 1] := rfl
  rw [e]
  simp only [List.forIn_cons, List.forIn_nil, Sem.run_bind, Nat.zero_mul, Nat.one_mul, p0, p1, Result.andThen_ok, q]
  cases (a == c)
  · rfl
  · simp only [Bool.not_true, Bool.false_eq_true, if_false, Sem.run_pure, Sem.run_bind, p1, Result.andThen_ok, q]
    cases (b == d) <;> rfl
theorem pk_equal {P : Program} {k : TypeId} (h : isPK P k = true) (a b c d : Int) (w : World) : (Op.equal k (pkV a b) (pkV c d)).run P w = .ok (a == c && b == d) w := pk_equalIn h 9998 a b c d w
theorem pk_checkIn {P : Program} {k : TypeId} (h : isPK P k = true) (n : Nat) (em : Bool) (a b : Int) (w : World) : (Instr.checkKey em (n + 1 + 1) k (pkV a b)).run P w = .ok () w := by
  rcases pk_inv h with ⟨el, j, h1, h2, h3⟩ | ⟨f, g, j, j', h1, h2, h3, a1, a2, a3, a4, a5⟩
  rotate_left
  · have p0 : ∀ a b : Int, (part f.type ⟨[.int .i64 a, .int .i64 b]⟩ f.offset).run P w = .ok (.int .i64 a) w := fun a b => run_part1 h2 _ _ _ (by rw [a1]; rfl) w
    have p1 : ∀ a b : Int, (part g.type ⟨[.int .i64 a, .int .i64 b]⟩ g.offset).run P w = .ok (.int .i64 b) w := fun a b => run_part1 h3 _ _ _ (by rw [a2]; rfl) w
    have q : ∀ a : Int, (Instr.checkKey em (n + 1) f.type (.int .i64 a)).run P w = .ok () w := fun a => by rw [Instr.checkKey]; simp [run_underlying h2]
    have q' : ∀ a : Int, (Instr.checkKey em (n + 1) g.type (.int .i64 a)).run P w = .ok () w := fun a => by rw [Instr.checkKey]; simp [run_underlying h3]
    rw [Instr.checkKey]
    simp only [Sem.run_bind, run_underlying h1, Result.andThen_ok]
    simp only [← Array.forIn_toList, List.forIn_cons, List.forIn_nil, Sem.run_bind, if_pos a3, if_pos a4, p0, p1, Result.andThen_ok, q, q', Sem.run_pure]
  have p0 : ∀ a b : Int, (part el ⟨[.int .i64 a, .int .i64 b]⟩ 0).run P w = .ok (.int .i64 a) w := fun a b => run_part1 h2 _ _ _ rfl w
  have p1 : ∀ a b : Int, (part el ⟨[.int .i64 a, .int .i64 b]⟩ 1).run P w = .ok (.int .i64 b) w := fun a b => run_part1 h2 _ _ _ rfl w
  have q : ∀ a : Int, (Instr.checkKey em (n + 1) el (.int .i64 a)).run P w = .ok () w := fun a => by rw [Instr.checkKey]; simp [run_underlying h2]
  rw [Instr.checkKey]
  simp only [Sem.run_bind, run_underlying h1, Result.andThen_ok]
  simp only [Std.Legacy.Range.forIn_eq_forIn_range', Std.Legacy.Range.size, Nat.sub_zero, Nat.add_one_sub_one, Nat.div_one]
  have e : List.range' 0 2 1 = [0, 1] := rfl
  rw [e]
  simp only [List.forIn_cons, List.forIn_nil, Sem.run_bind, run_sizeA h3, Nat.zero_mul, Nat.one_mul, p0, p1, Result.andThen_ok, q, Sem.run_pure]
theorem pk_check {P : Program} {k : TypeId} (h : isPK P k = true) (em : Bool) (a b : Int) (w : World) : (Instr.checkKey em 10000 k (pkV a b)).run P w = .ok () w := pk_checkIn h 9998 em a b w

/-- A key that is known. -/
def keyA (two : Bool) (k : AV) : Option MK :=
  match two, k with
  | true, .agg [.int .i64 a, .int .i64 b] => some (a, b)
  | false, .int .i64 a => some (a, 0)
  | _, _ => none
def keqB (k k' : MK) : Bool := k.1 == k'.1 && k.2 == k'.2
def kltB (k k' : MK) : Bool := decide (k.1 < k'.1) || (k.1 == k'.1 && decide (k.2 < k'.2))
theorem keq_iff {k k' : MK} : keqB k k' = true ↔ k = k' := by
  obtain ⟨a, b⟩ := k
  obtain ⟨c, d⟩ := k'
  simp [keqB]
/-- What stands under a key, and whether something does; z: nothing. -/
def lookS (k : MK) (z : AV) : List (MK × AV) → AV × Bool
  | [] => (z, false)
  | e :: es => (mergeAV (keqB k e.1) e.2 (lookS k z es).1, bif keqB k e.1 then true else (lookS k z es).2)
def insS (k : MK) (v : AV) : List (MK × AV) → List (MK × AV)
  | [] => [(k, v)]
  | e :: es => bif kltB k e.1 then (k, v) :: e :: es else e :: insS k v es
def updS (k : MK) (v : AV) (e : MK × AV) : MK × AV := bif keqB k e.1 then (k, v) else e
/-- .. with something put under a key. -/
def putS (k : MK) (v : AV) (es : List (MK × AV)) : List (MK × AV) := bif es.any (fun e => keqB k e.1) then es.map (updS k v) else insS k v es

theorem lookS_hit {m : List Nat} {k : MK} {z : AV} : ∀ {es : List (MK × AV)} {e : MK × AV}, e ∈ es → e.1 = k → (es.map Prod.fst).Nodup → (lookS k z es).2 = true ∧ ∀ V, R m e.2 V → R m (lookS k z es).1 V
  | e' :: es, e, he, hk, hn => by
    simp only [List.map_cons, List.nodup_cons] at hn
    unfold lookS
    cases hb : keqB k e'.1 with
    | true =>
      have ek := keq_iff.1 hb
      refine ⟨rfl, fun V hV => R_merge _ _ (fun _ => ?_) (fun h => by cases h)⟩
      rcases List.mem_cons.1 he with rfl | he
      · exact hV
      · exact absurd (List.mem_map.2 ⟨e, he, by rw [hk, ek]⟩) hn.1
    | false =>
      rcases List.mem_cons.1 he with rfl | he
      · rw [← hk] at hb
        rw [keq_iff.2 rfl] at hb; cases hb
      · obtain ⟨h1, h2⟩ := lookS_hit (m := m) (z := z) he hk hn.2
        exact ⟨h1, fun V hV => R_merge _ _ (fun h => by cases h) (fun _ => h2 V hV)⟩
theorem lookS_miss {m : List Nat} {k : MK} {z : AV} : ∀ {es : List (MK × AV)}, (∀ e ∈ es, e.1 ≠ k) → (lookS k z es).2 = false ∧ ∀ Z, R m z Z → R m (lookS k z es).1 Z
  | [], _ => ⟨rfl, fun _ h => h⟩
  | e' :: es, h => by
    obtain ⟨h1, h2⟩ := lookS_miss (m := m) (k := k) (z := z) (es := es) fun e he => h e (List.mem_cons_of_mem _ he)
    have hb : keqB k e'.1 = false := by
      cases hb : keqB k e'.1 with
      | false => rfl
      | true => exact absurd (keq_iff.1 hb).symm (h e' (List.mem_cons_self ..))
    unfold lookS
    rw [hb]
    exact ⟨h1, fun Z hZ => R_merge _ _ (fun h => by cases h) (fun _ => h2 Z hZ)⟩
/-- What the model's search finds. -/
def fndL (k : MK) : List (MK × AV) → List MapEntry → Nat → Option (Nat × Value)
  | (k', _) :: l, e :: es, i => bif keqB k k' then some (i, e.val) else fndL k l es (i + 1)
  | _, _, _ => none
theorem asking_eq {P : Program} {kt : TypeId} (hk : isPK P kt = true) {m : List Nat} (k : MK) : ∀ (es : List (MK × AV)) (ess : List MapEntry) (i : Nat) (w : World), RE m true es ess →
    (Instr.findAsking kt (keyV true k) ess i).run P w = .ok (fndL k es ess i) w
  | [], ess, i, w, hR => by
    simp only [RE] at hR
    subst hR
    simp [Instr.findAsking, fndL]
  | (k', vA) :: es, ess, i, w, hR => by
    obtain ⟨e, es', rfl, hkey, hval, hrest⟩ := hR
    have hq : (Op.equal kt (keyV true k) e.key).run P w = .ok (keqB k k') w := by rw [hkey]; exact pk_equal hk k.1 k.2 k'.1 k'.2 w
    simp only [Instr.findAsking, Sem.run_bind, hq, Result.andThen_ok]
    unfold fndL
    cases keqB k k'
    · simpa using asking_eq hk k es es' (i + 1) w hrest
    · simp
theorem now_eq {j : IntKind} {m : List Nat} (k : MK) (hk : k.2 = 0) : ∀ (es : List (MK × AV)) (ess : List MapEntry) (i : Nat), RE m false es ess → (∀ e ∈ es, e.1.2 = 0) → Instr.findNow (.int j) (keyV false k) ess i = some (fndL k es ess i)
  | [], ess, i, hR, _ => by
    simp only [RE] at hR
    subst hR
    simp [Instr.findNow, fndL]
  | (k', vA) :: es, ess, i, hR, h0 => by
    obtain ⟨e, es', rfl, hkey, hval, hrest⟩ := hR
    have hk' : k'.2 = 0 := h0 _ (List.mem_cons_self ..)
    have hs : Instr.sameNow (.int j) (keyV false k) e.key = some (keqB k k') := by
      rw [hkey]
      simp [keyV, Instr.sameNow, keqB, hk, hk']
    unfold Instr.findNow
    rw [hs]
    unfold fndL
    cases keqB k k'
    · exact now_eq k hk es es' (i + 1) hrest fun e he => h0 e (List.mem_cons_of_mem _ he)
    · rfl
theorem mapT_inv {P : Program} {t el : TypeId} {two : Bool} (h : mapT P t = some (two, el)) : ∃ k, P.underlying t = some (.map k el) ∧ ((two = true ∧ isPK P k = true) ∨ (two = false ∧ ∃ j, P.underlying k = some (.int j))) := by
  unfold mapT at h
  split at h
  · rename_i k el' hu
    cases hk : isPK P k with
    | false =>
      rw [hk] at h
      simp only [cond_false] at h
      split at h
      · rename_i j hj; cases h; exact ⟨k, hu, .inr ⟨rfl, j, hj⟩⟩
      · cases h
    | true => rw [hk] at h; cases h; exact ⟨k, hu, .inl ⟨rfl, hk⟩⟩
  · cases h
theorem find_eq {P : Program} {kt : TypeId} {two : Bool} (hk : (two = true ∧ isPK P kt = true) ∨ (two = false ∧ ∃ j, P.underlying kt = some (.int j))) {m : List Nat} {k : MK} (h0 : two = false → k.2 = 0) {es : List (MK × AV)} {ess : List MapEntry} (hR : RE m two es ess) (hz : two = false → ∀ e ∈ es, e.1.2 = 0) (w : World) :
    (Instr.findKey kt (keyV two k) ess).run P w = .ok (fndL k es ess 0) w := by
  rcases hk with ⟨rfl, hk⟩ | ⟨rfl, j, hj⟩
  · have ha := asking_eq hk k es ess 0 w hR
    rcases pk_inv hk with ⟨el, j, h1, -, -⟩ | ⟨f, g, j, j', h1, -⟩ <;>
    · simp only [Instr.findKey, Sem.run_bind, run_underlying h1, Result.andThen_ok]
      cases ess with
      | nil =>
        cases es with
        | nil => simp [Instr.findNow, fndL]
        | cons e es => obtain ⟨_, _, h, _⟩ := hR; cases h
      | cons e es' => simpa [Instr.findNow, Instr.sameNow] using ha
  · have hn := now_eq (j := j) k (h0 rfl) es ess 0 hR (hz rfl)
    simp only [Instr.findKey, Sem.run_bind, run_underlying hj, Result.andThen_ok, hn, Sem.run_pure]
theorem check_ok {P : Program} {kt : TypeId} {two : Bool} (hk : (two = true ∧ isPK P kt = true) ∨ (two = false ∧ ∃ j, P.underlying kt = some (.int j))) (k : MK) (em : Bool) (w : World) : (Instr.checkKey em 10000 kt (keyV two k)).run P w = .ok () w := by
  rcases hk with ⟨rfl, hk⟩ | ⟨rfl, j, hj⟩
  · exact pk_check hk em k.1 k.2 w
  · show (Instr.checkKey em (9999 + 1) kt (keyV false k)).run P w = _
    rw [Instr.checkKey]
    simp only [Sem.run_bind, run_underlying hj, Result.andThen_ok]
    rfl
theorem fndL_hit {m : List Nat} {two : Bool} {k : MK} : ∀ {es : List (MK × AV)} {ess : List MapEntry} (i : Nat), RE m two es ess → (∃ e ∈ es, e.1 = k) → ∃ j e V me, fndL k es ess i = some (i + j, V) ∧ es[j]? = some e ∧ e.1 = k ∧ R m e.2 V ∧ ess[j]? = some me ∧ me.key = keyV two k
  | [], _, _, _, h => by obtain ⟨e, he, _⟩ := h; cases he
  | (k', vA) :: es, ess, i, hR, h => by
    obtain ⟨e, es', rfl, hkey, hval, hrest⟩ := hR
    unfold fndL
    cases hb : keqB k k' with
    | true =>
      have ek := keq_iff.1 hb
      subst ek
      exact ⟨0, (k, vA), e.val, e, rfl, rfl, rfl, hval, rfl, hkey⟩
    | false =>
      have h' : ∃ e ∈ es, e.1 = k := by
        obtain ⟨e1, he, h1⟩ := h
        rcases List.mem_cons.1 he with rfl | he
        · rw [← h1, keq_iff.2 rfl] at hb; cases hb
        · exact ⟨e1, he, h1⟩
      obtain ⟨j, e1, V, me, h1, h2, h3, h4, h5, h6⟩ := fndL_hit (i + 1) hrest h'
      exact ⟨j + 1, e1, V, me, by simp only [cond_false]; rw [h1]; congr 2; omega, by simpa using h2, h3, h4, by simpa using h5, h6⟩
theorem fndL_miss {m : List Nat} {two : Bool} {k : MK} : ∀ {es : List (MK × AV)} {ess : List MapEntry} (i : Nat), RE m two es ess → (∀ e ∈ es, e.1 ≠ k) → fndL k es ess i = none
  | [], _, _, _, _ => by simp [fndL]
  | (k', vA) :: es, ess, i, hR, h => by
    obtain ⟨e, es', rfl, hkey, hval, hrest⟩ := hR
    unfold fndL
    have hb : keqB k k' = false := by
      cases hb : keqB k k' with
      | false => rfl
      | true => exact absurd (keq_iff.1 hb).symm (h (k', vA) (List.mem_cons_self ..))
    rw [hb]
    exact fndL_miss (i + 1) hrest fun e he => h e (List.mem_cons_of_mem _ he)
/-- A look into a map. -/
def lookupAt (P : Program) (B : Option AB) (t : TypeId) (k : AV) (ok : Bool) : Option AV :=
  match mapT P t, B with
  | some (two, el), some (.map two' es) =>
    match keyA two k, zeroA P el with
    | some k, some z => bif two == two' then some (bif ok then .tup [(lookS k z es).1, .bool (lookS k z es).2] else (lookS k z es).1) else none
    | _, _ => none
  | some (two, el), some (.mapN n g p) =>
    match keyA two k, zeroA P el with
    | some k, some z => bif two then none else some (bif ok then .tup [mergeAV (p k.1) (.agg (numL n (g k.1))) z, .bool (p k.1)] else mergeAV (p k.1) (.agg (numL n (g k.1))) z)
    | _, _ => none
  | _, _ => none
def lookupA (P : Program) (H : List AB) (t : TypeId) (x k : AV) (ok : Bool) : Option AV :=
  match x with
  | .map i => lookupAt P H[i]? t k ok
  | _ => none
theorem keyA_ok {m : List Nat} {two : Bool} {k : AV} {k' : MK} {K : Value} (h : keyA two k = some k') (hk : R m k K) : K = keyV two k' ∧ (two = false → k'.2 = 0) := by
  unfold keyA at h
  split at h
  · rename_i a b
    cases h
    simp only [R] at hk
    obtain ⟨Vs, hE, hV⟩ := hk
    obtain ⟨X, _, e1, hx, e2⟩ := RL_cons.1 hV
    obtain ⟨Y, _, e3, hy, e4⟩ := RL_cons.1 e2
    rw [RL_nil.1 e4] at e3
    simp only [R] at hx hy
    exact ⟨by rw [hE, e1, e3, hx, hy]; rfl, fun h => by cases h⟩
  · cases h
    simp only [R] at hk
    exact ⟨hk, fun _ => rfl⟩
  · cases h
theorem nodup_fst {es : List (MK × AV)} (hnd : (es.map Prod.fst).Nodup) {e e' : MK × AV} (h : e ∈ es) (h' : e' ∈ es) (hk : e.1 = e'.1) : e = e' := by
  induction es with
  | nil => cases h
  | cons a l ih =>
    simp only [List.map_cons, List.nodup_cons] at hnd
    rcases List.mem_cons.1 h with g | g <;> rcases List.mem_cons.1 h' with g' | g'
    · rw [g, g']
    · exact absurd (List.mem_map.2 ⟨e', g', by rw [← hk, g]⟩) hnd.1
    · exact absurd (List.mem_map.2 ⟨e, g, by rw [hk, g']⟩) hnd.1
    · exact ih hnd.2 g g'
theorem lookupA_ok {P : Program} {m : List Nat} {H : List AB} {w : World} (hH : HR m H w) {t : TypeId} {x k v : AV} {ok : Bool} {X K : Value} (hx : R m x X) (hk : R m k K) (h : lookupA P H t x k ok = some v) :
    ∃ V, R m v V ∧ (Instr.lookup t X K ok).run P w = .ok V w := by
  unfold lookupA at h
  split at h
  · rename_i i
    unfold lookupAt at h
    split at h
    · rename_i two el two' es hm hes
      split at h
      · rename_i k' z hka hz
        cases htw : (two == two') with
        | false => rw [htw] at h; cases h
        | true =>
        rw [htw] at h
        have htw : two = two' := by simpa using htw
        subst htw
        cases h
        obtain ⟨kt, hu, hpk⟩ := mapT_inv hm
        simp only [R] at hx
        obtain ⟨bl, hbl, rfl⟩ := hx
        obtain ⟨rfl, hk0⟩ := keyA_ok hka hk
        obtain ⟨b', o, h1, h2, h3⟩ := hH.at_ i hes
        rw [hbl] at h1; cases h1
        obtain ⟨ess, clock, es', rfl, hperm, hre, hnd, hz0⟩ := h3
        obtain ⟨Z, hZ, hRZ⟩ := run_zeroA hz m
        have hz0' : two = false → ∀ e ∈ es', e.1.2 = 0 := fun h e he => hz0 h e (hperm.mem_iff.1 he)
        have hfind := find_eq (P := P) hpk (k := k') hk0 hre hz0' w
        have hg := MapKept.run_getObj_map (P := P) h2
        by_cases hhit : ∃ e ∈ es', e.1 = k'
        · obtain ⟨j, e, V, me, q1, q2, q3, q4, -⟩ := fndL_hit 0 hre hhit
          obtain ⟨l1, l2⟩ := lookS_hit (m := m) (z := z) (hperm.mem_iff.1 (List.mem_of_getElem? q2)) q3 hnd
          rw [q1] at hfind
          refine ⟨if ok then .tuple #[V, .bool true] else V, ?_, ?_⟩
          · rw [l1]
            cases ok
            · exact l2 V q4
            · simp only [R, if_true, cond_true]; exact ⟨_, rfl, RL.cons (l2 V q4) (RL.cons (by simp only [R]) (RL_nil.2 rfl))⟩
          · simp only [Instr.lookup, Sem.run_bind, run_underlying hu, Result.andThen_ok, hg, Sem.run_pure, check_ok hpk, hfind]
        · have hmiss : ∀ e ∈ es', e.1 ≠ k' := fun e he h => hhit ⟨e, he, h⟩
          rw [fndL_miss 0 hre hmiss] at hfind
          obtain ⟨l1, l2⟩ := lookS_miss (m := m) (k := k') (z := z) (es := es) fun e he => hmiss e (hperm.mem_iff.2 he)
          refine ⟨if ok then .tuple #[Z, .bool false] else Z, ?_, ?_⟩
          · rw [l1]
            cases ok
            · exact l2 Z hRZ
            · simp only [R, if_true, cond_true]; exact ⟨_, rfl, RL.cons (l2 Z hRZ) (RL.cons (by simp only [R]) (RL_nil.2 rfl))⟩
          · simp only [Instr.lookup, Sem.run_bind, run_underlying hu, Result.andThen_ok, hg, Sem.run_pure, check_ok hpk, hfind, hZ]
      · cases h
    · rename_i two el n g p hm hes
      split at h
      · rename_i k' z hka hz
        cases two with
        | true => cases h
        | false =>
        simp only [cond_false, Option.some.injEq] at h
        subst h
        obtain ⟨kt, hu, hpk⟩ := mapT_inv hm
        simp only [R] at hx
        obtain ⟨bl, hbl, rfl⟩ := hx
        obtain ⟨rfl, hk0⟩ := keyA_ok hka hk
        have hk1 : k' = (k'.1, 0) := by rw [← hk0 rfl]
        obtain ⟨b', o, h1, h2, h3⟩ := hH.at_ i hes
        rw [hbl] at h1; cases h1
        obtain ⟨es, ess, clock, es', rfl, hperm, hre, hnd, hz0, hflat, hpf⟩ := h3
        obtain ⟨Z, hZ, hRZ⟩ := run_zeroA hz m
        have hz0' : false = false → ∀ e ∈ es', e.1.2 = 0 := fun _ e he => hz0 e (hperm.mem_iff.1 he)
        have hfind := find_eq (P := P) hpk (k := k') hk0 hre hz0' w
        have hg := MapKept.run_getObj_map (P := P) h2
        cases hpk' : p k'.1 with
        | true =>
          have hmem := (hpf k'.1).1 hpk'
          rw [← hk1] at hmem
          obtain ⟨j, e, V, me, q1, q2, q3, q4, -⟩ := fndL_hit 0 hre ⟨_, hperm.mem_iff.2 hmem, rfl⟩
          have he : e ∈ es := hperm.mem_iff.1 (List.mem_of_getElem? q2)
          have heq : e = (k', AV.agg (numL n (g k'.1))) := nodup_fst hnd he hmem q3
          subst heq
          rw [q1] at hfind
          have hV : R m (mergeAV true (AV.agg (numL n (g k'.1))) z) V := R_merge _ _ (fun _ => q4) (fun h => by cases h)
          refine ⟨if ok then .tuple #[V, .bool true] else V, ?_, ?_⟩
          · cases ok
            · exact hV
            · simp only [R, if_true, cond_true]; exact ⟨_, rfl, RL.cons hV (RL.cons (by simp only [R]) (RL_nil.2 rfl))⟩
          · simp only [Instr.lookup, Sem.run_bind, run_underlying hu, Result.andThen_ok, hg, Sem.run_pure, check_ok hpk, hfind]
        | false =>
          have hmiss : ∀ e ∈ es', e.1 ≠ k' := fun e he => by rw [hk1]; exact (hpf k'.1).2 hpk' e (hperm.mem_iff.1 he)
          rw [fndL_miss 0 hre hmiss] at hfind
          have hV : R m (mergeAV false (AV.agg (numL n (g k'.1))) z) Z := R_merge _ _ (fun h => by cases h) (fun _ => hRZ)
          refine ⟨if ok then .tuple #[Z, .bool false] else Z, ?_, ?_⟩
          · cases ok
            · exact hV
            · simp only [R, if_true, cond_true]; exact ⟨_, rfl, RL.cons hV (RL.cons (by simp only [R]) (RL_nil.2 rfl))⟩
          · simp only [Instr.lookup, Sem.run_bind, run_underlying hu, Result.andThen_ok, hg, Sem.run_pure, check_ok hpk, hfind, hZ]
      · cases h
    · cases h
  · cases h

/-! ### What is put -/
theorem insS_perm (k : MK) (v : AV) : ∀ es : List (MK × AV), (insS k v es).Perm ((k, v) :: es)
  | [] => List.Perm.refl _
  | e :: es => by
    unfold insS
    cases kltB k e.1
    · exact ((insS_perm k v es).cons e).trans (List.Perm.swap _ _ _)
    · exact List.Perm.refl _
theorem any_iff {k : MK} {es : List (MK × AV)} : es.any (fun e => keqB k e.1) = true ↔ ∃ e ∈ es, e.1 = k := by
  simp only [List.any_eq_true]
  exact ⟨fun ⟨e, he, h⟩ => ⟨e, he, (keq_iff.1 h).symm⟩, fun ⟨e, he, h⟩ => ⟨e, he, keq_iff.2 h.symm⟩⟩
theorem updS_fst (k : MK) (v : AV) (e : MK × AV) : (updS k v e).1 = e.1 := by
  unfold updS
  cases hb : keqB k e.1
  · rfl
  · exact keq_iff.1 hb
theorem map_updS_keys (k : MK) (v : AV) (es : List (MK × AV)) : (es.map (updS k v)).map Prod.fst = es.map Prod.fst := by
  rw [List.map_map]
  exact List.map_congr_left fun e _ => updS_fst k v e
theorem putS_nodup {k : MK} {v : AV} {es : List (MK × AV)} (h : (es.map Prod.fst).Nodup) : ((putS k v es).map Prod.fst).Nodup := by
  unfold putS
  cases hb : es.any (fun e => keqB k e.1) with
  | true => rw [cond_true, map_updS_keys]; exact h
  | false =>
    rw [cond_false, ((insS_perm k v es).map Prod.fst).nodup_iff, List.map_cons, List.nodup_cons]
    refine ⟨fun hm => ?_, h⟩
    obtain ⟨e, he, hk⟩ := List.mem_map.1 hm
    rw [any_iff.2 ⟨e, he, hk⟩] at hb; cases hb
theorem putS_zero {k : MK} {v : AV} {es : List (MK × AV)} (hk : k.2 = 0) (h : ∀ e ∈ es, e.1.2 = 0) : ∀ e ∈ putS k v es, e.1.2 = 0 := by
  unfold putS
  cases hb : es.any (fun e => keqB k e.1) with
  | true =>
    rw [cond_true]
    intro e he
    obtain ⟨e', he', rfl⟩ := List.mem_map.1 he
    rw [updS_fst]; exact h e' he'
  | false =>
    rw [cond_false]
    intro e he
    rcases List.mem_cons.1 ((insS_perm k v es).mem_iff.1 he) with rfl | he
    · exact hk
    · exact h e he
theorem map_upd_set {k : MK} {v : AV} : ∀ {es : List (MK × AV)} {j : Nat} {e : MK × AV}, (es.map Prod.fst).Nodup → es[j]? = some e → e.1 = k → es.map (updS k v) = es.set j (k, v)
  | [], j, e, _, h, _ => by simp at h
  | e' :: es, 0, e, hn, h, hk => by
    simp at h
    subst h
    simp only [List.map_cons, List.nodup_cons] at hn
    have h1 : updS k v e' = (k, v) := by unfold updS; rw [keq_iff.2 hk.symm]; rfl
    have h2 : es.map (updS k v) = es := by
      conv => rhs; rw [← List.map_id es]
      refine List.map_congr_left fun e2 he => ?_
      unfold updS
      cases hb : keqB k e2.1 with
      | false => rfl
      | true => exact absurd (List.mem_map.2 ⟨e2, he, by rw [← keq_iff.1 hb, hk]⟩) hn.1
    simp [h1, h2]
  | e' :: es, j + 1, e, hn, h, hk => by
    simp only [List.map_cons, List.nodup_cons] at hn
    have h1 : updS k v e' = e' := by
      unfold updS
      cases hb : keqB k e'.1 with
      | false => rfl
      | true =>
        simp at h
        exact absurd (List.mem_map.2 ⟨e, List.mem_of_getElem? h, by rw [hk, keq_iff.1 hb]⟩) hn.1
    simp only [List.map_cons, List.set_cons_succ, h1]
    rw [map_upd_set hn.2 (by simpa using h) hk]
theorem RE_set {m : List Nat} {two : Bool} {k : MK} {v : AV} {V : Value} (hv : R m v V) : ∀ {es : List (MK × AV)} {ess : List MapEntry} (j : Nat), RE m two es ess → RE m two (es.set j (k, v)) (ess.modify j fun e => { e with key := keyV two k, val := V })
  | [], ess, j, h => by
    simp only [RE] at h
    subst h
    simp [RE]
  | (k', v') :: es, ess, 0, h => by
    obtain ⟨e, es', rfl, h1, h2, h3⟩ := h
    exact ⟨_, es', rfl, rfl, hv, h3⟩
  | (k', v') :: es, ess, j + 1, h => by
    obtain ⟨e, es', rfl, h1, h2, h3⟩ := h
    exact ⟨e, _, rfl, h1, h2, RE_set hv j h3⟩
theorem RE_push {m : List Nat} {two : Bool} {k : MK} {v : AV} {V : Value} (hv : R m v V) (born : Nat) : ∀ {es : List (MK × AV)} {ess : List MapEntry}, RE m two es ess → RE m two (es ++ [(k, v)]) (ess ++ [{ key := keyV two k, val := V, born := born }])
  | [], ess, h => by
    simp only [RE] at h
    subst h
    exact ⟨_, [], rfl, rfl, hv, rfl⟩
  | (k', v') :: es, ess, h => by
    obtain ⟨e, es', rfl, h1, h2, h3⟩ := h
    exact ⟨e, _, rfl, h1, h2, RE_push hv born h3⟩
theorem keeps (two : Bool) (k : MK) {P : Program} (w : World) : (Instr.keyThatStays (keyV two k) (keyV two k)).run P w = .ok (keyV two k) w := by
  have h : Instr.sameBits 10000 (keyV two k) (keyV two k) = true := by
    show Instr.sameBits (9998 + 1 + 1) (keyV two k) (keyV two k) = true
    cases two <;> simp [keyV, Instr.sameBits]
  unfold Instr.keyThatStays
  rw [if_pos h]
  rfl
/-- A map in which something is put. -/
def mapPutAt (P : Program) (B : Option AB) (t : TypeId) (k v : AV) : Option AB :=
  match mapT P t, B with
  | some (two, _), some (.map two' es) =>
    match keyA two k with
    | some k => bif two == two' then some (.map two (putS k v es)) else none
    | none => none
  | _, _ => none
def mapPutA (P : Program) (H : List AB) (t : TypeId) (x k v : AV) : Option (List AB) :=
  match x with
  | .map i =>
    match mapPutAt P H[i]? t k v with
    | some B => some (H.set i B)
    | none => none
  | _ => none
theorem mapPutA_ok {P : Program} {m : List Nat} {H H' : List AB} {w : World} (hH : HR m H w) {t : TypeId} {x k v : AV} {X K V : Value} (hx : R m x X) (hk : R m k K) (hv : R m v V) (h : mapPutA P H t x k v = some H') :
    ∃ w', (Instr.mapUpdate t X K V).run P w = .ok () w' ∧ HR m H' w' ∧ Ext m w m w' := by
  unfold mapPutA at h
  split at h
  · rename_i i
    split at h
    · rename_i B hB
      cases h
      unfold mapPutAt at hB
      split at hB
      · rename_i two el two' es hm hes
        split at hB
        · rename_i k' hka
          cases htw : (two == two') with
          | false => rw [htw] at hB; cases hB
          | true =>
          rw [htw] at hB
          have htw : two = two' := by simpa using htw
          subst htw
          cases hB
          obtain ⟨kt, hu, hpk⟩ := mapT_inv hm
          simp only [R] at hx
          obtain ⟨bl, hbl, rfl⟩ := hx
          obtain ⟨rfl, hk0⟩ := keyA_ok hka hk
          obtain ⟨b', o, h1, h2, h3⟩ := hH.at_ i hes
          rw [hbl] at h1; cases h1
          obtain ⟨ess, clock, es', rfl, hperm, hre, hnd, hz0⟩ := h3
          have hz0' : two = false → ∀ e ∈ es', e.1.2 = 0 := fun h e he => hz0 h e (hperm.mem_iff.1 he)
          have hnd' : (es'.map Prod.fst).Nodup := (hperm.map Prod.fst).nodup_iff.2 hnd
          have hfind := find_eq (P := P) hpk (k := k') hk0 hre hz0' w
          have hg := MapKept.run_getObj_map (P := P) h2
          have hlt : bl < w.heap.size := (Array.getElem?_eq_some_iff.1 h2).1
          have fin : ∀ (es1 : List (MK × AV)) (ess1 : List MapEntry) (clock1 : Nat), es1.Perm (putS k' v es) → RE m two es1 ess1 → HR m (H.set i (.map two (putS k' v es))) { w with heap := w.heap.setIfInBounds bl (.map ⟨ess1⟩ clock1) } ∧ Ext m w m { w with heap := w.heap.setIfInBounds bl (.map ⟨ess1⟩ clock1) } := by
            intro es1 ess1 clock1 hp1 hR1
            have hheap : ({ w with heap := w.heap.setIfInBounds bl (.map ⟨ess1⟩ clock1) } : World).heap[bl]? = some (.map ⟨ess1⟩ clock1) := by
              simp [hlt]
            have hrest : ∀ j, j ≠ bl → ({ w with heap := w.heap.setIfInBounds bl (.map ⟨ess1⟩ clock1) } : World).heap[j]? = w.heap[j]? := fun j hj => by
              simp [Ne.symm hj]
            exact ⟨hH.put hbl hes rfl (B := .map two (putS k' v es)) (o := .map ⟨ess1⟩ clock1) ⟨ess1, clock1, es1, rfl, hp1, hR1, putS_nodup hnd, fun h => putS_zero (hk0 h) (hz0 h)⟩ trivial hheap hrest, (Ext.refl m w).put hbl (by simp) rfl rfl rfl hrest⟩
          by_cases hhit : ∃ e ∈ es', e.1 = k'
          · obtain ⟨j, e, U, me, q1, q2, q3, q4, q5, q6⟩ := fndL_hit 0 hre hhit
            rw [q1, Nat.zero_add] at hfind
            have hput : (es'.set j (k', v)).Perm (putS k' v es) := by
              rw [← map_upd_set (v := v) hnd' q2 q3]
              have ha : es.any (fun e => keqB k' e.1) = true := any_iff.2 ⟨e, hperm.mem_iff.1 (List.mem_of_getElem? q2), q3⟩
              unfold putS
              rw [ha, cond_true]
              exact hperm.map _
            obtain ⟨f1, f2⟩ := fin _ _ clock hput (RE_set hv j hre)
            refine ⟨_, ?_, f1, f2⟩
            have ej : (((⟨ess⟩ : Array MapEntry)[j]?).map (·.key)).getD (keyV two k') = keyV two k' := by
              have : (⟨ess⟩ : Array MapEntry)[j]? = some me := by simpa using q5
              rw [this]; simpa using q6
            simp only [Instr.mapUpdate, Sem.run_bind, run_underlying hu, Result.andThen_ok, hg, check_ok hpk, hfind, ej, keeps, MapKept.run_setObj_map _ h2]
            have em : (⟨ess⟩ : Array MapEntry).modify j (fun e => { e with key := keyV two k', val := V }) = ⟨ess.modify j fun e => { e with key := keyV two k', val := V }⟩ := Array.toList_inj.1 (by simp)
            rw [em]
          · have hmiss : ∀ e ∈ es', e.1 ≠ k' := fun e he h => hhit ⟨e, he, h⟩
            rw [fndL_miss 0 hre hmiss] at hfind
            have hput : (es' ++ [(k', v)]).Perm (putS k' v es) := by
              have ha : es.any (fun e => keqB k' e.1) = false := by
                cases ha : es.any (fun e => keqB k' e.1) with
                | false => rfl
                | true =>
                  obtain ⟨e, he, hk⟩ := any_iff.1 ha
                  exact absurd hk (hmiss e (hperm.mem_iff.2 he))
              unfold putS
              rw [ha, cond_false]
              exact (List.perm_append_singleton _ _).trans ((hperm.cons _).trans (insS_perm k' v es).symm)
            obtain ⟨f1, f2⟩ := fin _ _ (clock + 1) hput (RE_push hv clock hre)
            refine ⟨_, ?_, f1, f2⟩
            simp only [Instr.mapUpdate, Sem.run_bind, run_underlying hu, Result.andThen_ok, hg, check_ok hpk, hfind, MapKept.run_setObj_map _ h2]
            have em : (⟨ess⟩ : Array MapEntry).push { key := keyV two k', val := V, born := clock } = ⟨ess ++ [{ key := keyV two k', val := V, born := clock }]⟩ := Array.toList_inj.1 (by simp)
            rw [em]
        · cases hB
      · cases hB
    · cases h
  · cases h
/-! ### Two that put under two keys change places -/
theorem insS_comm {k k' : MK} {v v' : AV} (h : k ≠ k') : ∀ es : List (MK × AV), insS k v (insS k' v' es) = insS k' v' (insS k v es) := by
  have tot : kltB k k' = true ∧ kltB k' k = false ∨ kltB k k' = false ∧ kltB k' k = true := by
    obtain ⟨a, b⟩ := k
    obtain ⟨c, d⟩ := k'
    simp only [kltB, Bool.or_eq_true, Bool.or_eq_false_iff, Bool.and_eq_true, Bool.and_eq_false_iff, decide_eq_true_eq, decide_eq_false_iff_not, beq_iff_eq, beq_eq_false_iff_ne, ne_eq]
    simp only [Prod.mk.injEq, ne_eq] at h
    omega
  have trans : ∀ {x y z : MK}, kltB x y = true → kltB y z = true → kltB x z = true := by
    rintro ⟨a, b⟩ ⟨c, d⟩ ⟨e, f⟩
    simp only [kltB, Bool.or_eq_true, Bool.and_eq_true, decide_eq_true_eq, beq_iff_eq]
    omega
  intro es
  induction es with
  | nil =>
    rcases tot with ⟨h1, h2⟩ | ⟨h1, h2⟩ <;> simp [insS, h1, h2]
  | cons e es ih =>
    have ic : ∀ (q : MK) (u : AV) (e : MK × AV) (es : List (MK × AV)), insS q u (e :: es) = bif kltB q e.1 then (q, u) :: e :: es else e :: insS q u es := fun _ _ _ _ => rfl
    rw [ic k', ic k]
    cases a : kltB k' e.1 <;> cases b : kltB k e.1
    · simp only [cond_false, ic, a, b, ih]
    · have c1 : kltB k' k = false := by
        cases hc : kltB k' k with
        | false => rfl
        | true => rw [trans hc b] at a; cases a
      simp only [ic, a, b, c1, cond_true, cond_false]
    · have c1 : kltB k k' = false := by
        cases hc : kltB k k' with
        | false => rfl
        | true => rw [trans hc a] at b; cases b
      simp only [ic, a, b, c1, cond_true, cond_false]
    · rcases tot with ⟨h1, h2⟩ | ⟨h1, h2⟩ <;> simp only [ic, a, b, h1, h2, cond_true, cond_false]
theorem any_putS {k k' : MK} {v : AV} (h : k ≠ k') (es : List (MK × AV)) : (putS k v es).any (fun e => keqB k' e.1) = es.any (fun e => keqB k' e.1) := by
  have key : (∃ e ∈ putS k v es, e.1 = k') ↔ ∃ e ∈ es, e.1 = k' := by
    unfold putS
    cases hb : es.any (fun e => keqB k e.1) with
    | true =>
      rw [cond_true]
      constructor
      · rintro ⟨e, he, hk⟩
        obtain ⟨e', he', rfl⟩ := List.mem_map.1 he
        exact ⟨e', he', by rw [← hk, updS_fst]⟩
      · rintro ⟨e, he, hk⟩
        exact ⟨_, List.mem_map.2 ⟨e, he, rfl⟩, by rw [updS_fst]; exact hk⟩
    | false =>
      rw [cond_false]
      constructor
      · rintro ⟨e, he, hk⟩
        rcases List.mem_cons.1 ((insS_perm k v es).mem_iff.1 he) with rfl | he
        · exact absurd hk h
        · exact ⟨e, he, hk⟩
      · rintro ⟨e, he, hk⟩
        exact ⟨e, (insS_perm k v es).mem_iff.2 (List.mem_cons_of_mem _ he), hk⟩
  rw [Bool.eq_iff_iff, any_iff, any_iff]
  exact key
theorem upd_ins {k k' : MK} {v v' : AV} (h : k ≠ k') : ∀ es : List (MK × AV), (insS k' v' es).map (updS k v) = insS k' v' (es.map (updS k v))
  | [] => by
    have : keqB k k' = false := by
      cases hb : keqB k k' with
      | false => rfl
      | true => exact absurd (keq_iff.1 hb) h
    simp [insS, updS, this]
  | e :: es => by
    have hq : keqB k k' = false := by
      cases hb : keqB k k' with
      | false => rfl
      | true => exact absurd (keq_iff.1 hb) h
    simp only [insS, List.map_cons]
    rw [updS_fst]
    cases kltB k' e.1
    · simp only [cond_false, List.map_cons]
      rw [upd_ins h es]
    · have : updS k v (k', v') = (k', v') := by unfold updS; rw [hq]; rfl
      simp only [cond_true, List.map_cons, this]
theorem putS_comm {k k' : MK} {v v' : AV} (h : k ≠ k') (es : List (MK × AV)) : putS k v (putS k' v' es) = putS k' v' (putS k v es) := by
  have e1 := any_putS (v := v') (Ne.symm h) es
  have e2 := any_putS (v := v) h es
  have pe : ∀ (q : MK) (u : AV) (es : List (MK × AV)), putS q u es = bif es.any (fun e => keqB q e.1) then es.map (updS q u) else insS q u es := fun _ _ _ => rfl
  rw [pe k v (putS k' v' es), e1, pe k' v' (putS k v es), e2, pe k' v' es, pe k v es]
  cases es.any (fun e => keqB k e.1) <;> cases es.any (fun e => keqB k' e.1)
  · simp only [cond_false]; exact insS_comm h es
  · simp only [cond_false, cond_true]; exact (upd_ins (Ne.symm h) es).symm
  · simp only [cond_false, cond_true]; exact upd_ins h es
  · simp only [cond_true, List.map_map]
    refine List.map_congr_left fun e _ => ?_
    simp only [Function.comp]
    have q1 : keqB k k' = false := by
      cases hb : keqB k k' with
      | false => rfl
      | true => exact absurd (keq_iff.1 hb) h
    have q2 : keqB k' k = false := by
      cases hb : keqB k' k with
      | false => rfl
      | true => exact absurd (keq_iff.1 hb).symm h
    unfold updS
    cases a : keqB k e.1 with
    | false => cases b : keqB k' e.1 <;> simp only [cond_true, cond_false, a, b, q1]
    | true =>
      cases b : keqB k' e.1 with
      | false => simp only [cond_true, cond_false, a, q2]
      | true =>
        have e1 := keq_iff.1 a
        have e2 := keq_iff.1 b
        exact absurd (e1.trans e2.symm) h
/-- A new map. -/
theorem HR.pushMap (two : Bool) {m : List Nat} {H : List AB} {w : World} (h : HR m H w) : HR (m ++ [w.heap.size]) (H ++ [.map two []]) (w.alloc (.map #[] 0)) := by
  refine h.grow rfl (fun i k A hk hA hl => ?_) ?_ ?_ ?_
  · have := h.lt hk hA hl
    show (w.heap.push _)[k]? = _
    rw [Array.getElem?_push, if_neg (by omega)]
  · intro j b B h1 _ _ i A h2 h3 h4
    have := h.lt h2 h3 h4
    cases j with
    | zero => simp at h1; omega
    | succ j => simp at h1
  · intro i j b B C h1 h2 _ _ _ _
    cases i with
    | zero =>
      cases j with
      | zero => rfl
      | succ j => simp at h2
    | succ i => simp at h1
  · intro j B hB' _
    cases j with
    | zero =>
      simp at hB'
      subst hB'
      exact ⟨w.heap.size, .map #[] 0, rfl, by show (w.heap.push _)[w.heap.size]? = _; rw [Array.getElem?_push, if_pos rfl], ⟨[], 0, [], rfl, List.Perm.refl _, rfl, by simp, fun _ e he => by cases he⟩, trivial⟩
    | succ j => simp at hB'
theorem newMap_ok (two : Bool) {P : Program} {m : List Nat} {H : List AB} {w : World} (hH : HR m H w) (t : TypeId) :
    (Instr.makeMap t none).run P w = .ok (.map (some w.heap.size)) (w.alloc (.map #[] 0)) ∧ HR (m ++ [w.heap.size]) (H ++ [.map two []]) (w.alloc (.map #[] 0)) ∧ Ext m w (m ++ [w.heap.size]) (w.alloc (.map #[] 0)) ∧ (m ++ [w.heap.size])[H.length]? = some w.heap.size :=
  ⟨by simp [Instr.makeMap, newObj, Sem.run], hH.pushMap two, (Ext.refl m w).push _, by rw [← hH.len]; simp⟩
end Go.Proofs.YtdojnnlhaiennaaGreat.Ae
