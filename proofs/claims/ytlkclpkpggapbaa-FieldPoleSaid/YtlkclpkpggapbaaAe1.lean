/- The interpreter's operations that touch no memory, and that they are the model's. Conditions: none. -/
import Derived.Test.YtlkclpkpggapbaaAe0
import Derived.Laws.Entries
import Derived.ChangeKeysEq
namespace Go.Proofs.Ytlkclpkpggapbaa.Ae
open Go

/-! ### Integers -/
def w64 (n : Int) : Int := (n + 9223372036854775808) % 18446744073709551616 - 9223372036854775808
def wr : IntKind → Int → Int
  | .i64, n => w64 n
  | .u64, n => n % 18446744073709551616
  | .i32, n => (n + 2147483648) % 4294967296 - 2147483648
  | .u32, n => n % 4294967296
  | .i16, n => (n + 32768) % 65536 - 32768
  | .u16, n => n % 65536
  | .i8, n => (n + 128) % 256 - 128
  | .u8, n => n % 256

theorem wr_eq (k : IntKind) (n : Int) : k.wrap n = wr k n := by
  cases k <;> simp [IntKind.wrap, IntKind.signed, IntKind.bits, wr, w64] <;> (try split) <;> omega

/-- The bits of two numbers, met by or, and, xor. -/
def bor (k : IntKind) (x y : Int) : Int := k.wrap (BitVec.ofInt k.bits x ||| BitVec.ofInt k.bits y).toNat
def band (k : IntKind) (x y : Int) : Int := k.wrap (BitVec.ofInt k.bits x &&& BitVec.ofInt k.bits y).toNat
def bxor (k : IntKind) (x y : Int) : Int := k.wrap (BitVec.ofInt k.bits x ^^^ BitVec.ofInt k.bits y).toNat

def p2 (n : Nat) : Int := ((2 ^ n : Nat) : Int)
theorem p2_eq (n : Nat) : (2 : Int) ^ n = p2 n := by simp [p2]

/-! ### The frame's temporaries -/
def get : List (Nat × AV) → Nat → AV
  | [], _ => .any
  | (j, v) :: T, i => bif Nat.beq j i then v else get T i

def TR (m : List Nat) (n : Nat) (T : List (Nat × AV)) (tmps : Array Value) : Prop := tmps.size = n ∧ ∀ i, R m (get T i) (tmps.getD i undef)

theorem TR.put {m : List Nat} {n : Nat} {T : List (Nat × AV)} {tmps : Array Value} (h : TR m n T tmps) {d : Nat} (hd : d < n) {v : AV} {V : Value} (hv : R m v V) :
    TR m n ((d, v) :: T) (tmps.setIfInBounds d V) := by
  refine ⟨by simp [h.1], fun i => ?_⟩
  unfold get
  by_cases e : d = i
  · subst e
    have : Nat.beq d d = true := by simp [Nat.beq_refl]
    rw [this]
    simp only [cond_true]
    have hs : d < tmps.size := h.1 ▸ hd
    simpa [hs] using hv
  · have : Nat.beq d i = false := by
      rw [← Bool.not_eq_true]; intro hh; exact e (Nat.eq_of_beq_eq_true hh)
    rw [this]
    simp only [cond_false]
    have h2 := h.2 i
    simpa [Array.getElem?_setIfInBounds_ne e] using h2

theorem TR.mono {m : List Nat} {n : Nat} {T : List (Nat × AV)} {tmps : Array Value} (x : List Nat) (h : TR m n T tmps) : TR (m ++ x) n T tmps :=
  ⟨h.1, fun i => R_mono x _ (h.2 i)⟩

/-! ### Constants and operands -/
def cAV0 : Value → AV
  | .int k n => .int k n
  | .bool b => .bool b
  | .string s => .str s
  | .pointer none => .nilp
  | .slice none 0 0 => .nils
  | .nilFunc => .nilfn
  | _ => .any
def cAV : Value → AV
  | .agg cs => .agg (cs.toList.map cAV0)
  | v => cAV0 v

theorem R_int (m : List Nat) (k : IntKind) (n : Int) : R m (.int k n) (.int k n) := by simp [R]
theorem R_bool (m : List Nat) (b : Bool) : R m (.bool b) (.bool b) := by simp [R]
theorem R_str (m : List Nat) (b : ByteArray) : R m (.str b) (.string b) := by simp [R]
theorem R_cAV0 (m : List Nat) (v : Value) : R m (cAV0 v) v := by
  unfold cAV0; split <;> simp [R]
theorem RL_cAV0 (m : List Nat) : ∀ l : List Value, RL m (l.map cAV0) l
  | [] => RL_nil.2 rfl
  | v :: l => RL.cons (R_cAV0 m v) (RL_cAV0 m l)
theorem R_cAV (m : List Nat) (v : Value) : R m (cAV v) v := by
  unfold cAV; split
  · rename_i cs; simp only [R]; exact ⟨cs.toList, by simp, RL_cAV0 m _⟩
  · exact R_cAV0 m v

def ev (T : List (Nat × AV)) : Operand → AV
  | .tmp t => get T t
  | .const v => cAV v
  | .func f => .fn f []
  | .global _ => .any

theorem R_ev {m : List Nat} {n : Nat} {T : List (Nat × AV)} {a : Act} (h : TR m n T a.tmps) (x : Operand) : R m (ev T x) (a.eval x) := by
  cases x with
  | tmp t => exact h.2 t
  | const v => exact R_cAV m v
  | func f => simp only [ev, R, Act.eval]; exact ⟨[], rfl, RL_nil.2 rfl⟩
  | global g => simp only [ev, R]

/-! ### Cells -/
def cellsOf? : AV → Option (List AV)
  | .agg l => some l
  | .any => none
  | v => some [v]

theorem R_cells {m : List Nat} {v : AV} {V : Value} (h : R m v V) {l : List AV} (hl : cellsOf? v = some l) : RL m l V.cells.toList := by
  cases v <;> simp only [cellsOf?, Option.some.injEq, reduceCtorEq] at hl <;> subst hl <;> simp only [R] at h
  case agg => obtain ⟨Vs, rfl, hh⟩ := h; simpa [Value.cells] using hh
  case strF => obtain ⟨rfl, h⟩ := h; exact RL.cons (by simp only [R]; exact ⟨trivial, h⟩) (RL_nil.2 rfl)
  case strG => obtain ⟨rfl, h⟩ := h; exact RL.cons (by simp only [R]; exact ⟨trivial, h⟩) (RL_nil.2 rfl)
  case intF => obtain ⟨rfl, h⟩ := h; exact RL.cons (by simp only [R]; exact ⟨trivial, h⟩) (RL_nil.2 rfl)
  all_goals first
    | (subst h; exact RL.cons (by simp [R]) (RL_nil.2 rfl))
    | (obtain ⟨b, hb, rfl⟩ := h; exact RL.cons (by simp only [R]; exact ⟨b, hb, rfl⟩) (RL_nil.2 rfl))
    | (obtain ⟨b, rfl, hb⟩ := h; exact RL.cons (by simp only [R]; exact ⟨b, rfl, hb⟩) (RL_nil.2 rfl))
    | (obtain ⟨b, c, h1, h2, rfl⟩ := h; exact RL.cons (by simp only [R]; exact ⟨b, c, h1, h2, rfl⟩) (RL_nil.2 rfl))

def isAggA (P : Program) (t : TypeId) : Option Bool :=
  match P.underlying t with
  | some (.struct _) | some (.array _ _) => some true
  | some _ => some false
  | none => none
def sizeA (P : Program) (t : TypeId) : Option Nat := (P.info? t).map (·.size)
def zeroA (P : Program) (t : TypeId) : Option AV := ((P.info? t).bind (·.zero)).map cAV

theorem run_isAgg {P : Program} {t : TypeId} {b : Bool} (h : isAggA P t = some b) (w : World) : (isAgg t).run P w = .ok b w := by
  unfold isAggA at h
  cases hu : P.underlying t with
  | none => simp [hu] at h
  | some d => cases d <;> simp [hu] at h <;> subst h <;> simp [isAgg, run_underlying hu]
theorem run_sizeA {P : Program} {t : TypeId} {n : Nat} (h : sizeA P t = some n) (w : World) : (sizeOf t).run P w = .ok n w := by
  unfold sizeA at h
  obtain ⟨i, hi, rfl⟩ := Option.map_eq_some_iff.1 h
  rw [run_sizeOf (w := w) hi]; simp [Program.cellsOf, hi]
theorem run_zeroA {P : Program} {t : TypeId} {v : AV} (h : zeroA P t = some v) (m : List Nat) : ∃ V, (∀ w, (zeroValue t).run P w = .ok V w) ∧ R m v V := by
  unfold zeroA at h
  obtain ⟨z, hz, rfl⟩ := Option.map_eq_some_iff.1 h
  obtain ⟨i, hi, hz⟩ := Option.bind_eq_some_iff.1 hz
  exact ⟨z, fun w => by simp [zeroValue, run_typeInfo w hi, hz], R_cAV m z⟩

def partA (P : Program) (t : TypeId) (cs : List AV) (off : Nat) : Option AV :=
  match isAggA P t with
  | some true => match sizeA P t with
    | some n => some (.agg ((cs.drop off).take n))
    | none => none
  | some false => cs[off]?
  | none => none

theorem RL_extract {m : List Nat} {l : List AV} {cs : Array Value} (h : RL m l cs.toList) (off n : Nat) : RL m ((l.drop off).take n) (cs.extract off (off + n)).toList := by
  have := RL_take n (RL_drop off h)
  rw [Array.toList_extract]
  simpa [List.extract_eq_take_drop] using this

theorem run_partA {P : Program} {t : TypeId} {m : List Nat} {l : List AV} {cs : Array Value} (h : RL m l cs.toList) {off : Nat} {v : AV} (hv : partA P t l off = some v) :
    ∃ V, (∀ w, (part t cs off).run P w = .ok V w) ∧ R m v V := by
  unfold partA at hv
  split at hv
  · rename_i ha
    split at hv
    · rename_i n hn
      cases hv
      refine ⟨.agg (cs.extract off (off + n)), fun w => by simp [part, run_isAgg ha, run_sizeA hn], ?_⟩
      simp only [R]
      exact ⟨_, rfl, RL_extract h off n⟩
    · cases hv
  · rename_i ha
    obtain ⟨V, h1, h2⟩ := RL_get h hv
    have h1' : cs[off]? = some V := by simpa using h1
    exact ⟨V, fun w => by simp [part, run_isAgg ha, h1'], h2⟩
  · cases hv

/-! ### Writing parts into cells -/
def setL : List AV → Nat → List AV → List AV
  | cs, _, [] => cs
  | cs, off, c :: l => setL (cs.set off c) (off + 1) l

theorem RL_setL {m : List Nat} : ∀ {l : List AV} {Vs : List Value}, RL m l Vs → ∀ (off k : Nat) {cs : List AV} {Cs : Array Value}, RL m cs Cs.toList →
    RL m (setL cs (off + k) l) ((Vs.zipIdx k).foldl (fun cs (c, j) => cs.setIfInBounds (off + j) c) Cs).toList
  | [], _, h, off, k, cs, Cs, hc => by rw [RL_nil.1 h]; simpa [setL] using hc
  | v :: l, _, h, off, k, cs, Cs, hc => by
    obtain ⟨V, Vs', rfl, h2, h3⟩ := RL_cons.1 h
    simp only [setL, List.zipIdx_cons, List.foldl_cons]
    have := RL_setL h3 off (k + 1) (cs := cs.set (off + k) v) (Cs := Cs.setIfInBounds (off + k) V) (by
      rw [Array.toList_setIfInBounds]; exact RL_set h2 _ hc)
    simpa [Nat.add_assoc] using this

theorem length_setL : ∀ (l : List AV) (cs : List AV) (off : Nat), (setL cs off l).length = cs.length
  | [], _, _ => rfl
  | _ :: l, cs, off => by simp [setL, length_setL l]

def fillA (place : Nat → Option (Nat × Nat)) (cells : List AV) : List (Nat × AV) → Option (List AV)
  | [] => some cells
  | (i, v) :: rest =>
    match place i, cellsOf? v with
    | some (off, size), some l => bif (Nat.beq l.length size && Nat.ble (off + l.length) cells.length) then fillA place (setL cells off l) rest else none
    | _, _ => none

/-- Parts that stand for parts. -/
def RP (m : List Nat) : List (Nat × AV) → List (Nat × Value) → Prop
  | [], Ps => Ps = []
  | (i, v) :: ps, Ps => ∃ V Ps', Ps = (i, V) :: Ps' ∧ R m v V ∧ RP m ps Ps'

theorem RP_map {m : List Nat} {f : Operand → AV} {g : Operand → Value} (h : ∀ x, R m (f x) (g x)) : ∀ l : List (Nat × Operand), RP m (l.map fun (i, x) => (i, f x)) (l.map fun (i, x) => (i, g x))
  | [] => rfl
  | (i, x) :: l => ⟨g x, _, rfl, h x, RP_map h l⟩

theorem fillA_ok {m : List Nat} {place : Nat → Option (Nat × Nat)} : ∀ {ps : List (Nat × AV)} {Ps : List (Nat × Value)} {cs : List AV} {Cs : Array Value} {l : List AV},
    RP m ps Ps → RL m cs Cs.toList → fillA place cs ps = some l → ∃ L, Instr.fill place Cs Ps = some L ∧ RL m l L.toList
  | [], Ps, cs, Cs, l, hp, hc, h => by
    cases hp; simp only [fillA, Option.some.injEq] at h; subst h; exact ⟨Cs, rfl, hc⟩
  | (i, v) :: ps, Ps, cs, Cs, l, hp, hc, h => by
    obtain ⟨V, Ps', rfl, hv, hps⟩ := hp
    simp only [fillA] at h
    split at h
    · rename_i off size lv hpl hcv
      cases hb : (Nat.beq lv.length size && Nat.ble (off + lv.length) cs.length) with
      | false => rw [hb] at h; cases h
      | true =>
        rw [hb] at h
        simp only [cond_true] at h
        simp only [Bool.and_eq_true] at hb
        have e1 := Nat.eq_of_beq_eq_true hb.1
        have e2 := Nat.le_of_ble_eq_true hb.2
        have hcl := R_cells hv hcv
        have n1 : V.cells.size = lv.length := by have := RL_len hcl; simpa using this
        have n2 : Cs.size = cs.length := by have := RL_len hc; simpa using this
        have hset := RL_setL hcl off 0 hc
        simp only [Nat.add_zero] at hset
        obtain ⟨L, hL, hR⟩ := fillA_ok hps hset h
        refine ⟨L, ?_, hR⟩
        simp only [Instr.fill, hpl, n1, n2]
        rw [if_neg (by simp [e1]; omega)]
        rw [← hL]
        congr 1
        rw [← Array.foldl_toList]
        simp
    · cases h

/-! ### Comparisons and arithmetic -/
section
variable {ρ : Type}

def abinI (op : BinOp) (k : IntKind) (x y : Int) (K : AV → Option ρ) : Option ρ :=
  match op with
  | .add => K (.int k (wr k (x + y)))
  | .sub => K (.int k (wr k (x - y)))
  | .mul => K (.int k (wr k (x * y)))
  | .quo => bif y == 0 then none else K (.int k (wr k (x.tdiv y)))
  | .rem => bif y == 0 then none else K (.int k (x.tmod y))
  | .and => K (.int k (band k x y))
  | .or => K (.int k (bor k x y))
  | .xor => K (.int k (bxor k x y))
  | .eql => K (.bool (x == y))
  | .neq => K (.bool (x != y))
  | .lss => K (.bool (decide (x < y)))
  | .leq => K (.bool (decide (x ≤ y)))
  | .gtr => K (.bool (decide (x > y)))
  | .geq => K (.bool (decide (x ≥ y)))
  | _ => none

def ashift (left : Bool) (k : IntKind) (x y : Int) (K : AV → Option ρ) : Option ρ :=
  bif decide (y < 0) then none else bif left then K (.int k (wr k (x * p2 (min y.toNat k.bits)))) else K (.int k (x / p2 (min y.toNat k.bits)))

/-- Equality of two values of one type, where it can be told. -/
def aeq (P : Program) : Nat → TypeId → AV → AV → Option Bool
  | 0, _, _, _ => none
  | d + 1, t, x, y =>
    match P.underlying t, x, y with
    | some .bool, .bool a, .bool b => some (a == b)
    | some (.int _), .int k a, .int k' b => if k = k' then some (a == b) else none
    | some .string, .str a, .str b => some (a == b)
    | some (.pointer _), .nilp, .nilp => some true
    | some (.pointer _), .nilp, .ptr .. => some false
    | some (.pointer _), .ptr .., .nilp => some false
    | some (.func ..), .nilfn, .nilfn => some true
    | some (.func ..), .nilfn, .fn .. => some false
    | some (.func ..), .fn .., .nilfn => some false
    | some (.slice _), .nils, .nils => some true
    | some (.slice _), .slice .., .nils => some false
    | some (.slice _), .nils, .slice .. => some false
    | some (.struct fs), .agg xs, .agg ys => if P.stoodInHeld t then none else aeqFields (aeq P d) P xs ys fs.toList
    | some (.array n e), .agg xs, .agg ys => match sizeA P e with
      | some sz => aeqItems (aeq P d) P xs ys e sz n 0
      | none => none
    | _, _, _ => none
where
  aeqFields (rec : TypeId → AV → AV → Option Bool) (P : Program) (xs ys : List AV) : List Field → Option Bool
    | [] => some true
    | f :: fs =>
      if f.name ≠ "_" then
        match partA P f.type xs f.offset, partA P f.type ys f.offset with
        | some a, some b => match rec f.type a b with
          | some r => match aeqFields rec P xs ys fs with
            | some s => some (r && s)
            | none => none
          | none => none
        | _, _ => none
      else aeqFields rec P xs ys fs
  aeqItems (rec : TypeId → AV → AV → Option Bool) (P : Program) (xs ys : List AV) (e : TypeId) (sz : Nat) : Nat → Nat → Option Bool
    | 0, _ => some true
    | n + 1, i =>
      match partA P e xs (i * sz), partA P e ys (i * sz) with
      | some a, some b => match rec e a b with
        | some r => match aeqItems rec P xs ys e sz n (i + 1) with
          | some s => some (r && s)
          | none => none
        | none => none
      | _, _ => none

/-- Nothing in the way of a comparison (the model's own guard at values that are aggregates). -/
def eqFree (P : Program) (t : TypeId) : AV → Bool
  | .agg _ => !P.eqGuardType P.depth t
  | _ => true

/-- Of a kind that == compares by the model's general equality. -/
def plainEq : AV → Bool
  | .bool _ | .ptr .. | .nilp | .fn .. | .nilfn | .slice .. | .nils | .agg _ => true
  | _ => false

def abin (P : Program) (op : BinOp) (t : TypeId) (x y : AV) (K : AV → Option ρ) : Option ρ :=
  match x, y with
  | .int k a, .int k' b =>
    match op with
    | .shl => ashift true k a b K
    | .shr => ashift false k a b K
    | op => if k = k' then abinI op k a b K else none
  | .intF k a lo hi ex, .int k' b =>
    if k = k' then
      match op with
      | .neq => bif ex.any (fun c => c == b) then K (.bool true) else K (.bool (a != b))
      | .eql => bif ex.any (fun c => c == b) then K (.bool false) else K (.bool (a == b))
      | .lss => bif lo.any (fun l => decide (b ≤ l)) then K (.bool false) else bif hi.any (fun l => decide (l < b)) then K (.bool true) else K (.bool (decide (a < b)))
      | .gtr => bif lo.any (fun l => decide (b < l)) then K (.bool true) else bif hi.any (fun l => decide (l ≤ b)) then K (.bool false) else K (.bool (decide (a > b)))
      | _ => none
    else none
  | .int k b, .intF k' a _ _ ex =>
    if k = k' then
      match op with
      | .neq => bif ex.any (fun c => c == b) then K (.bool true) else K (.bool (b != a))
      | .eql => bif ex.any (fun c => c == b) then K (.bool false) else K (.bool (b == a))
      | _ => none
    else none
  | .str a, .str b =>
    match op with
    | .eql => K (.bool (a == b))
    | .neq => K (.bool (!(a == b)))
    | .add => bif decide (a.size + b.size ≤ 4611686018427387904) then K (.str (a ++ b)) else none
    | _ => none
  | x, y =>
    match op with
    | .eql => bif plainEq x && eqFree P t x then match aeq P 10000 t x y with
      | some b => K (.bool b)
      | none => none else none
    | .neq => bif plainEq x && eqFree P t x then match aeq P 10000 t x y with
      | some b => K (.bool (!b))
      | none => none else none
    | _ => none

def aun (op : UnOp) (x : AV) : Option AV :=
  match op, x with
  | .neg, .int k n => some (.int k (wr k (0 - n)))
  | .not, .bool b => some (.bool (!b))
  | _, _ => none

end
#print axioms fillA_ok
end Go.Proofs.Ytlkclpkpggapbaa.Ae
