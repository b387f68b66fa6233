/- The interpreter of regions and of code, and that what it finds is what the model's call comes to. Conditions: each function that is looked up in the list of contracts has the contract that stands there. -/
import Derived.Test.YtlkclpkpggapbaaAe4b
namespace Go.Proofs.Ytlkclpkpggapbaa.Ae
open Go

/-- How a function is taken: by a contract without memory, by one with memory, by the library's own row, or by its text. -/
inductive Spec where
  | pure (C : List AV → Bool) (F : List AV → Option AV)
  | eff (C : List AV → Bool) (F : List AV → List AB → Option (AV × List AB))
  | ext (C : List AV → Bool) (F : List AV → Option AV)
  | calc (F : List AV → Option AV)
  | flow (T : TypeId) (F : List AV → Option (Bool → AV × Bool))
  | clo (T : TypeId) (F : List AV → Option (Bool → AV × Bool))
  | text

/-- F: what the arguments behind the flow come to; g: the answer, and whether the flow is bad. -/
def flowSpec (T : TypeId) (F : List AV → Option (Bool → AV × Bool)) : List AV → List AB → Option (AV × List AB)
  | .ptr j 0 :: rest, H =>
    match H[j]? with
    | some (.cells [.bool b] t) =>
      bif Nat.beq t T && AV.noPtrL rest then
        match F rest with
        | some g => some ((g b).1, H.set j (.cells [.bool (g b).2] T))
        | none => none
      else none
    | _ => none
  | _, _ => none

/-- A function value of two arguments that keeps where the flow's pointer lies. -/
def cloSpec (T : TypeId) (F : List AV → Option (Bool → AV × Bool)) : List AV → List AB → Option (AV × List AB)
  | [a, b, .ptr x 0], H =>
    match H[x]? with
    | some (.cells [.ptr j 0] _) =>
      match H[j]? with
      | some (.cells [.bool y] t) =>
        bif Nat.beq t T && AV.noPtrL [a, b] then
          match F [a, b] with
          | some g => some ((g y).1, H.set j (.cells [.bool (g y).2] T))
          | none => none
        else none
      | _ => none
    | _ => none
  | _, _ => none

def EnterOk (P : Program) (f : FuncId) : Prop := ∀ Args w, (callFunc f Args).run P w = .ok (.enter f Args) w
def PureOk (P : Program) (f : FuncId) (C : List AV → Bool) (F : List AV → Option AV) : Prop := ∀ args v, C args = true → F args = some v → ∀ m (Args : Array Value) w, RL m args Args.toList →
  Calls P f Args w fun e w' => ∃ V, e = .returned V ∧ R [] v V ∧ Ext [] w [] w'
def EffOk (P : Program) (f : FuncId) (C : List AV → Bool) (F : List AV → List AB → Option (AV × List AB)) : Prop := ∀ args H v H', C args = true → F args H = some (v, H') → ∀ m (Args : Array Value) w, RL m args Args.toList → HR m H w →
  Calls P f Args w fun e w' => ∃ V m', e = .returned V ∧ R m' v V ∧ HR m' H' w' ∧ Ext m w m' w'
def ExtOk (P : Program) (f : FuncId) (C : List AV → Bool) (F : List AV → Option AV) : Prop := ∀ args v, C args = true → F args = some v → ∀ m (Args : Array Value), RL m args Args.toList → ∃ V, R m v V ∧ ∀ w, (callFunc f Args).run P w = .ok (.value V) w

def SpecOk (P : Program) (f : FuncId) : Spec → Prop
  | .pure C F => EnterOk P f ∧ PureOk P f C F
  | .eff C F => EnterOk P f ∧ EffOk P f C F
  | .ext C F => ExtOk P f C F
  | .calc F => EnterOk P f ∧ PureOk P f (fun _ => true) F
  | .flow T F => EnterOk P f ∧ EffOk P f (fun _ => true) (flowSpec T F)
  | .clo T F => EnterOk P f ∧ EffOk P f (fun _ => true) (cloSpec T F)
  | .text => EnterOk P f

abbrev Env := List (FuncId × Spec)
def envGet : Env → FuncId → Option Spec
  | [], _ => none
  | (g, s) :: env, f => bif Nat.beq g f then some s else envGet env f
def EnvOk (P : Program) (env : Env) : Prop := ∀ f s, envGet env f = some s → SpecOk P f s

theorem EnvOk.nil (P : Program) : EnvOk P [] := fun f s h => by simp [envGet] at h
theorem EnvOk.cons {P : Program} {f : FuncId} {s : Spec} {env : Env} (h : SpecOk P f s) (t : EnvOk P env) : EnvOk P ((f, s) :: env) := fun g u hg => by
  simp only [envGet] at hg
  cases hb : Nat.beq f g with
  | true => rw [hb] at hg; simp only [cond_true, Option.some.injEq] at hg; rw [← Nat.eq_of_beq_eq_true hb, ← hg]; exact h
  | false => rw [hb] at hg; exact t g u hg
theorem EnvOk.append {P : Program} : ∀ {e1 e2 : Env}, EnvOk P e1 → EnvOk P e2 → EnvOk P (e1 ++ e2)
  | [], _, _, h2 => h2
  | (g, s) :: e1, e2, h1, h2 => fun f u hf => by
    simp only [List.cons_append, envGet] at hf
    cases hb : Nat.beq g f with
    | true => rw [hb] at hf; exact h1 f u (by simp only [envGet, hb]; exact hf)
    | false =>
      rw [hb] at hf
      simp only [cond_false] at hf
      by_cases hin : ∃ q : Spec, envGet e1 f = some q
      · obtain ⟨q, hq⟩ := hin
        have key : ∀ (e1 : Env), envGet e1 f = some q → envGet (e1 ++ e2) f = some q := by
          intro e1
          induction e1 with
          | nil => intro h; simp [envGet] at h
          | cons p e1 ih =>
            obtain ⟨g', s'⟩ := p
            intro h
            simp only [List.cons_append, envGet] at h ⊢
            cases hb' : Nat.beq g' f with
            | true => rw [hb'] at h; exact h
            | false => rw [hb'] at h; exact ih h
        rw [key e1 hq] at hf
        cases hf
        exact h1 f u (by simp only [envGet, hb]; exact hq)
      · have key : ∀ (e1 : Env), (¬ ∃ q : Spec, envGet e1 f = some q) → envGet (e1 ++ e2) f = envGet e2 f := by
          intro e1
          induction e1 with
          | nil => intro _; rfl
          | cons p e1 ih =>
            obtain ⟨g', s'⟩ := p
            intro h
            simp only [List.cons_append, envGet] at h ⊢
            cases hb' : Nat.beq g' f with
            | true => rw [hb'] at h; exact absurd ⟨s', rfl⟩ h
            | false => rw [hb'] at h; exact ih h
        rw [key e1 hin] at hf
        exact h2 f u hf

section
variable {ρ : Type}

/-- Built-in functions of numbers, and len. -/
def abuiltin (P : Program) (b : Builtin) (ts : Array TypeId) (args : List AV) (K : AV → Option ρ) : Option ρ :=
  match b, args with
  | .len, [x] =>
    match ts[0]? with
    | some t =>
      match P.underlying t, x with
      | some .string, .str s => K (.int .i64 s.size)
      | some .string, .strG _ n _ => K (.int .i64 n)
      | some .string, .strF s lo _ ex => K (.intF .i64 s.size [(lo : Int)] [] ex)
      | some (.array n _), _ => K (.int .i64 n)
      | some (.slice _), .slice _ _ n _ => K (.int .i64 n)
      | some (.slice _), .nils => K (.int .i64 0)
      | some (.slice _), .own _ n => K (.int .i64 n)
      | _, _ => none
    | none => none
  | .max, [.int k x, .int _ y] => K (.int k (if y > x then y else x))
  | .min, [.int k x, .int _ y] => K (.int k (if y < x then y else x))
  | _, _ => none

def aput (n : Nat) (dst : Option Tmp) (v : AV) (T : List (Nat × AV)) (K : List (Nat × AV) → Option ρ) : Option ρ :=
  match dst with
  | none => K T
  | some d => bif Nat.ble (d + 1) n then K ((d, v) :: T) else none

/-- An operation under its guard: what is known of the guard is kept. -/
def aguard (ops : Array Oper) (n : Nat) (o : Oper) (T : List (Nat × AV)) (run skip : List (Nat × AV) → Option ρ) : Option ρ :=
  match o.guard with
  | none => run T
  | some (j, want) =>
    match (ops[j]?).bind (·.dst) with
    | none => none
    | some d =>
      bif Nat.ble (d + 1) n then
        match get T d with
        | .bool x => bif x then (if want then run ((d, .bool true) :: T) else skip ((d, .bool true) :: T)) else (if want then skip ((d, .bool false) :: T) else run ((d, .bool false) :: T))
        | _ => none
      else none

def isMem : Op → Bool
  | .alloc _ | .box .. | .buildSlice .. | .store .. | .makeMap .. | .mapUpdate .. | .insert .. => true
  | _ => false

/-- One operation of a region that doesn't draw. -/
def aexec (P : Program) (doCall : FuncId → List AV → List AB → (AV → List AB → Option ρ) → Option ρ) (o : Oper) (T : List (Nat × AV)) (H : List AB) (K : AV → List AB → Option ρ) : Option ρ :=
  match o.op with
  | .call c =>
    match c.callee with
    | .value f =>
      match ev T f with
      | .fn fid cap => doCall fid (c.args.toList.map (ev T) ++ cap) H K
      | _ => none
    | .builtin b =>
      match b with
      | .append => aappend P c.argTypes (c.args.toList.map (ev T)) H K
      | b => abuiltin P b c.argTypes (c.args.toList.map (ev T)) fun v => K v H
    | .invoke .. => none
  | .load t a =>
    match loadA P H t (ev T a) with
    | some v => K v H
    | none => none
  | .lookup t x k ok =>
    match lookupA P H t (ev T x) (ev T k) ok with
    | some v => K v H
    | none => none
  | .makeSlice t l c => amake P t (ev T l) (ev T c) H K
  | .convert s d x => bif isRowConv P s d then aconvR P s d (ev T x) H K else apure P (ev T) (.convert s d x) fun v => K v H
  | op => bif isMem op then amem P (ev T) H op K else apure P (ev T) op fun v => K v H

def aops (P : Program) (doCall : FuncId → List AV → List AB → (AV → List AB → Option ρ) → Option ρ) (ops : Array Oper) (n : Nat) :
    List Oper → List (Nat × AV) → List AB → (List (Nat × AV) → List AB → Option ρ) → Option ρ
  | [], T, H, K => K T H
  | o :: rest, T, H, K =>
    aguard ops n o T
      (fun T => aexec P doCall o T H fun v H => aput n o.dst v T fun T => aops P doCall ops n rest T H K)
      (fun T => aput n o.dst .any T fun T => aops P doCall ops n rest T H K)

/-! ### Guarded operations carried out ahead of what is known of their guard; ways that meet again -/
/-- What a guarded operation has found: its slot, the guard's slot and what is wanted there, the value. -/
abbrev Weak := List (Nat × Nat × Bool × AV)
def wget : Weak → Nat → Option (Nat × Bool × AV)
  | [], _ => none
  | (d, s, w, v) :: G, i => bif Nat.beq d i then some (s, w, v) else wget G i
/-- Is a slot a guard of one of them? -/
def wguards : Weak → Nat → Bool
  | [], _ => false
  | (_, s, _, _) :: G, i => Nat.beq s i || wguards G i
def inCtx : List (Nat × Bool) → Nat → Bool → Bool
  | [], _, _ => false
  | (s, w) :: c, i, x => (Nat.beq s i && (w == x)) || inCtx c i x

def evC (T : List (Nat × AV)) (G : Weak) (ctx : List (Nat × Bool)) : Operand → AV
  | .tmp i =>
    match wget G i with
    | some (s, w, v) => bif inCtx ctx s w then v else .any
    | none => get T i
  | x => ev T x

def isConstInt : Operand → Bool
  | .const (.int _ n) => !(n == 0)
  | _ => false
/-- Operations whose going through doesn't hang on what numbers they are given. -/
def isSpec : Op → Bool
  | .move _ | .assign _ | .unOp .. | .convert .. | .fieldAddr .. | .field .. | .extract .. | .load .. | .pick (.tmp _) _ _ | .nilCheck _ => true
  | .binOp op _ _ y _ =>
    match op with
    | .quo | .rem | .shl | .shr => isConstInt y
    | _ => true
  | .indexAddr _ _ i | .index _ _ i => match i with
    | .const _ => true
    | _ => false
  | .call c => match c.callee with
    | .builtin .len | .builtin .max | .builtin .min => true
    | _ => false
  | _ => false

/-- An operation that touches no more than memory that it reads, by what the operands are said to be. -/
def aread (P : Program) (e : Operand → AV) (H : List AB) (o : Op) : Option AV :=
  match o with
  | .call c =>
    match c.callee with
    | .builtin b => abuiltin P b c.argTypes (c.args.toList.map e) some
    | _ => none
  | .load t a => loadA P H t (e a)
  | op => bif isMem op then none else apure P e op some

/-- .. and a choice by a slot, each way read where the slot says so. -/
def areadC (P : Program) (T : List (Nat × AV)) (G : Weak) (ctx : List (Nat × Bool)) (H : List AB) (o : Op) : Option AV :=
  match o with
  | .pick (.tmp s) a b =>
    match evC T G ctx (.tmp s) with
    | .bool x => some (mergeAV x (evC T G ((s, true) :: ctx) a) (evC T G ((s, false) :: ctx) b))
    | _ => none
  | op => aread P (evC T G ctx) H op

/-- Is a slot neither a guard nor guarded? -/
def dstFree (G : Weak) : Option Tmp → Bool
  | some d => !(wguards G d) && (wget G d).isNone
  | none => true

/-- A region whose guarded operations are all of that kind. -/
def aopsS (P : Program) (doCall : FuncId → List AV → List AB → (AV → List AB → Option ρ) → Option ρ) (ops : Array Oper) (n : Nat) :
    List Oper → List (Nat × AV) → Weak → List AB → (List (Nat × AV) → List AB → Option ρ) → Option ρ
  | [], T, _, H, K => K T H
  | o :: rest, T, G, H, K =>
    match o.guard with
    | none =>
      bif dstFree G o.dst then
        bif isSpec o.op then
          match areadC P T G [] H o.op with
          | some v => aput n o.dst v T fun T => aopsS P doCall ops n rest T G H K
          | none => none
        else aexec P doCall o T H fun v H => aput n o.dst v T fun T => aopsS P doCall ops n rest T G H K
      else none
    | some (j, want) =>
      match (ops[j]?).bind (·.dst), o.dst with
      | some s, some d =>
        bif Nat.ble (d + 1) n && !(Nat.beq d s) && !(wguards G d) then
          match areadC P T G [(s, want)] H o.op with
          | some v => aopsS P doCall ops n rest ((d, .any) :: T) ((d, s, want, v) :: G) H K
          | none => none
        else none
      | _, _ => none

/-- Are all guarded operations of that kind (and is there one)? -/
def specAll (ops : Array Oper) : Bool := ops.toList.any (fun o => o.guard.isSome) && ops.toList.all (fun o => match o.guard with | none => true | some _ => isSpec o.op)

/-- A call that only reckons. -/
def acalc (env : Env) (e : Operand → AV) (c : Call) : Option AV :=
  match c.callee with
  | .value (.func f) =>
    match envGet env f with
    | some (.calc F) =>
      match F (c.args.toList.map e) with
      | some v => bif v.noPtr then some v else none
      | none => none
    | _ => none
  | _ => none
def isCalc (env : Env) : Op → Bool
  | .call c =>
    match c.callee with
    | .value (.func f) =>
      match envGet env f with
      | some (.calc _) => true
      | _ => false
    | _ => false
  | _ => false
def isStore : Op → Bool
  | .store .. => true
  | _ => false

def asval (P : Program) (env : Env) (T : List (Nat × AV)) (G : Weak) (H : List AB) (op : Op) : Option AV :=
  match op with
  | .call c => bif isCalc env (.call c) then acalc env (ev T) c else areadC P T G [] H (.call c)
  | op => areadC P T G [] H op

/-- Operations that reckon, and stores, in one way; the blocks that are written are told. -/
def asops (P : Program) (env : Env) (ops : Array Oper) (n : Nat) : List Oper → List (Nat × AV) → Weak → List AB → List Nat → Option (List (Nat × AV) × List AB × List Nat)
  | [], T, _, H, W => some (T, H, W)
  | o :: rest, T, G, H, W =>
    match o.guard with
    | none =>
      bif dstFree G o.dst then
        match o.op with
        | .store t a x =>
          match o.dst, ev T a with
          | none, .ptr i _ =>
            match amem P (ev T) H (.store t a x) (fun _ H' => some H') with
            | some H' => asops P env ops n rest T G H' (i :: W)
            | none => none
          | _, _ => none
        | op =>
          match asval P env T G H op with
          | some v =>
            match o.dst with
            | none => asops P env ops n rest T G H W
            | some d => bif Nat.ble (d + 1) n then asops P env ops n rest ((d, v) :: T) G H W else none
          | none => none
      else none
    | some (j, want) =>
      match (ops[j]?).bind (·.dst), o.dst with
      | some s, some d =>
        bif Nat.ble (d + 1) n && !(Nat.beq d s) && !(wguards G d) then
          match areadC P T G [(s, want)] H o.op with
          | some v => asops P env ops n rest ((d, .any) :: T) ((d, s, want, v) :: G) H W
          | none => none
        else none
      | _, _ => none

/-- Code that only reckons, and stores, in one way. -/
def simple (env : Env) : Code → Bool
  | .skip => true
  | .region _ ops false => ops.toList.all (fun o => isSpec o.op || (o.guard.isNone && (isStore o.op || isCalc env o.op)))
  | .seq a b => simple env a && simple env b
  | _ => false
/-- The slots that such code writes. -/
def writes : Code → List Nat
  | .region _ ops _ => ops.toList.filterMap (·.dst)
  | .seq a b => writes a ++ writes b
  | _ => []
def asimple (P : Program) (env : Env) (n : Nat) : Code → List (Nat × AV) → List AB → List Nat → Option (List (Nat × AV) × List AB × List Nat)
  | .skip, T, H, W => some (T, H, W)
  | .region _ ops false, T, H, W => asops P env ops n ops.toList T [] H W
  | .seq a b, T, H, W =>
    match asimple P env n a T H W with
    | some (T', H', W') => asimple P env n b T' H' W'
    | none => none
  | _, _, _, _ => none
def mergeT (x : Bool) (Ta Tb : List (Nat × AV)) : List Nat → List (Nat × AV) → List (Nat × AV)
  | [], T => T
  | d :: ds, T => (d, mergeAV x (get Ta d) (get Tb d)) :: mergeT x Ta Tb ds T
def mergeB (x : Bool) : AB → AB → Option AB
  | .cells l t, .cells l' t' => bif Nat.beq t t' && Nat.beq l.length l'.length then some (.cells (mergeL x l l') t) else none
  | _, _ => none
def mergeH (x : Bool) (Ha Hb : List AB) : List Nat → List AB → Option (List AB)
  | [], H => some H
  | i :: is, H =>
    match Ha[i]?, Hb[i]? with
    | some A, some B =>
      match mergeB x A B with
      | some C => mergeH x Ha Hb is (H.set i C)
      | none => none
    | _, _ => none

/-- One operation of a region that draws its order: it reads, or calls what writes nothing. -/
def aexecQ (P : Program) (env : Env) (o : Oper) (T : List (Nat × AV)) (H : List AB) (K : AV → Option ρ) : Option ρ :=
  match o.op with
  | .call c =>
    match c.callee with
    | .value f =>
      match ev T f with
      | .fn fid [] =>
        match envGet env fid with
        | some (.pure C F) =>
          bif C (c.args.toList.map (ev T)) then
            match F (c.args.toList.map (ev T)) with
            | some v => bif v.noPtr then K v else none
            | none => none
          else none
        | _ => none
      | _ => none
    | .builtin b => abuiltin P b c.argTypes (c.args.toList.map (ev T)) K
    | .invoke .. => none
  | .load t a =>
    match loadA P H t (ev T a) with
    | some v => K v
    | none => none
  | op => bif isMem op then none else apure P (ev T) op K

def aopsQ (P : Program) (env : Env) (ops : Array Oper) (n : Nat) (H : List AB) :
    List Oper → List (Nat × AV) → (List (Nat × AV) → Option ρ) → Option ρ
  | [], T, K => K T
  | o :: rest, T, K =>
    aguard ops n o T
      (fun T => aexecQ P env o T H fun v => aput n o.dst v T fun T => aopsQ P env ops n H rest T K)
      (fun T => aput n o.dst .any T fun T => aopsQ P env ops n H rest T K)

/-! ### Regions that draw their order, with calls that write -/
/-- A call by a contract. -/
def dcD (env : Env) : FuncId → List AV → List AB → (AV → List AB → Option ρ) → Option ρ := fun fid args H K =>
  match envGet env fid with
  | some (.pure C F) =>
    bif C args then
      match F args with
      | some v => bif v.noPtr then K v H else none
      | none => none
    else none
  | some (.ext C F) =>
    bif C args then
      match F args with
      | some v => K v H
      | none => none
    else none
  | some (.calc F) =>
    match F args with
    | some v => bif v.noPtr then K v H else none
    | none => none
  | some (.flow T F) =>
    match flowSpec T F args H with
    | some (v, H') => K v H'
    | none => none
  | some (.clo T F) =>
    match cloSpec T F args H with
    | some (v, H') => K v H'
    | none => none
  | _ => none

/-- What an operation touches of memory. -/
inductive Foot where
  | none
  | rd (b : Nat)
  | wt (b : Nat)
  | al (b : Nat)
  | rw (r b : Nat)
  | put (b : Nat) (k : MK)
  | all
def Foot.clash : Foot → Foot → Bool
  | .none, _ => false
  | _, .none => false
  | .all, _ => true
  | _, .all => true
  | .rd _, .rd _ => false
  | .al _, .al _ => true
  | .rd a, .wt b => Nat.beq a b
  | .rd a, .al b => Nat.beq a b
  | .wt a, .rd b => Nat.beq a b
  | .wt a, .wt b => Nat.beq a b
  | .wt a, .al b => Nat.beq a b
  | .al a, .rd b => Nat.beq a b
  | .al a, .wt b => Nat.beq a b
  | .rd a, .rw _ b => Nat.beq a b
  | .rw _ b, .rd a => Nat.beq b a
  | .wt a, .rw r b => Nat.beq a b || Nat.beq a r
  | .rw r b, .wt a => Nat.beq b a || Nat.beq r a
  | .al a, .rw r b => Nat.beq a b || Nat.beq a r
  | .rw r b, .al a => Nat.beq b a || Nat.beq r a
  | .rw r b, .rw r' b' => Nat.beq b b' || Nat.beq r b' || Nat.beq b r'
  | .rd a, .put b _ => Nat.beq a b
  | .put b _, .rd a => Nat.beq b a
  | .wt a, .put b _ => Nat.beq a b
  | .put b _, .wt a => Nat.beq b a
  | .al a, .put b _ => Nat.beq a b
  | .put b _, .al a => Nat.beq b a
  | .rw r c, .put b _ => Nat.beq c b || Nat.beq r b
  | .put b _, .rw r c => Nat.beq b c || Nat.beq b r
  | .put b k, .put b' k' => Nat.beq b b' && keqB k k'
/-- The operations that may stand in such a region, with what they touch. -/
def footOf (P : Program) (env : Env) (T : List (Nat × AV)) (H : List AB) (o : Op) : Option Foot :=
  match o with
  | .move _ | .assign _ | .pick .. | .nilCheck _ | .binOp .. | .unOp .. | .fieldAddr .. | .field .. | .extract .. | .index .. | .indexAddr .. | .build .. => some .none
  | .convert s d _ => bif isRowConv P s d then some .all else some .none
  | .makeSlice .. | .buildSlice .. | .box .. => some .all
  | .makeMap .. => some (.al H.length)
  | .mapUpdate t x k _ | .insert t x k _ =>
    match mapT P t, ev T x with
    | some (two, _), .map b =>
      match keyA two (ev T k) with
      | some k => some (.put b k)
      | none => none
    | _, _ => none
  | .lookup _ x _ _ => match ev T x with
    | .map b => some (.rd b)
    | _ => none
  | .load _ a => match ev T a with
    | .ptr b _ => some (.rd b)
    | _ => none
  | .store _ a _ => match ev T a with
    | .ptr b _ => some (.wt b)
    | _ => none
  | .alloc _ => some (.al H.length)
  | .call c =>
    match c.callee with
    | .value (.func f) =>
      match envGet env f with
      | some (.pure ..) | some (.ext ..) | some (.calc _) => some .none
      | some (.flow ..) =>
        match c.args.toList.map (ev T) with
        | .ptr j _ :: _ => some (.wt j)
        | _ => none
      | _ => none
    | .builtin b =>
      match b with
      | .append => some .all
      | _ => some .none
    | .value f =>
      match ev T f with
      | .fn fid cap =>
        match envGet env fid, c.args.toList.map (ev T) ++ cap with
        | some (.clo ..), [_, _, .ptr x 0] =>
          match H[x]? with
          | some (.cells [.ptr j 0] _) => some (.rw x j)
          | _ => none
        | _, _ => none
      | _ => none
    | _ => none
  | _ => none

abbrev Foots := List Foot
/-- All that stand behind an operation. -/
def descL (i : Nat) : List Oper → List Bool → List Bool
  | [], D => D
  | o :: l, D => descL i l (D ++ [o.after.toList.any fun e => Region.binds .any e && (Nat.beq e.on i || D.getD e.on false)])
def closedB (i : Nat) (D : List Bool) : Nat → List Oper → Bool
  | _, [] => true
  | k, o :: l => (!(D.getD k false) || o.after.toList.any fun e => Region.binds .any e && (Nat.beq e.on i || D.getD e.on false)) && closedB i D (k + 1) l
/-- Is the operation i free of all that stand behind it in the text and not behind it by what is told? -/
def freeFrom (ops : Array Oper) (oi : Oper) (fi : Foot) (D : List Bool) : Nat → List Oper → Foots → Bool
  | _, [], _ => true
  | _, _ :: _, [] => false
  | k, o :: l, f :: F => (D.getD k false || (oi.apart ops o && !(fi.clash f))) && freeFrom ops oi fi D (k + 1) l F
def orderedB (ops : Array Oper) : Nat → List Oper → Foots → Bool
  | _, [], _ => true
  | _, _ :: _, [] => false
  | k, o :: l, f :: F => (let D := descL k ops.toList []; ((D.take (k + 1)).all fun b => !b) && closedB k D 0 ops.toList && freeFrom ops o f D (k + 1) l F) && orderedB ops (k + 1) l F
/-- In the text's order, each behind what it is told to stand behind. -/
def lexOk (ops : Array Oper) : Nat → Nat → Array Bool → Bool
  | 0, _, listed => (Region.ready .any ops listed).isEmpty
  | f + 1, k, listed => (Region.ready .any ops listed).contains k && lexOk ops f (k + 1) (listed.setIfInBounds k true)

def aopsO (chk : Foots → Bool) (P : Program) (env : Env) (ops : Array Oper) (n : Nat) :
    List Oper → List (Nat × AV) → List AB → Foots → (List (Nat × AV) → List AB → Option ρ) → Option ρ
  | [], T, H, F, K => bif chk F.reverse && orderedB ops 0 ops.toList F.reverse then K T H else none
  | o :: rest, T, H, F, K =>
    aguard ops n o T
      (fun T => match footOf P env T H o.op with
        | some f => aexec P (dcD env) o T H fun v H => aput n o.dst v T fun T => aopsO chk P env ops n rest T H (f :: F) K
        | none => none)
      (fun T => aput n o.dst .any T fun T => aopsO chk P env ops n rest T H (.none :: F) K)

/-! ### Regions in which more than one block is made: the blocks are numbered by the text's order, whatever order is drawn -/
/-- A block that is made: by which operation, into which slot, its cells, its kind. -/
structure Va where
  (i : Nat)
  d : Nat
  l : List AV
  t : TypeId
def vasOf (P : Program) : Nat → List Oper → List Va
  | _, [] => []
  | i, o :: rest =>
    match o.op, o.dst with
    | .alloc t, some d =>
      match (zeroA P t).bind cellsOf? with
      | some l => ⟨i, d, l, t⟩ :: vasOf P (i + 1) rest
      | none => vasOf P (i + 1) rest
    | _, _ => vasOf P (i + 1) rest
def isAllocB : Op → Bool
  | .alloc _ => true
  | _ => false
/-- In place of a making: the number of the block, out of a slot behind all others. -/
def devirt (n : Nat) (o : Oper) : Oper :=
  match o.op, o.dst with
  | .alloc _, some d => { o with op := .move (.tmp (n + d)) }
  | _, _ => o
def slotIn (A : List Va) (t : Nat) : Bool := A.any fun a => Nat.beq a.d t
def aftAll (A : List Va) (o : Oper) : Bool := A.all fun a => o.after.toList.any fun e => Region.binds .any e && Nat.beq e.on a.i
def lowF (L : Nat) : Foot → Bool
  | .none => true
  | .rd b | .wt b | .put b _ => Nat.ble (b + 1) L
  | .rw r b => Nat.ble (r + 1) L && Nat.ble (b + 1) L
  | _ => false
def chkOp (A : List Va) (ops : Array Oper) (n L i : Nat) (o : Oper) (f : Foot) : Bool :=
  o.guard.isNone && bif isAllocB o.op then A.any (fun a => Nat.beq a.i i) && o.after.isEmpty
    else (match o.dst with | some d => Nat.ble (d + 1) n && !(slotIn A d) | none => true) && (o.looksAt ops).all (fun t => Nat.ble (t + 1) n) &&
      (aftAll A o || ((o.looksAt ops).all (fun t => !(slotIn A t)) && lowF L f))
def chkAll (A : List Va) (ops : Array Oper) (n L : Nat) : Nat → List Oper → Foots → Bool
  | _, [], _ => true
  | _, _ :: _, [] => false
  | i, o :: l, f :: F => chkOp A ops n L i o f && chkAll A ops n L (i + 1) l F
def slotsOf (n : Nat) : Nat → List Va → List (Nat × AV)
  | _, [] => []
  | k, a :: A => (n + a.d, .ptr k 0) :: slotsOf n (k + 1) A
def vaBlk (a : Va) : AB := .cells a.l a.t
def maskF (n : Nat) (A : List Va) (T : List (Nat × AV)) : List (Nat × AV) := A.map (fun a => (n + a.d, AV.any)) ++ T
def distB : List Va → Bool
  | [] => true
  | a :: A => !(slotIn A a.d) && distB A
def aopsV (P : Program) (env : Env) (ops : Array Oper) (n : Nat) (A : List Va) (T : List (Nat × AV)) (H : List AB) (K : List (Nat × AV) → List AB → Option ρ) : Option ρ :=
  bif distB A && A.all (fun a => Nat.ble (a.d + 1) n && AV.noPtrL a.l) && H.all AB.live && lexOk (ops.map (devirt n)) ops.size 0 (Array.replicate ops.size false) then
    aopsO (chkAll A ops n H.length 0 ops.toList) P env (ops.map (devirt n)) n (ops.map (devirt n)).toList (slotsOf n H.length A ++ T) (H ++ A.map vaBlk) [] fun T H => K (maskF n A T) H
  else none

/-- No call that writes stands in it. -/
def quietB (env : Env) (ops : Array Oper) : Bool := ops.toList.all fun o =>
  match o.op with
  | .call c =>
    match c.callee with
    | .value (.func f) =>
      match envGet env f with
      | some (.pure ..) => true
      | _ => false
    | .value _ => false
    | _ => true
  | op => !(isMem op)

/-- Both ways of simple code, carried out and laid together. -/
def aconv (P : Program) (env : Env) (n : Nat) (x : Bool) (a b : Code) (T : List (Nat × AV)) (H : List AB) : Option (List (Nat × AV) × List AB) :=
  bif simple env a && simple env b then
    match asimple P env n a T H [], asimple P env n b T H [] with
    | some (Ta, Ha, Wa), some (Tb, Hb, Wb) =>
      match mergeH x Ha Hb (Wa ++ Wb) H with
      | some H' => some (mergeT x Ta Tb (writes a ++ writes b) T, H')
      | none => none
    | _, _ => none
  else none

/-- How a piece of code is left. -/
inductive Ex where
  | normal
  | exit (id : Nat)
  | ret

def mkT : Nat → List AV → List (Nat × AV)
  | _, [] => []
  | i, v :: l => (i, v) :: mkT (i + 1) l

def ares (P : Program) (T : List (Nat × AV)) (H : List AB) : List ResultVar → Option (List AV)
  | [] => some []
  | .tmp t :: l =>
    match ares P T H l with
    | some vs => some (get T t :: vs)
    | none => none
  | .cell a t :: l =>
    match loadA P H t (get T a), ares P T H l with
    | some v, some vs => some (v :: vs)
    | _, _ => none

def tupOf : List AV → AV
  | [v] => v
  | l => .tup l

def acode (P : Program) (env : Env) : Nat → Nat → Code → List (Nat × AV) → List AB → (Ex → List (Nat × AV) → List AB → Option ρ) → Option ρ
  | 0, _, _, _, _, _ => none
  | fuel + 1, n, c, T, H, K =>
    match c with
    | .skip => K .normal T H
    | .region _ ops false =>
      (bif specAll ops then fun dc => aopsS P dc ops n ops.toList T [] H (K .normal) else fun dc => aops P dc ops n ops.toList T H (K .normal)) (fun fid args H K =>
        match envGet env fid with
        | some (.pure C F) =>
          bif C args then
            match F args with
            | some v => bif v.noPtr then K v H else none
            | none => none
          else none
        | some (.eff C F) =>
          bif C args then
            match F args H with
            | some (v, H') => K v H'
            | none => none
          else none
        | some (.ext C F) =>
          bif C args then
            match F args with
            | some v => K v H
            | none => none
          else none
        | some (.calc F) =>
          match F args with
          | some v => bif v.noPtr then K v H else none
          | none => none
        | some (.flow T F) =>
          match flowSpec T F args H with
          | some (v, H') => K v H'
          | none => none
        | some (.clo T F) =>
          match cloSpec T F args H with
          | some (v, H') => K v H'
          | none => none
        | some .text =>
          match P.funcs[fid]? with
          | some fn =>
            match fn.body with
            | some c' =>
              bif Nat.ble args.length fn.ntmps then
                acode P env fuel fn.ntmps c' (mkT 0 args) H fun e T' H' =>
                  match e with
                  | .exit _ => none
                  | _ =>
                    match ares P T' H' fn.results.toList with
                    | some vs => K (tupOf vs) H'
                    | none => none
              else none
            | none => none
          | none => none
        | none => none)
    | .region _ ops true =>
      bif P.follows .mixedOrders then
        bif quietB env ops && Region.lexB .any ops then aopsQ P env ops n H ops.toList T fun T => K .normal T H
        else bif Nat.ble 2 (vasOf P 0 ops.toList).length then aopsV P env ops n (vasOf P 0 ops.toList) T H (K .normal)
        else bif Region.noSelect ops && lexOk ops ops.size 0 (Array.replicate ops.size false) then aopsO (fun _ => true) P env ops n ops.toList T H [] (K .normal) else none
      else none
    | .seq a b => acode P env fuel n a T H fun e T H =>
      match e with
      | .normal => acode P env fuel n b T H K
      | e => K e T H
    | .cond c a b =>
      match ev T c with
      | .bool x =>
        match aconv P env n x a b T H with
        | some (T', H') => K .normal T' H'
        | none =>
        match c with
        | .tmp d => bif x then acode P env fuel n a ((d, .bool true) :: T) H K else acode P env fuel n b ((d, .bool false) :: T) H K
        | _ => bif x then acode P env fuel n a T H K else acode P env fuel n b T H K
      | _ => none
    | .block id c => acode P env fuel n c T H fun e T H =>
      match e with
      | .exit id' => bif Nat.beq id' id then K .normal T H else K (.exit id') T H
      | e => K e T H
    | .loop c => acode P env fuel n c T H fun e T H =>
      match e with
      | .normal => acode P env fuel n (.loop c) T H K
      | e => K e T H
    | .exit id => K (.exit id) T H
    | .ret => K .ret T H
    | _ => none

/-- A call, by the function's text. -/
def acall (P : Program) (env : Env) (fuel : Nat) (fid : FuncId) (args : List AV) (H : List AB) (K : AV → List AB → Option ρ) : Option ρ :=
  match P.funcs[fid]? with
  | some fn =>
    match fn.body with
    | some c' =>
      bif Nat.ble args.length fn.ntmps then
        acode P env fuel fn.ntmps c' (mkT 0 args) H fun e T' H' =>
          match e with
          | .exit _ => none
          | _ =>
            match ares P T' H' fn.results.toList with
            | some vs => K (tupOf vs) H'
            | none => none
      else none
    | none => none
  | none => none

end
end Go.Proofs.Ytlkclpkpggapbaa.Ae
