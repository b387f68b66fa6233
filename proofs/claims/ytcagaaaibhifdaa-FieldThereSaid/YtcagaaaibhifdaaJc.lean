/- Regions that draw their order, with calls that write: whatever order is drawn, it comes to what the text's order comes to, where what touches the same memory or the same slot stands in one order. Conditions: the contracts that are looked up hold. -/
import Derived.Test.YtcagaaaibhifdaaJb
import Derived.ProofKit
import Derived.Below
import Derived.ChangeSame
import Derived.OpenShut
namespace Go.Proofs.Ytcagaaaibhifdaa.Ae
open Go

section nat
variable {ρ : Type} {P : Program}

theorem abinI_nat (op : BinOp) (k : IntKind) (x y : Int) (K : AV → Option ρ) : abinI op k x y K = (abinI op k x y some).bind K := by
  cases op <;> simp only [abinI] <;> (try rfl)
  · cases (y == 0) <;> rfl
  · cases (y == 0) <;> rfl
theorem ashift_nat (l : Bool) (k : IntKind) (x y : Int) (K : AV → Option ρ) : ashift l k x y K = (ashift l k x y some).bind K := by
  unfold ashift
  cases decide (y < 0) <;> cases l <;> rfl
theorem abin_nat (op : BinOp) (t : TypeId) (x y : AV) (K : AV → Option ρ) : abin P op t x y K = (abin P op t x y some).bind K := by
  unfold abin
  split
  · split
    · exact ashift_nat ..
    · exact ashift_nat ..
    · split
      · exact abinI_nat ..
      · rfl
  · rename_i k a lo hi ex k' b
    split
    · split
      · cases (ex.any fun c => c == b) <;> rfl
      · cases (ex.any fun c => c == b) <;> rfl
      · cases (lo.any fun l => decide (b ≤ l)) <;> cases (hi.any fun l => decide (l < b)) <;> rfl
      · cases (lo.any fun l => decide (b < l)) <;> cases (hi.any fun l => decide (l ≤ b)) <;> rfl
      · rfl
    · rfl
  · rename_i k b k' a lo hi ex
    split
    · split
      · cases (ex.any fun c => c == b) <;> rfl
      · cases (ex.any fun c => c == b) <;> rfl
      · rfl
    · rfl
  · split
    · rfl
    · rfl
    · rename_i a b _; cases decide (a.size + b.size ≤ 4611686018427387904) <;> rfl
    · rfl
  · split
    · cases (plainEq _ && eqFree P t _)
      · rfl
      · simp only [cond_true]; split <;> rfl
    · cases (plainEq _ && eqFree P t _)
      · rfl
      · simp only [cond_true]; split <;> rfl
    · rfl
theorem abuiltin_nat (b : Builtin) (ts : Array TypeId) (args : List AV) (K : AV → Option ρ) : abuiltin P b ts args K = (abuiltin P b ts args some).bind K := by
  unfold abuiltin
  split
  · split
    · split <;> rfl
    · rfl
  · rfl
  · rfl
  · rfl

/-- The kinds that hang on their operands alone. -/
def pureKind : Op → Bool
  | .move _ | .assign _ | .pick .. | .nilCheck _ | .binOp .. | .unOp .. | .fieldAddr .. | .field .. | .extract .. | .convert .. | .index .. | .indexAddr .. | .build .. => true
  | _ => false
/-- .. and change no row of bytes. -/
def pureOp (P : Program) (op : Op) : Bool :=
  pureKind op && match op with
    | .convert s d _ => !(isRowConv P s d)
    | _ => true
/-- The kinds that are kept in one order with all that touches memory. -/
def heavyOp (P : Program) : Op → Bool
  | .convert s d _ => isRowConv P s d
  | .makeSlice .. | .buildSlice .. | .box .. => true
  | .call c => match c.callee with
    | .builtin .append => true
    | _ => false
  | _ => false

theorem apure_nat {e : Operand → AV} {op : Op} (hk : pureKind op = true) (K : AV → Option ρ) : apure P e op K = (apure P e op some).bind K := by
  cases op <;> simp only [pureKind, Bool.false_eq_true] at hk <;> simp only [apure]
  case move => rfl
  case assign => rfl
  case pick c a b =>
    split
    · rename_i c' _
      split
      · rfl
      · cases c' <;> rfl
    · rfl
  case build t parts =>
    split
    · split
      · split
        · cases (Array.all _ _) <;> rfl
        · rfl
      · rfl
    · split
      · split <;> rfl
      · rfl
    · rfl
  case nilCheck x => split <;> rfl
  case binOp => exact abin_nat ..
  case unOp => split <;> rfl
  case convert => split <;> rfl
  case fieldAddr =>
    split
    · split
      · split
        · cases (Nat.beq _ _) <;> rfl
        · rfl
      · rfl
    · rfl
  case field =>
    split
    · split
      · split <;> rfl
      · rfl
    · rfl
  case indexAddr =>
    split
    · split
      · split
        · cases (_ && _) <;> rfl
        · rfl
      · split
        · cases (_ && _) <;> rfl
        · rfl
      · split
        · cases (_ && _) <;> rfl
        · rfl
      · rfl
    · rfl
  case index =>
    split
    · split
      · split
        · cases (_ && _)
          · rfl
          · simp only [cond_true]; split <;> rfl
        · rfl
      · cases (_ && _) <;> rfl
      · cases (_ && _) <;> rfl
      · cases (_ && _) <;> rfl
      · rfl
    · rfl
  case extract =>
    split
    · split <;> rfl
    · rfl

theorem apure_congr {e e' : Operand → AV} {op : Op} (hk : pureKind op = true) (h : ∀ x ∈ op.operands, e x = e' x) (K : AV → Option ρ) : apure P e op K = apure P e' op K := by
  cases op <;> simp only [pureKind, Bool.false_eq_true] at hk <;> simp only [Op.operands] at h <;> simp only [apure]
  case move x => rw [h x (by simp)]
  case assign x => rw [h x (by simp)]
  case pick c a b => rw [h c (by simp), h a (by simp), h b (by simp)]
  case build t parts =>
    have : parts.toList.map (fun (i, x) => (i, e x)) = parts.toList.map (fun (i, x) => (i, e' x)) :=
      List.map_congr_left fun p hp => by
        obtain ⟨i, x⟩ := p
        simp only [h x (by simp only [List.mem_toArray, List.mem_map]; exact ⟨(i, x), hp, rfl⟩)]
    rw [this]
  case nilCheck x => rw [h x (by simp)]
  case binOp op t x y yt => rw [h x (by simp), h y (by simp)]
  case unOp op t x => rw [h x (by simp)]
  case convert s d x => rw [h x (by simp)]
  case fieldAddr s x f => rw [h x (by simp)]
  case field s x f => rw [h x (by simp)]
  case indexAddr t x i => rw [h x (by simp), h i (by simp)]
  case index t x i => rw [h x (by simp), h i (by simp)]
  case extract x i => rw [h x (by simp)]
end nat

abbrev Tab := List (Nat × AV)
def Teq (T T' : Tab) : Prop := ∀ i, get T i = get T' i
def putT (d : Option Tmp) (v : AV) (T : Tab) : Tab :=
  match d with
  | none => T
  | some d => (d, v) :: T
theorem Teq.refl (T : Tab) : Teq T T := fun _ => rfl
theorem get_putT {d : Option Tmp} {v : AV} {T : Tab} (t : Nat) : get (putT d v T) t = if d = some t then v else get T t := by
  cases d with
  | none => simp [putT]
  | some d =>
    by_cases e : d = t
    · subst e; simp [putT, get]
    · rw [putT, get_cons_ne e, if_neg (by simpa using e)]

section
variable {P : Program} {env : Env} {ops : Array Oper} {n : Nat}

def aexecD (P : Program) (env : Env) (o : Oper) (T : Tab) (H : List AB) : Option (AV × List AB) := aexec P (dcD env) o T H fun v H => some (v, H)

theorem dcD_nat {ρ : Type} (f : FuncId) (args : List AV) (H : List AB) (K : AV → List AB → Option ρ) : dcD env f args H K = (dcD env f args H fun v H => some (v, H)).bind fun p => K p.1 p.2 := by
  unfold dcD
  split
  · rename_i C F _
    cases C args with
    | false => rfl
    | true =>
      simp only [cond_true]
      split
      · rename_i v _; cases v.noPtr <;> rfl
      · rfl
  · rename_i C F _
    cases C args with
    | false => rfl
    | true =>
      simp only [cond_true]
      split <;> rfl
  · split
    · rename_i v _; cases v.noPtr <;> rfl
    · rfl
  · split <;> rfl
  · split <;> rfl
  · rfl

/-- An operation of the kinds that may stand in such a region. -/
theorem foot_kind {e : Tab} {H : List AB} {op : Op} {f : Foot} (h : footOf P env e H op = some f) :
    (pureOp P op = true ∧ f = .none) ∨ (heavyOp P op = true ∧ f = .all) ∨ ((∃ t a b o, op = .load t a ∧ ev e a = .ptr b o ∧ f = .rd b) ∨ (∃ t x k ok b, op = .lookup t x k ok ∧ ev e x = .map b ∧ f = .rd b)) ∨ (∃ t a x b o, op = .store t a x ∧ ev e a = .ptr b o ∧ f = .wt b) ∨ (((∃ t, op = .alloc t) ∨ (∃ t r, op = .makeMap t r)) ∧ f = .al H.length) ∨ (∃ t x k y two el b k', (op = .mapUpdate t x k y ∨ op = .insert t x k y) ∧ mapT P t = some (two, el) ∧ ev e x = .map b ∧ keyA two (ev e k) = some k' ∧ f = .put b k') ∨
    (∃ c, op = .call c ∧ ((∃ b, c.callee = .builtin b ∧ b ≠ .append ∧ f = .none) ∨ (∃ g, c.callee = .value (.func g) ∧
      (((∃ C F, envGet env g = some (.pure C F)) ∨ (∃ C F, envGet env g = some (.ext C F)) ∨ (∃ F, envGet env g = some (.calc F))) ∧ f = .none ∨
      (∃ T F j o l, envGet env g = some (.flow T F) ∧ c.args.toList.map (ev e) = .ptr j o :: l ∧ f = .wt j))) ∨
      (∃ fo fid cap T F a b x j t, c.callee = .value fo ∧ ev e fo = .fn fid cap ∧ envGet env fid = some (.clo T F) ∧ c.args.toList.map (ev e) ++ cap = [a, b, .ptr x 0] ∧ H[x]? = some (.cells [.ptr j 0] t) ∧ f = .rw x j))) := by
  cases op <;> simp only [footOf, Option.some.injEq, reduceCtorEq] at h
  case load t a =>
    split at h
    · rename_i b o hb; cases h; exact .inr (.inr (.inl (.inl ⟨t, a, b, o, rfl, hb, rfl⟩)))
    · cases h
  case lookup t x k ok =>
    split at h
    · rename_i b hb; cases h; exact .inr (.inr (.inl (.inr ⟨t, x, k, ok, b, rfl, hb, rfl⟩)))
    · cases h
  case makeMap t r => exact .inr (.inr (.inr (.inr (.inl ⟨.inr ⟨t, r, rfl⟩, h.symm⟩))))
  case mapUpdate t x k y =>
    split at h
    · rename_i two el b hm hb
      split at h
      · rename_i k' hk; cases h; exact .inr (.inr (.inr (.inr (.inr (.inl ⟨t, x, k, y, two, el, b, k', .inl rfl, hm, hb, hk, rfl⟩)))))
      · cases h
    · cases h
  case insert t x k y =>
    split at h
    · rename_i two el b hm hb
      split at h
      · rename_i k' hk; cases h; exact .inr (.inr (.inr (.inr (.inr (.inl ⟨t, x, k, y, two, el, b, k', .inr rfl, hm, hb, hk, rfl⟩)))))
      · cases h
    · cases h
  case store t a x =>
    split at h
    · rename_i b o hb; cases h; exact .inr (.inr (.inr (.inl ⟨t, a, x, b, o, rfl, hb, rfl⟩)))
    · cases h
  case alloc t => exact .inr (.inr (.inr (.inr (.inl ⟨.inl ⟨t, rfl⟩, h.symm⟩))))
  case convert s d x =>
    cases hrc : isRowConv P s d with
    | true => rw [hrc] at h; cases h; exact .inr (.inl ⟨by simp only [heavyOp, hrc], rfl⟩)
    | false => rw [hrc] at h; cases h; exact .inl ⟨by simp only [pureOp, pureKind, hrc]; rfl, rfl⟩
  case makeSlice => exact .inr (.inl ⟨rfl, h.symm⟩)
  case buildSlice => exact .inr (.inl ⟨rfl, h.symm⟩)
  case box => exact .inr (.inl ⟨rfl, h.symm⟩)
  case call c =>
    split at h
    · rename_i g hc
      refine .inr (.inr (.inr (.inr (.inr (.inr ⟨c, rfl, .inr (.inl ⟨g, hc, ?_⟩)⟩)))))
      split at h
      · rename_i C F hF; exact .inl ⟨.inl ⟨C, F, hF⟩, by cases h; rfl⟩
      · rename_i C F hF; exact .inl ⟨.inr (.inl ⟨C, F, hF⟩), by cases h; rfl⟩
      · rename_i F hF; exact .inl ⟨.inr (.inr ⟨F, hF⟩), by cases h; rfl⟩
      · rename_i T F hF
        split at h
        · rename_i j o l hl; cases h; exact .inr ⟨T, F, j, o, l, hF, hl, rfl⟩
        · cases h
      · cases h
    · rename_i b hc
      split at h
      · cases h; exact .inr (.inl ⟨by simp only [heavyOp, hc], rfl⟩)
      · rename_i hne
        cases h; exact .inr (.inr (.inr (.inr (.inr (.inr ⟨c, rfl, .inl ⟨b, hc, hne, rfl⟩⟩)))))
    · rename_i fo _ hc
      split at h
      · rename_i fid cap hf
        split at h
        · rename_i T F a b x hF hargs
          split at h
          · rename_i j t hj
            cases h
            exact .inr (.inr (.inr (.inr (.inr (.inr ⟨c, rfl, .inr (.inr ⟨fo, fid, cap, T, F, a, b, x, j, t, hc, hf, hF, hargs, hj, rfl⟩)⟩)))))
          · cases h
        · cases h
      · cases h
    · cases h
  all_goals exact .inl ⟨rfl, h.symm⟩

theorem pureOp_kind {op : Op} (h : pureOp P op = true) : pureKind op = true := by
  unfold pureOp at h
  simp only [Bool.and_eq_true] at h
  exact h.1

theorem aexec_pure {ρ : Type} {dc : FuncId → List AV → List AB → (AV → List AB → Option ρ) → Option ρ} {o : Oper} {T : Tab} {H : List AB} {K : AV → List AB → Option ρ} (hk : pureOp P o.op = true) :
    aexec P dc o T H K = apure P (ev T) o.op fun v => K v H := by
  have hk' := pureOp_kind hk
  unfold aexec
  split
  · rename_i c hop; rw [hop] at hk'; cases hk'
  · rename_i t a hop; rw [hop] at hk'; cases hk'
  · rename_i hop; rw [hop] at hk'; cases hk'
  · rename_i t l c hop; rw [hop] at hk'; cases hk'
  · rename_i s d x hop
    rw [hop] at hk
    have : isRowConv P s d = false := by simpa [pureOp, pureKind] using hk
    rw [this, ← hop]; rfl
  · have : isMem o.op = false := by
      generalize o.op = op at hk'
      cases op <;> simp_all [pureKind, isMem]
    rw [this]; rfl

theorem aappend_nat {ρ : Type} (ts : Array TypeId) (args : List AV) (H : List AB) (K : AV → List AB → Option ρ) : aappend P ts args H K = (aappend P ts args H fun v H => some (v, H)).bind fun p => K p.1 p.2 := by
  unfold aappend
  split
  · rename_i t u s x _
    split
    · rename_i el news _ _
      cases (Nat.beq t u && AV.scalars news && Nat.ble 1 news.length && Nat.ble news.length 100000) with
      | false => rfl
      | true =>
        simp only [cond_true]
        split
        · rfl
        · rename_i i n
          split
          · rename_i l el' _
            cases (Nat.beq l.length n && Nat.beq el el' && Nat.ble n 100000) <;> rfl
          · rfl
        · rename_i i o len cap
          cases (Nat.beq len cap && Nat.ble cap 100000) with
          | false => rfl
          | true =>
            simp only [cond_true]
            split <;> rfl
        · rfl
    · rfl
  · rfl
theorem amake_nat {ρ : Type} (t : TypeId) (l c : AV) (H : List AB) (K : AV → List AB → Option ρ) : amake P t l c H K = (amake P t l c H fun v H => some (v, H)).bind fun p => K p.1 p.2 := by
  unfold amake
  split
  · rename_i k l k' c
    cases (decide (0 ≤ l) && decide (l ≤ c) && decide (c ≤ 100000)) with
    | false => rfl
    | true =>
      simp only [cond_true]
      split
      · split <;> rfl
      · rfl
  · rfl
theorem aconvR_nat {ρ : Type} (s d : TypeId) (x : AV) (H : List AB) (K : AV → List AB → Option ρ) : aconvR P s d x H K = (aconvR P s d x H fun v H => some (v, H)).bind fun p => K p.1 p.2 := by
  unfold aconvR
  split
  · split
    · split <;> rfl
    · rfl
  · split <;> rfl
  · rfl
theorem amem_nat {ρ : Type} {e : Operand → AV} {H : List AB} {op : Op} (K : AV → List AB → Option ρ) : amem P e H op K = (amem P e H op fun v H => some (v, H)).bind fun p => K p.1 p.2 := by
  cases op <;> simp only [amem] <;> (try rfl)
  case alloc =>
    split
    · split <;> rfl
    · rfl
  case box => split <;> rfl
  case buildSlice t len parts =>
    split
    · rename_i el _
      split
      · rename_i n z _ _
        cases (Nat.ble (len * n) 16777216 && Nat.ble 1 (len * n) && Nat.ble 1 z.length) with
        | false => rfl
        | true =>
          simp only [cond_true]
          split <;> rfl
      · rfl
    · rfl
  case store t a x =>
    split
    · split
      · cases (_ && _) <;> rfl
      · rfl
    · rfl
  case makeMap t res =>
    cases res
    · simp only; split <;> rfl
    · rfl
  case mapUpdate => split <;> rfl
  case insert => split <;> rfl

theorem aexec_nat {ρ : Type} {o : Oper} {T : Tab} {H : List AB} {f : Foot} (hf : footOf P env T H o.op = some f) (K : AV → List AB → Option ρ) :
    aexec P (dcD env) o T H K = (aexecD P env o T H).bind fun p => K p.1 p.2 := by
  unfold aexecD
  rcases foot_kind hf with ⟨hk, _⟩ | ⟨hk, _⟩ | (⟨t, a, b, o', hop, _⟩ | ⟨t, x, k, ok, b, hop, _⟩) | ⟨t, a, x, b, o', hop, _⟩ | ⟨⟨t, hop⟩ | ⟨t, r, hop⟩, _⟩ | ⟨t, x, k, y, two, el, b, k', hop, _⟩ | ⟨c, hop, hc⟩
  · rw [aexec_pure hk, aexec_pure hk, apure_nat (pureOp_kind hk), apure_nat (K := fun v => some (v, H)) (pureOp_kind hk)]
    cases apure P (ev T) o.op some <;> rfl
  · unfold aexec
    split
    · rename_i c hop
      rw [hop] at hk
      simp only [heavyOp] at hk
      split at hk
      · rename_i hc
        simp only [hc]
        exact aappend_nat ..
      · cases hk
    · rename_i hop; rw [hop] at hk; cases hk
    · rename_i hop; rw [hop] at hk; cases hk
    · exact amake_nat ..
    · rename_i s d x hop
      rw [hop] at hk
      have : isRowConv P s d = true := hk
      simp only [this, cond_true]
      exact aconvR_nat ..
    · have : isMem o.op = true := by
        generalize o.op = op at *
        cases op <;> simp_all [heavyOp, isMem]
      simp only [this, cond_true]
      exact amem_nat ..
  · unfold aexec; simp only [hop]
    split <;> rfl
  · unfold aexec; simp only [hop]
    split <;> rfl
  · unfold aexec; simp only [hop, isMem, cond_true]
    exact amem_nat ..
  · unfold aexec; simp only [hop, isMem, cond_true]
    exact amem_nat ..
  · unfold aexec; simp only [hop, isMem, cond_true]
    exact amem_nat ..
  · rcases hop with hop | hop
    · unfold aexec; simp only [hop, isMem, cond_true]
      exact amem_nat ..
    · unfold aexec; simp only [hop, isMem, cond_true]
      exact amem_nat ..
  · unfold aexec; simp only [hop]
    rcases hc with ⟨b, hb, hne, _⟩ | ⟨g, hg, _⟩ | ⟨fo, fid, cap, T', F, a, b, x, j, t, hfo, hfn, _⟩
    · simp only [hb]
      rw [abuiltin_nat, abuiltin_nat (K := fun v => some (v, H))]
      cases abuiltin P b c.argTypes (c.args.toList.map (ev T)) some <;> rfl
    · simp only [hg, ev]
      exact dcD_nat ..
    · simp only [hfo, hfn]
      exact dcD_nat ..

/-- The slots that an operation looks at are alike. -/
def Agree (ops : Array Oper) (o : Oper) (T T2 : Tab) : Prop := ∀ t ∈ o.looksAt ops, get T t = get T2 t

theorem Agree.ev {o : Oper} {T T2 : Tab} (h : Agree ops o T T2) : ∀ x ∈ o.op.operands, ev T x = ev T2 x := fun x hx => by
  cases x with
  | tmp t => exact h t (List.mem_append_left _ (List.mem_filterMap.2 ⟨.tmp t, by simpa using hx, rfl⟩))
  | _ => rfl

theorem map_agree {o : Oper} {c : Call} (hop : o.op = .call c) {T T2 : Tab} (h : Agree ops o T T2) : c.args.toList.map (ev T) = c.args.toList.map (ev T2) :=
  List.map_congr_left fun x hx => h.ev x (by rw [hop]; simp only [Op.operands, Call.operands]; exact Array.mem_append.2 (.inr (by simpa using hx)))

/-- What an operation comes to at a place like the one where it was carried out. -/
def Loc (P : Program) (env : Env) (ops : Array Oper) (o : Oper) (T : Tab) (H : List AB) (v : AV) (H' : List AB) : Foot → Prop
  | .all => ∀ T2, Agree ops o T T2 → footOf P env T2 H o.op = some .all ∧ aexecD P env o T2 H = some (v, H')
  | .none => H' = H ∧ ∀ T2 H2, Agree ops o T T2 → footOf P env T2 H2 o.op = some .none ∧ aexecD P env o T2 H2 = some (v, H2)
  | .rd b => H' = H ∧ ∀ T2 H2, Agree ops o T T2 → H2[b]? = H[b]? → footOf P env T2 H2 o.op = some (.rd b) ∧ aexecD P env o T2 H2 = some (v, H2)
  | .wt b => ∃ B, H' = H.set b B ∧ b < H.length ∧ ∀ T2 H2, Agree ops o T T2 → H2[b]? = H[b]? → footOf P env T2 H2 o.op = some (.wt b) ∧ aexecD P env o T2 H2 = some (v, H2.set b B)
  | .al k => k = H.length ∧ ∃ B, H' = H ++ [B] ∧ ∀ T2 H2, Agree ops o T T2 → H2.length = H.length → footOf P env T2 H2 o.op = some (.al k) ∧ aexecD P env o T2 H2 = some (v, H2 ++ [B])
  | .rw r b => ∃ B, H' = H.set b B ∧ r < H.length ∧ b < H.length ∧ ∀ T2 H2, Agree ops o T T2 → H2[r]? = H[r]? → H2[b]? = H[b]? → footOf P env T2 H2 o.op = some (.rw r b) ∧ aexecD P env o T2 H2 = some (v, H2.set b B)
  | .put b k => ∃ two es u, H[b]? = some (.map two es) ∧ H' = H.set b (.map two (putS k u es)) ∧ ∀ T2 H2 es2, Agree ops o T T2 → H2[b]? = some (.map two es2) → footOf P env T2 H2 o.op = some (.put b k) ∧ aexecD P env o T2 H2 = some (v, H2.set b (.map two (putS k u es2)))

theorem heavy_congr {e e' : Operand → AV} {op : Op} (hk : isMem op = true) (h : ∀ x ∈ op.operands, e x = e' x) {ρ : Type} {H : List AB} (K : AV → List AB → Option ρ) : amem P e H op K = amem P e' H op K := by
  cases op <;> simp only [isMem, Bool.false_eq_true] at hk <;> simp only [Op.operands] at h <;> simp only [amem]
  case box t x => rw [h x (by simp)]
  case store t a x => rw [h a (by simp), h x (by simp)]
  case buildSlice t n parts =>
    have : parts.toList.map (fun (i, x) => (i, e x)) = parts.toList.map (fun (i, x) => (i, e' x)) :=
      List.map_congr_left fun p hp => by
        obtain ⟨i, x⟩ := p
        simp only [h x (by simp only [List.mem_toArray, List.mem_map]; exact ⟨(i, x), hp, rfl⟩)]
    rw [this]
  case makeMap t res => cases res <;> rfl
  case mapUpdate t x k y => rw [h x (by simp), h k (by simp), h y (by simp)]
  case insert t x k y => rw [h x (by simp), h k (by simp), h y (by simp)]

theorem exec_loc {o : Oper} {T : Tab} {H : List AB} {f : Foot} {v : AV} {H' : List AB} (hf : footOf P env T H o.op = some f) (h : aexecD P env o T H = some (v, H')) : Loc P env ops o T H v H' f := by
  have hf0 := hf
  rcases foot_kind hf with ⟨hk, rfl⟩ | ⟨hk, rfl⟩ | (⟨t, a, b, o', hop, ha, rfl⟩ | ⟨t, x, k, ok, b, hop, ha, rfl⟩) | ⟨t, a, x, b, o', hop, ha, rfl⟩ | ⟨⟨t, hop⟩ | ⟨t, r, hop⟩, rfl⟩ | ⟨t, x, k, y, two, el, b, k', hop, hm, ha, hka, rfl⟩ | ⟨c, hop, hc⟩
  · unfold aexecD at h
    have hk' := pureOp_kind hk
    rw [aexec_pure hk, apure_nat hk'] at h
    obtain ⟨v', h1, h2⟩ := Option.bind_eq_some_iff.1 h
    cases h2
    refine ⟨rfl, fun T2 H2 ha => ⟨?_, ?_⟩⟩
    · generalize o.op = op at hk hf0 hk'
      cases op <;> simp_all [pureKind, footOf]
    · unfold aexecD
      rw [aexec_pure hk, apure_nat hk', ← apure_congr hk' ha.ev, h1]; rfl
  · intro T2 ha
    have hev := ha.ev
    constructor
    · generalize o.op = op at hk hf0
      cases op <;> simp only [heavyOp, Bool.false_eq_true] at hk <;> (try rfl)
      case convert s d x => simp only [footOf, hk, cond_true]
      case call c =>
        split at hk
        · rename_i hc; simp only [footOf, hc]
        · cases hk
    · rw [← h]
      unfold aexecD aexec
      split
      · rename_i c hop
        rw [hop] at hk
        simp only [heavyOp] at hk
        split at hk
        · rename_i hc
          simp only [hc]
          rw [map_agree hop ha]
        · cases hk
      · rename_i hop; rw [hop] at hk; cases hk
      · rename_i hop; rw [hop] at hk; cases hk
      · rename_i t l c hop
        rw [hop] at hev
        rw [hev l (by simp [Op.operands]), hev c (by simp [Op.operands])]
      · rename_i s d x hop
        rw [hop] at hk hev
        have : isRowConv P s d = true := hk
        simp only [this, cond_true]
        rw [hev x (by simp [Op.operands])]
      · have : isMem o.op = true := by
          generalize o.op = op at *
          cases op <;> simp_all [heavyOp, isMem]
        simp only [this, cond_true]
        exact (heavy_congr this hev _).symm
  · unfold aexecD aexec at h
    simp only [hop] at h
    split at h
    · rename_i v' hv
      cases h
      refine ⟨rfl, fun T2 H2 hag hb => ?_⟩
      have e2 : ev T2 a = .ptr b o' := by rw [← hag.ev a (by rw [hop]; simp [Op.operands])]; exact ha
      have hl : loadA P H2 t (ev T2 a) = some v := by
        rw [e2]; rw [ha] at hv
        unfold loadA at hv ⊢
        simp only at hv ⊢
        rw [hb]; exact hv
      refine ⟨by simp only [hop, footOf, e2], ?_⟩
      unfold aexecD aexec
      simp only [hop, hl]
    · cases h
  · unfold aexecD aexec at h
    simp only [hop] at h
    split at h
    · rename_i v' hv
      cases h
      refine ⟨rfl, fun T2 H2 hag hb => ?_⟩
      have e2 : ev T2 x = .map b := by rw [← hag.ev x (by rw [hop]; simp [Op.operands])]; exact ha
      have e3 : ev T2 k = ev T k := (hag.ev k (by rw [hop]; simp [Op.operands])).symm
      have hl : lookupA P H2 t (ev T2 x) (ev T2 k) ok = some v := by
        rw [e2, e3]; rw [ha] at hv
        unfold lookupA at hv ⊢
        dsimp only at hv ⊢
        rw [hb]; exact hv
      refine ⟨by simp only [hop, footOf, e2], ?_⟩
      unfold aexecD aexec
      simp only [hop, hl]
    · cases h
  · unfold aexecD aexec at h
    simp only [hop, isMem, cond_true, amem] at h
    split at h
    · rename_i i o'' vs n' h1 h2 h3
      rw [ha] at h1
      cases h1
      split at h
      · rename_i l bt hl
        cases hb : (Nat.beq vs.length n' && Nat.ble (o' + vs.length) l.length && AV.scalars vs) with
        | false => rw [hb] at h; cases h
        | true =>
          rw [hb] at h
          simp only [cond_true, Option.some.injEq, Prod.mk.injEq] at h
          obtain ⟨rfl, rfl⟩ := h
          refine ⟨_, rfl, (List.getElem?_eq_some_iff.1 hl).1, fun T2 H2 hag hbb => ?_⟩
          have e1 : ev T2 a = .ptr b o' := by rw [← hag.ev a (by rw [hop]; simp [Op.operands])]; exact ha
          have e2 : ev T2 x = ev T x := (hag.ev x (by rw [hop]; simp [Op.operands])).symm
          refine ⟨by simp only [hop, footOf, e1], ?_⟩
          unfold aexecD aexec
          simp only [hop, isMem, cond_true, amem, e1, e2, h2, h3, hbb, hl, hb]
      · cases h
    · cases h
  · unfold aexecD aexec at h
    simp only [hop, isMem, cond_true, amem] at h
    split at h
    · rename_i z hz
      split at h
      · rename_i l hl
        simp only [Option.some.injEq, Prod.mk.injEq] at h
        obtain ⟨rfl, rfl⟩ := h
        refine ⟨rfl, _, rfl, fun T2 H2 hag hlen => ⟨by simp only [hop, footOf, hlen], ?_⟩⟩
        unfold aexecD aexec
        simp only [hop, isMem, cond_true, amem, hz, hl, hlen]
      · cases h
    · cases h
  · unfold aexecD aexec at h
    simp only [hop, isMem, cond_true] at h
    cases r with
    | some _ => simp only [amem] at h; cases h
    | none =>
      simp only [amem] at h
      split at h
      · rename_i two el hm
        simp only [Option.some.injEq, Prod.mk.injEq] at h
        obtain ⟨rfl, rfl⟩ := h
        refine ⟨rfl, _, rfl, fun T2 H2 hag hlen => ⟨by simp only [hop, footOf, hlen], ?_⟩⟩
        unfold aexecD aexec
        simp only [hop, isMem, cond_true, amem, hm, hlen]
      · cases h
  · have key : ∀ (op : Op), (op = .mapUpdate t x k y ∨ op = .insert t x k y) → ∀ (e : Operand → AV) (H : List AB), amem P e H op (fun v H => some (v, H)) = (mapPutA P H t (e x) (e k) (e y)).map fun H => (AV.any, H) := by
      rintro op (rfl | rfl) e H <;> simp only [amem] <;> split <;> rename_i hq <;> rw [hq] <;> rfl
    have hx : ∀ (T2 : Tab) (H2 : List AB), aexecD P env o T2 H2 = (mapPutA P H2 t (ev T2 x) (ev T2 k) (ev T2 y)).map fun H => (AV.any, H) := by
      intro T2 H2
      rw [← key o.op hop (ev T2) H2]
      unfold aexecD aexec
      rcases hop with hop | hop <;> simp only [hop, isMem, cond_true]
    have hft : ∀ (T2 : Tab) (H2 : List AB), ev T2 x = .map b → keyA two (ev T2 k) = some k' → footOf P env T2 H2 o.op = some (.put b k') := by
      intro T2 H2 h1 h2
      rcases hop with hop | hop <;> simp only [hop, footOf, hm, h1, h2]
    have hmx : x ∈ o.op.operands ∧ k ∈ o.op.operands ∧ y ∈ o.op.operands := by
      rcases hop with hop | hop <;> rw [hop] <;> simp [Op.operands]
    rw [hx, ha] at h
    unfold mapPutA at h
    simp only at h
    cases hp : mapPutAt P H[b]? t (ev T k) (ev T y) with
    | none => rw [hp] at h; simp at h
    | some B =>
      rw [hp] at h
      simp only [Option.map_some, Option.some.injEq, Prod.mk.injEq] at h
      obtain ⟨rfl, rfl⟩ := h
      unfold mapPutAt at hp
      rw [hm] at hp
      split at hp
      · rename_i two2 el2 two' es e1 e2
        cases e1
        rw [hka] at hp
        simp only at hp
        cases htw : (two == two') with
        | false => rw [htw] at hp; cases hp
        | true =>
          rw [htw] at hp
          have htw' : two = two' := by simpa using htw
          subst htw'
          cases hp
          refine ⟨two, es, ev T y, e2, rfl, fun T2 H2 es2 hag hb2 => ?_⟩
          have x2 : ev T2 x = .map b := by rw [← hag.ev x hmx.1]; exact ha
          have k2 : ev T2 k = ev T k := (hag.ev k hmx.2.1).symm
          have y2 : ev T2 y = ev T y := (hag.ev y hmx.2.2).symm
          refine ⟨hft T2 H2 x2 (by rw [k2]; exact hka), ?_⟩
          rw [hx, x2, k2, y2]
          unfold mapPutA
          simp only
          rw [hb2]
          unfold mapPutAt
          rw [hm]
          simp only [hka, htw, cond_true, Option.map_some]
      · cases hp
  · unfold aexecD aexec at h
    simp only [hop] at h
    rcases hc with ⟨b, hb, hne, rfl⟩ | ⟨g, hg, hg'⟩ | ⟨fo, fid, cap, T', F, a, b, x, j, t, hfo, hfn, hF, hargs, hj, rfl⟩
    rotate_left
    rotate_left
    · simp only [hfo, hfn, hargs] at h
      have hmem : fo ∈ o.op.operands := by
        rw [hop]; simp only [Op.operands, Call.operands, hfo]; exact Array.mem_append.2 (.inl (by simp))
      unfold dcD at h
      rw [hF] at h
      simp only at h
      split at h
      · rename_i v' H'' hv
        cases h
        have hv0 := hv
        simp only [cloSpec, hj] at hv
        split at hv
        · rename_i y t' hy
          cases hb : (Nat.beq t' T' && AV.noPtrL [a, b]) with
          | false => rw [hb] at hv; cases hv
          | true =>
            rw [hb] at hv
            simp only [cond_true] at hv
            split at hv
            · rename_i gg hgg
              cases hv
              refine ⟨_, rfl, (List.getElem?_eq_some_iff.1 hj).1, (List.getElem?_eq_some_iff.1 hy).1, fun T2 H2 hag hr hbb => ?_⟩
              have e1 : ev T2 fo = .fn fid cap := by rw [← hag.ev fo hmem]; exact hfn
              have e2 : c.args.toList.map (ev T2) ++ cap = [a, b, .ptr x 0] := by rw [← map_agree hop hag]; exact hargs
              have hj2 : H2[x]? = some (.cells [.ptr j 0] t) := by rw [hr]; exact hj
              have hy2 : H2[j]? = some (.cells [.bool y] t') := by rw [hbb]; exact hy
              constructor
              · rw [hop]
                cases fo with
                | func q =>
                  have e3 : q = fid := by simp only [ev] at hfn; cases hfn; rfl
                  subst e3
                  rw [hop] at hf0
                  simp only [footOf, hfo, hF] at hf0
                  cases hf0
                | tmp i => simp only [footOf, hfo, e1, hF, e2, hj2]
                | const v => simp only [footOf, hfo, e1, hF, e2, hj2]
                | global g => simp only [footOf, hfo, e1, hF, e2, hj2]
              · unfold aexecD aexec
                simp only [hop, hfo, e1, e2]
                unfold dcD
                rw [hF]
                simp only [cloSpec, hj2, hy2, hb, cond_true, hgg]
            · cases hv
        · cases hv
      · cases h
    · simp only [hb] at h
      rw [abuiltin_nat] at h
      obtain ⟨v', h1, h2⟩ := Option.bind_eq_some_iff.1 h
      cases h2
      refine ⟨rfl, fun T2 H2 hag => ⟨?_, ?_⟩⟩
      · rw [hop]
        simp only [footOf, hb]
      · unfold aexecD aexec
        simp only [hop, hb]
        rw [← map_agree hop hag, abuiltin_nat, h1]; rfl
    · simp only [hg, ev, List.append_nil] at h
      have foot2 : ∀ T2 H2, Agree ops o T T2 → (∀ k, f = .al k → H2.length = H.length) → footOf P env T2 H2 o.op = some f := fun T2 H2 hag _ => by
        rw [hop] at hf ⊢
        simp only [footOf, hg] at hf ⊢
        rw [← map_agree hop hag]; exact hf
      have ex2 : ∀ T2 H2, Agree ops o T T2 → aexecD P env o T2 H2 = dcD env g (c.args.toList.map (ev T)) H2 fun v H => some (v, H) := fun T2 H2 hag => by
        unfold aexecD aexec
        simp only [hop, hg, ev, List.append_nil]
        rw [← map_agree hop hag]
      rcases hg' with ⟨hg', rfl⟩ | ⟨T', F, j, o', l, hF, hl, rfl⟩
      · have key : H' = H ∧ ∀ H2, dcD env g (c.args.toList.map (ev T)) H2 (fun v H => some (v, H)) = some (v, H2) := by
          rcases hg' with ⟨C, F, hF⟩ | ⟨C, F, hF⟩ | ⟨F, hF⟩
          · unfold dcD at h ⊢
            rw [hF] at h ⊢
            simp only at h ⊢
            cases hC : C (c.args.toList.map (ev T)) with
            | false => rw [hC] at h; cases h
            | true =>
              rw [hC] at h
              simp only [cond_true] at h ⊢
              split at h
              · rename_i v' hv
                cases hb : v'.noPtr with
                | false => rw [hb] at h; cases h
                | true => rw [hb] at h; cases h; exact ⟨rfl, fun H2 => by simp only [hv, hb, cond_true]⟩
              · cases h
          · unfold dcD at h ⊢
            rw [hF] at h ⊢
            simp only at h ⊢
            cases hC : C (c.args.toList.map (ev T)) with
            | false => rw [hC] at h; cases h
            | true =>
              rw [hC] at h
              simp only [cond_true] at h ⊢
              split at h
              · rename_i v' hv; cases h; exact ⟨rfl, fun H2 => by simp only [hv]⟩
              · cases h
          · unfold dcD at h ⊢
            rw [hF] at h ⊢
            simp only at h ⊢
            split at h
            · rename_i v' hv
              cases hb : v'.noPtr with
              | false => rw [hb] at h; cases h
              | true => rw [hb] at h; cases h; exact ⟨rfl, fun H2 => by simp only [hv, hb, cond_true]⟩
            · cases h
        exact ⟨key.1, fun T2 H2 hag => ⟨foot2 T2 H2 hag (fun k e => by cases e), (ex2 T2 H2 hag).trans (key.2 H2)⟩⟩
      · unfold dcD at h
        rw [hF] at h
        simp only at h
        split at h
        · rename_i v' H'' hv
          cases h
          rw [hl] at hv
          unfold flowSpec at hv
          split at hv
          · rename_i j' rest heq
            cases heq
            split at hv
            · rename_i b t hj
              cases hb : (Nat.beq t T' && AV.noPtrL l) with
              | false => rw [hb] at hv; cases hv
              | true =>
                rw [hb] at hv
                simp only [cond_true] at hv
                split at hv
                · rename_i gg hgg
                  cases hv
                  refine ⟨_, rfl, (List.getElem?_eq_some_iff.1 hj).1, fun T2 H2 hag hbb => ⟨foot2 T2 H2 hag (fun k e => by cases e), (ex2 T2 H2 hag).trans ?_⟩⟩
                  unfold dcD
                  rw [hF]
                  simp only [hl, flowSpec, hbb, hj, hb, cond_true, hgg]
                · cases hv
            · cases hv
          · cases hv
        · cases h

end
#print axioms exec_loc
end Go.Proofs.Ytcagaaaibhifdaa.Ae

/- Regions that draw their order, second part: one step, two steps that change places, and all orders. Conditions: the contracts that are looked up hold. -/
namespace Go.Proofs.Ytcagaaaibhifdaa.Ae
open Go

section
variable {P : Program} {env : Env} {ops : Array Oper} {n : Nat}

/-- Is the operation wanted, by what is known? -/
def wantedA (ops : Array Oper) (o : Oper) (T : Tab) : Option Bool :=
  match o.guard with
  | none => some true
  | some (j, want) =>
    match (ops[j]?).bind (·.dst) with
    | none => none
    | some d =>
      match get T d with
      | .bool x => some (x == want)
      | _ => none

theorem wantedA_agree {o : Oper} {T T2 : Tab} (h : Agree ops o T T2) : wantedA ops o T = wantedA ops o T2 := by
  unfold wantedA
  split
  · rfl
  · rename_i j want hg
    split
    · rfl
    · rename_i d hd
      have : get T d = get T2 d := h d (by
        unfold Oper.looksAt
        refine List.mem_append_right _ ?_
        simp only [hg, hd, Option.toList_some, List.mem_singleton])
      rw [this]

/-- What an operation, or what takes its place where it isn't wanted, comes to. -/
def LS (P : Program) (env : Env) (ops : Array Oper) (o : Oper) (T : Tab) (H : List AB) (v : AV) (H' : List AB) (f : Foot) : Prop :=
  (wantedA ops o T = some true ∧ footOf P env T H o.op = some f ∧ aexecD P env o T H = some (v, H')) ∨ (wantedA ops o T = some false ∧ f = .none ∧ v = .any ∧ H' = H)

/-- .. at a place like it. -/
def LocS (P : Program) (env : Env) (ops : Array Oper) (o : Oper) (T : Tab) (H : List AB) (v : AV) (H' : List AB) : Foot → Prop
  | .all => ∀ T2, Agree ops o T T2 → LS P env ops o T2 H v H' .all
  | .none => H' = H ∧ ∀ T2 H2, Agree ops o T T2 → LS P env ops o T2 H2 v H2 .none
  | .rd b => H' = H ∧ ∀ T2 H2, Agree ops o T T2 → H2[b]? = H[b]? → LS P env ops o T2 H2 v H2 (.rd b)
  | .wt b => ∃ B, H' = H.set b B ∧ b < H.length ∧ ∀ T2 H2, Agree ops o T T2 → H2[b]? = H[b]? → LS P env ops o T2 H2 v (H2.set b B) (.wt b)
  | .al k => k = H.length ∧ ∃ B, H' = H ++ [B] ∧ ∀ T2 H2, Agree ops o T T2 → H2.length = H.length → LS P env ops o T2 H2 v (H2 ++ [B]) (.al k)
  | .rw r b => ∃ B, H' = H.set b B ∧ r < H.length ∧ b < H.length ∧ ∀ T2 H2, Agree ops o T T2 → H2[r]? = H[r]? → H2[b]? = H[b]? → LS P env ops o T2 H2 v (H2.set b B) (.rw r b)
  | .put b k => ∃ two es u, H[b]? = some (.map two es) ∧ H' = H.set b (.map two (putS k u es)) ∧ ∀ T2 H2 es2, Agree ops o T T2 → H2[b]? = some (.map two es2) → LS P env ops o T2 H2 v (H2.set b (.map two (putS k u es2))) (.put b k)

theorem LS.loc {o : Oper} {T : Tab} {H : List AB} {f : Foot} {v : AV} {H' : List AB} (h : LS P env ops o T H v H' f) : LocS P env ops o T H v H' f := by
  rcases h with ⟨hw, hf, hx⟩ | ⟨hw, rfl, rfl, rfl⟩
  · have hl := exec_loc (ops := ops) hf hx
    cases f with
    | all => exact fun T2 ha => .inl ⟨by rw [← wantedA_agree ha]; exact hw, hl T2 ha⟩
    | none => exact ⟨hl.1, fun T2 H2 ha => .inl ⟨by rw [← wantedA_agree ha]; exact hw, hl.2 T2 H2 ha⟩⟩
    | rd b => exact ⟨hl.1, fun T2 H2 ha hb => .inl ⟨by rw [← wantedA_agree ha]; exact hw, hl.2 T2 H2 ha hb⟩⟩
    | wt b => obtain ⟨B, e, hlt, hl⟩ := hl; exact ⟨B, e, hlt, fun T2 H2 ha hb => .inl ⟨by rw [← wantedA_agree ha]; exact hw, hl T2 H2 ha hb⟩⟩
    | al k => obtain ⟨e, B, e2, hl⟩ := hl; exact ⟨e, B, e2, fun T2 H2 ha hb => .inl ⟨by rw [← wantedA_agree ha]; exact hw, hl T2 H2 ha hb⟩⟩
    | rw r b => obtain ⟨B, e, hr, hlt, hl⟩ := hl; exact ⟨B, e, hr, hlt, fun T2 H2 ha hr hb => .inl ⟨by rw [← wantedA_agree ha]; exact hw, hl T2 H2 ha hr hb⟩⟩
    | put b k => obtain ⟨two, es, u, e1, e2, hl⟩ := hl; exact ⟨two, es, u, e1, e2, fun T2 H2 es2 ha hb => .inl ⟨by rw [← wantedA_agree ha]; exact hw, hl T2 H2 es2 ha hb⟩⟩
  · exact ⟨rfl, fun T2 H2 ha => .inr ⟨by rw [← wantedA_agree ha]; exact hw, rfl, rfl, rfl⟩⟩

/-- Two that don't clash change places. -/
theorem LS.comm {oi oj : Oper} {T : Tab} {H H1 H2 : List AB} {vi vj : AV} {fi fj : Foot} {T1 T1' : Tab} (hi : LS P env ops oi T H vi H1 fi) (hj : LS P env ops oj T1 H1 vj H2 fj)
    (a1 : Agree ops oj T1 T) (a2 : Agree ops oi T T1') (hc : fi.clash fj = false) : ∃ H1', LS P env ops oj T H vj H1' fj ∧ LS P env ops oi T1' H1' vi H2 fi := by
  have li := hi.loc
  have lj := hj.loc
  cases fi with
  | all =>
    cases fj with
    | none => obtain ⟨rfl, lj⟩ := lj; exact ⟨_, lj _ _ a1, li _ a2⟩
    | all => simp [Foot.clash] at hc
    | rd c => simp [Foot.clash] at hc
    | wt c => simp [Foot.clash] at hc
    | al c => simp [Foot.clash] at hc
    | rw r c => simp [Foot.clash] at hc
    | put c k => simp [Foot.clash] at hc
  | none =>
    obtain ⟨rfl, li⟩ := li
    cases fj with
    | all => exact ⟨_, lj _ a1, li _ _ a2⟩
    | none => obtain ⟨rfl, lj⟩ := lj; exact ⟨_, lj _ _ a1, li _ _ a2⟩
    | rd c => obtain ⟨rfl, lj⟩ := lj; exact ⟨_, lj _ _ a1 rfl, li _ _ a2⟩
    | wt c => obtain ⟨B, rfl, hlt, lj⟩ := lj; exact ⟨_, lj _ _ a1 rfl, li _ _ a2⟩
    | al k => obtain ⟨rfl, B, rfl, lj⟩ := lj; exact ⟨_, lj _ _ a1 rfl, li _ _ a2⟩
    | rw r c => obtain ⟨B, rfl, hr, hlt, lj⟩ := lj; exact ⟨_, lj _ _ a1 rfl rfl, li _ _ a2⟩
    | put c k => obtain ⟨two, es, u, e1, rfl, lj⟩ := lj; exact ⟨_, lj _ _ _ a1 e1, li _ _ a2⟩
  | rd b =>
    obtain ⟨rfl, li⟩ := li
    cases fj with
    | all => simp [Foot.clash] at hc
    | none => obtain ⟨rfl, lj⟩ := lj; exact ⟨_, lj _ _ a1, li _ _ a2 rfl⟩
    | rd c => obtain ⟨rfl, lj⟩ := lj; exact ⟨_, lj _ _ a1 rfl, li _ _ a2 rfl⟩
    | wt c =>
      obtain ⟨B, rfl, hlt, lj⟩ := lj
      have hne : b ≠ c := fun e => by subst e; simp [Foot.clash] at hc
      exact ⟨_, lj _ _ a1 rfl, li _ _ a2 (List.getElem?_set_ne (Ne.symm hne))⟩
    | al k =>
      obtain ⟨rfl, B, rfl, lj⟩ := lj
      have hne : b ≠ H1.length := fun e => by subst e; simp [Foot.clash] at hc
      refine ⟨_, lj _ _ a1 rfl, li _ _ a2 ?_⟩
      rcases Nat.lt_or_ge b H1.length with h | h
      · rw [List.getElem?_append_left h]
      · rw [List.getElem?_eq_none (by simp; omega), List.getElem?_eq_none h]
    | rw r c =>
      obtain ⟨B, rfl, hr, hlt, lj⟩ := lj
      have hne : b ≠ c := fun e => by subst e; simp [Foot.clash] at hc
      exact ⟨_, lj _ _ a1 rfl rfl, li _ _ a2 (List.getElem?_set_ne (Ne.symm hne))⟩
    | put c k =>
      obtain ⟨two, es, u, e1, rfl, lj⟩ := lj
      have hne : b ≠ c := fun e => by subst e; simp [Foot.clash] at hc
      exact ⟨_, lj _ _ _ a1 e1, li _ _ a2 (List.getElem?_set_ne (Ne.symm hne))⟩
  | wt b =>
    obtain ⟨B, rfl, hlt, li⟩ := li
    cases fj with
    | all => simp [Foot.clash] at hc
    | none => obtain ⟨rfl, lj⟩ := lj; exact ⟨_, lj _ _ a1, li _ _ a2 rfl⟩
    | rd c =>
      obtain ⟨rfl, lj⟩ := lj
      have hne : b ≠ c := fun e => by subst e; simp [Foot.clash] at hc
      exact ⟨_, lj _ _ a1 (List.getElem?_set_ne hne).symm, li _ _ a2 rfl⟩
    | wt c =>
      obtain ⟨C, rfl, hlt2, lj⟩ := lj
      have hne : b ≠ c := fun e => by subst e; simp [Foot.clash] at hc
      refine ⟨_, lj _ _ a1 (List.getElem?_set_ne hne).symm, ?_⟩
      rw [List.set_comm _ _ hne]
      exact li _ _ a2 (List.getElem?_set_ne (Ne.symm hne))
    | al k =>
      obtain ⟨rfl, C, rfl, lj⟩ := lj
      rw [List.length_set] at lj
      refine ⟨_, by rw [List.length_set]; exact lj _ _ a1 rfl, ?_⟩
      have e : H.set b B ++ [C] = (H ++ [C]).set b B := by rw [List.set_append_left _ _ hlt]
      rw [e]
      exact li _ _ a2 (by rw [List.getElem?_append_left hlt])
    | rw r c =>
      obtain ⟨C, rfl, hr2, hlt2, lj⟩ := lj
      have hne : b ≠ c := fun e => by subst e; simp [Foot.clash] at hc
      have hnr : b ≠ r := fun e => by subst e; simp [Foot.clash] at hc
      refine ⟨_, lj _ _ a1 (List.getElem?_set_ne hnr).symm (List.getElem?_set_ne hne).symm, ?_⟩
      rw [List.set_comm _ _ hne]
      exact li _ _ a2 (List.getElem?_set_ne (Ne.symm hne))
    | put c k =>
      obtain ⟨two, es, u, e1, rfl, lj⟩ := lj
      have hne : b ≠ c := fun e => by subst e; simp [Foot.clash] at hc
      rw [List.getElem?_set_ne hne] at e1
      refine ⟨_, lj _ _ _ a1 e1, ?_⟩
      rw [List.set_comm _ _ hne]
      exact li _ _ a2 (List.getElem?_set_ne (Ne.symm hne))
  | al k =>
    obtain ⟨rfl, B, rfl, li⟩ := li
    cases fj with
    | all => simp [Foot.clash] at hc
    | none => obtain ⟨rfl, lj⟩ := lj; exact ⟨_, lj _ _ a1, li _ _ a2 rfl⟩
    | rd c =>
      obtain ⟨rfl, lj⟩ := lj
      have hne : H.length ≠ c := fun e => by subst e; simp [Foot.clash] at hc
      refine ⟨_, lj _ _ a1 ?_, li _ _ a2 rfl⟩
      rcases Nat.lt_or_ge c H.length with h | h
      · rw [List.getElem?_append_left h]
      · rw [List.getElem?_eq_none h, List.getElem?_eq_none (by simp; omega)]
    | wt c =>
      obtain ⟨C, rfl, hlt2, lj⟩ := lj
      have hne : H.length ≠ c := fun e => by subst e; simp [Foot.clash] at hc
      have h : c < H.length := by simp at hlt2; omega
      refine ⟨_, lj _ _ a1 (by rw [List.getElem?_append_left h]), ?_⟩
      rw [List.set_append_left _ _ h]
      exact li _ _ a2 (by simp)
    | al k => simp [Foot.clash] at hc
    | rw r c =>
      obtain ⟨C, rfl, hr2, hlt2, lj⟩ := lj
      have hne : H.length ≠ c := fun e => by subst e; simp [Foot.clash] at hc
      have hnr : H.length ≠ r := fun e => by subst e; simp [Foot.clash] at hc
      have h : c < H.length := by simp at hlt2; omega
      have h' : r < H.length := by simp at hr2; omega
      refine ⟨_, lj _ _ a1 (by rw [List.getElem?_append_left h']) (by rw [List.getElem?_append_left h]), ?_⟩
      rw [List.set_append_left _ _ h]
      exact li _ _ a2 (by simp)
    | put c k =>
      obtain ⟨two, es, u, e1, rfl, lj⟩ := lj
      have hne : H.length ≠ c := fun e => by subst e; simp [Foot.clash] at hc
      have h : c < H.length := by
        have := (List.getElem?_eq_some_iff.1 e1).1
        simp at this; omega
      rw [List.getElem?_append_left h] at e1
      refine ⟨_, lj _ _ _ a1 e1, ?_⟩
      rw [List.set_append_left _ _ h]
      exact li _ _ a2 (by simp)
  | put b k =>
    obtain ⟨two, es, u, e0, rfl, li⟩ := li
    have hlt := (List.getElem?_eq_some_iff.1 e0).1
    cases fj with
    | all => simp [Foot.clash] at hc
    | none => obtain ⟨rfl, lj⟩ := lj; exact ⟨_, lj _ _ a1, li _ _ _ a2 e0⟩
    | rd c =>
      obtain ⟨rfl, lj⟩ := lj
      have hne : b ≠ c := fun e => by subst e; simp [Foot.clash] at hc
      exact ⟨_, lj _ _ a1 (List.getElem?_set_ne hne).symm, li _ _ _ a2 e0⟩
    | wt c =>
      obtain ⟨C, rfl, hlt2, lj⟩ := lj
      have hne : b ≠ c := fun e => by subst e; simp [Foot.clash] at hc
      refine ⟨_, lj _ _ a1 (List.getElem?_set_ne hne).symm, ?_⟩
      rw [List.set_comm _ _ hne]
      exact li _ _ _ a2 (by rw [List.getElem?_set_ne (Ne.symm hne)]; exact e0)
    | al c =>
      obtain ⟨rfl, C, rfl, lj⟩ := lj
      rw [List.length_set] at lj
      refine ⟨_, by rw [List.length_set]; exact lj _ _ a1 rfl, ?_⟩
      have e : H.set b (.map two (putS k u es)) ++ [C] = (H ++ [C]).set b (.map two (putS k u es)) := by rw [List.set_append_left _ _ hlt]
      rw [e]
      exact li _ _ _ a2 (by rw [List.getElem?_append_left hlt]; exact e0)
    | rw r c =>
      obtain ⟨C, rfl, hr2, hlt2, lj⟩ := lj
      have hne : b ≠ c := fun e => by subst e; simp [Foot.clash] at hc
      have hnr : b ≠ r := fun e => by subst e; simp [Foot.clash] at hc
      refine ⟨_, lj _ _ a1 (List.getElem?_set_ne hnr).symm (List.getElem?_set_ne hne).symm, ?_⟩
      rw [List.set_comm _ _ hne]
      exact li _ _ _ a2 (by rw [List.getElem?_set_ne (Ne.symm hne)]; exact e0)
    | put c k' =>
      obtain ⟨two', es', u', e1, rfl, lj⟩ := lj
      by_cases hbc : b = c
      · subst hbc
        rw [List.getElem?_set_self hlt] at e1
        cases e1
        have hk : k ≠ k' := fun e => by
          subst e
          have : keqB k k = true := keq_iff.2 rfl
          simp [Foot.clash, this] at hc
        refine ⟨_, lj _ _ _ a1 e0, ?_⟩
        have := li _ (H.set b (.map two (putS k' u' es))) (putS k' u' es) a2 (by rw [List.getElem?_set_self hlt])
        rw [List.set_set, putS_comm hk] at this
        rw [List.set_set]
        exact this
      · rw [List.getElem?_set_ne hbc] at e1
        refine ⟨_, lj _ _ _ a1 e1, ?_⟩
        rw [List.set_comm _ _ hbc]
        exact li _ _ _ a2 (by rw [List.getElem?_set_ne (Ne.symm hbc)]; exact e0)
  | rw r b =>
    obtain ⟨B, rfl, hr, hlt, li⟩ := li
    cases fj with
    | all => simp [Foot.clash] at hc
    | none => obtain ⟨rfl, lj⟩ := lj; exact ⟨_, lj _ _ a1, li _ _ a2 rfl rfl⟩
    | rd c =>
      obtain ⟨rfl, lj⟩ := lj
      have hne : b ≠ c := fun e => by subst e; simp [Foot.clash] at hc
      exact ⟨_, lj _ _ a1 (List.getElem?_set_ne hne).symm, li _ _ a2 rfl rfl⟩
    | wt c =>
      obtain ⟨C, rfl, hlt2, lj⟩ := lj
      have hne : b ≠ c := fun e => by subst e; simp [Foot.clash] at hc
      have hnr : r ≠ c := fun e => by subst e; simp [Foot.clash] at hc
      refine ⟨_, lj _ _ a1 (List.getElem?_set_ne hne).symm, ?_⟩
      rw [List.set_comm _ _ hne]
      exact li _ _ a2 (List.getElem?_set_ne (Ne.symm hnr)) (List.getElem?_set_ne (Ne.symm hne))
    | al k =>
      obtain ⟨rfl, C, rfl, lj⟩ := lj
      rw [List.length_set] at lj
      refine ⟨_, by rw [List.length_set]; exact lj _ _ a1 rfl, ?_⟩
      have e : H.set b B ++ [C] = (H ++ [C]).set b B := by rw [List.set_append_left _ _ hlt]
      rw [e]
      exact li _ _ a2 (by rw [List.getElem?_append_left hr]) (by rw [List.getElem?_append_left hlt])
    | rw r' c =>
      obtain ⟨C, rfl, hr2, hlt2, lj⟩ := lj
      have hne : b ≠ c := fun e => by subst e; simp [Foot.clash] at hc
      have hnr : r ≠ c := fun e => by subst e; simp [Foot.clash] at hc
      have hnr' : b ≠ r' := fun e => by subst e; simp [Foot.clash] at hc
      refine ⟨_, lj _ _ a1 (List.getElem?_set_ne hnr').symm (List.getElem?_set_ne hne).symm, ?_⟩
      rw [List.set_comm _ _ hne]
      exact li _ _ a2 (List.getElem?_set_ne (Ne.symm hnr)) (List.getElem?_set_ne (Ne.symm hne))
    | put c k =>
      obtain ⟨two, es, u, e1, rfl, lj⟩ := lj
      have hne : b ≠ c := fun e => by subst e; simp [Foot.clash] at hc
      have hnr : r ≠ c := fun e => by subst e; simp [Foot.clash] at hc
      rw [List.getElem?_set_ne hne] at e1
      refine ⟨_, lj _ _ _ a1 e1, ?_⟩
      rw [List.set_comm _ _ hne]
      exact li _ _ a2 (List.getElem?_set_ne (Ne.symm hnr)) (List.getElem?_set_ne (Ne.symm hne))

/-! ### Steps -/
def StepA (P : Program) (env : Env) (ops : Array Oper) (n : Nat) (F : Foots) (i : Nat) (T : Tab) (H : List AB) (T' : Tab) (H' : List AB) : Prop :=
  ∃ o f v, ops[i]? = some o ∧ F[i]? = some f ∧ (∀ d, o.dst = some d → d < n) ∧ LS P env ops o T H v H' f ∧ Teq T' (putT o.dst v T)

theorem StepA.comm {F : Foots} {i j : Nat} {oi oj : Oper} {fi fj : Foot} (hi : ops[i]? = some oi) (hj : ops[j]? = some oj) (gi : F[i]? = some fi) (gj : F[j]? = some fj)
    (hap : oi.apart ops oj = true) (hc : fi.clash fj = false) {T T1 T2 : Tab} {H H1 H2 : List AB} (si : StepA P env ops n F i T H T1 H1) (sj : StepA P env ops n F j T1 H1 T2 H2) :
    ∃ T1' H1', StepA P env ops n F j T H T1' H1' ∧ StepA P env ops n F i T1' H1' T2 H2 := by
  obtain ⟨o, f, vi, e1, e2, di, li, ti⟩ := si
  rw [hi] at e1; rw [gi] at e2; cases e1; cases e2
  obtain ⟨o, f, vj, e1, e2, dj, lj, tj⟩ := sj
  rw [hj] at e1; rw [gj] at e2; cases e1; cases e2
  obtain ⟨p1, p2, p3⟩ := Oper.apart_spec hap
  have a1 : Agree ops oj T1 T := fun t ht => by
    rw [ti t, get_putT, if_neg (fun e => p1 t e ht)]
  have a2 : Agree ops oi T (putT oj.dst vj T) := fun t ht => by
    rw [get_putT, if_neg (fun e => p3 t e ht)]
  obtain ⟨H1', l1, l2⟩ := li.comm lj a1 a2 hc
  refine ⟨putT oj.dst vj T, H1', ⟨oj, fj, vj, hj, gj, dj, l1, Teq.refl _⟩, ⟨oi, fi, vi, hi, gi, di, l2, fun t => ?_⟩⟩
  rw [tj t, get_putT, ti t, get_putT, get_putT, get_putT]
  by_cases h1 : oj.dst = some t
  · rw [if_pos h1, if_neg (fun e => p2 t e h1), if_pos h1]
  · rw [if_neg h1, if_neg h1]

/-- Every order is well, and ends where it is to end. -/
def AnyA (P : Program) (env : Env) (ops : Array Oper) (n : Nat) (F : Foots) (Fin : Tab → List AB → Prop) : Nat → Array Bool → Tab → List AB → Prop
  | 0, listed, T, H => Region.ready .any ops listed = [] ∧ Fin T H
  | fuel + 1, listed, T, H =>
    (Region.ready .any ops listed = [] → Fin T H) ∧
    ∀ i ∈ Region.ready .any ops listed, ∃ T' H', StepA P env ops n F i T H T' H' ∧ AnyA P env ops n F Fin fuel (listed.setIfInBounds i true) T' H'

theorem getD_both' {listed : Array Bool} {i : Nat} (h : listed.getD i true = false) : listed.getD i false = false := by
  rcases Nat.lt_or_ge i listed.size with h' | h'
  · simp [h'] at h ⊢; exact h
  · simp [Array.getElem?_eq_none h'] at h

theorem closedB_spec {i : Nat} {D : List Bool} : ∀ (l : List Oper) (k : Nat), closedB i D k l = true → ∀ j o, l[j]? = some o → D.getD (k + j) false = true → ∃ e ∈ o.after, Region.binds .any e = true ∧ (e.on = i ∨ D.getD e.on false = true)
  | [], _, _, j, o, ho, _ => by simp at ho
  | o' :: l, k, h, j, o, ho, hd => by
    simp only [closedB, Bool.and_eq_true] at h
    cases j with
    | zero =>
      simp at ho
      subst ho
      simp only [Nat.add_zero] at hd
      have h1 := h.1
      rw [hd] at h1
      simp only [Bool.not_true, Bool.false_or, List.any_eq_true, Bool.and_eq_true, Bool.or_eq_true] at h1
      obtain ⟨e, he, hb, h2⟩ := h1
      exact ⟨e, by simpa using he, hb, h2.imp Nat.eq_of_beq_eq_true id⟩
    | succ j =>
      exact closedB_spec l (k + 1) h.2 j o (by simpa using ho) (by rw [← hd]; congr 1; omega)

theorem anyA_first {F : Foots} {Fin : Tab → List AB → Prop} {i : Nat} {oi : Oper} {fi : Foot} (hi : ops[i]? = some oi) (gi : F[i]? = some fi) (hF : F.length = ops.size) {D : List Bool}
    (hcl : ∀ j o, ops[j]? = some o → D.getD j false = true → ∃ e ∈ o.after, Region.binds .any e = true ∧ (e.on = i ∨ D.getD e.on false = true)) :
    ∀ (fuel : Nat) (listed : Array Bool) (T T1 : Tab) (H H1 : List AB),
      (∀ j oj fj, ops[j]? = some oj → F[j]? = some fj → j ≠ i → listed.getD j true = false → D.getD j false = false → oi.apart ops oj = true ∧ fi.clash fj = false) →
      (∀ j, D.getD j false = true → listed.getD j false = false) →
      i ∈ Region.ready .any ops listed → StepA P env ops n F i T H T1 H1 →
      AnyA P env ops n F Fin fuel (listed.setIfInBounds i true) T1 H1 → AnyA P env ops n F Fin (fuel + 1) listed T H := by
  intro fuel
  induction fuel with
  | zero =>
    intro listed T T1 H H1 _ _ hr hs A
    refine ⟨fun h => (by rw [h] at hr; cases hr), fun j hj => ?_⟩
    by_cases hji : j = i
    · subst hji; exact ⟨T1, H1, hs, A⟩
    · have := ready_mono hj hji
      rw [A.1] at this
      cases this
  | succ fuel ih =>
    intro listed T T1 H H1 hfree hd hr hs A
    refine ⟨fun h => (by rw [h] at hr; cases hr), fun j hj => ?_⟩
    by_cases hji : j = i
    · subst hji; exact ⟨T1, H1, hs, A⟩
    · obtain ⟨T2, H2, sj, A2⟩ := A.2 j (ready_mono hj hji)
      obtain ⟨hjun, oj, hoj, hall⟩ := mem_ready.1 hj
      have hDj : D.getD j false = false := by
        cases hDj : D.getD j false with
        | false => rfl
        | true =>
          obtain ⟨e, he, hb, h1⟩ := hcl j oj hoj hDj
          have h2 := hall e he hb
          rcases h1 with h1 | h1
          · rw [h1, getD_both' (mem_ready.1 hr).1] at h2; cases h2
          · rw [hd _ h1] at h2; cases h2
      have hjlt : j < F.length := by rw [hF]; exact (Array.getElem?_eq_some_iff.1 hoj).1
      obtain ⟨hap, hc⟩ := hfree j oj _ hoj (List.getElem?_eq_getElem hjlt) hji hjun hDj
      obtain ⟨T1', H1', s1, s2⟩ := StepA.comm hi hoj gi (List.getElem?_eq_getElem hjlt) hap hc hs sj
      refine ⟨T1', H1', s1, ih (listed.setIfInBounds j true) T1' T2 H1' H2 ?_ ?_ (ready_mono hr (Ne.symm hji)) s2 ?_⟩
      · intro k ok fk hk gk hki hun hDk
        refine hfree k ok fk hk gk hki ?_ hDk
        by_cases hjk : j = k
        · subst hjk; exact hjun
        · rw [getD_set_ne true hjk] at hun; exact hun
      · intro k hk
        have hjk : j ≠ k := fun e => by subst e; rw [hDj] at hk; cases hk
        rw [getD_set_ne false hjk]; exact hd k hk
      · rw [Array.setIfInBounds_comm _ _ hji]; exact A2

/-- The text's order. -/
def LexRun (P : Program) (env : Env) (ops : Array Oper) (n : Nat) (F : Foots) (Fin : Tab → List AB → Prop) : List Oper → Nat → Tab → List AB → Prop
  | [], _, T, H => Fin T H
  | _ :: l, k, T, H => ∃ T' H', StepA P env ops n F k T H T' H' ∧ LexRun P env ops n F Fin l (k + 1) T' H'

theorem freeFrom_spec {oi : Oper} {fi : Foot} {D : List Bool} : ∀ (l : List Oper) (F : Foots) (k : Nat), freeFrom ops oi fi D k l F = true → ∀ j oj fj, l[j]? = some oj → F[j]? = some fj → D.getD (k + j) false = false → oi.apart ops oj = true ∧ fi.clash fj = false
  | [], _, _, _, j, oj, _, ho, _, _ => by simp at ho
  | _ :: _, [], _, h, _, _, _, _, _, _ => by simp [freeFrom] at h
  | o :: l, f :: F, k, h, j, oj, fj, ho, hf, hd => by
    simp only [freeFrom, Bool.and_eq_true] at h
    cases j with
    | zero =>
      simp at ho hf
      subst ho; subst hf
      simp only [Nat.add_zero] at hd
      have h1 := h.1
      rw [hd] at h1
      simpa using h1
    | succ j => exact freeFrom_spec l F (k + 1) h.2 j oj fj (by simpa using ho) (by simpa using hf) (by rw [← hd]; congr 1; omega)

theorem take_all {D : List Bool} {k j : Nat} (h : ((D.take (k + 1)).all fun b => !b) = true) (hj : j < k + 1) : D.getD j false = false := by
  rw [List.all_eq_true] at h
  cases hd : D[j]? with
  | none => simp [hd]
  | some b =>
    have hm : b ∈ D.take (k + 1) := List.mem_of_getElem? (i := j) (by rw [List.getElem?_take, if_pos hj]; exact hd)
    have := h b hm
    simp [hd]; simpa using this

theorem anyA_lex {F : Foots} {Fin : Tab → List AB → Prop} (hF : F.length = ops.size) : ∀ (l : List Oper) (k : Nat) (listed : Array Bool) (T : Tab) (H : List AB), (∀ j, l[j]? = ops[k + j]?) →
    lexOk ops l.length k listed = true → orderedB ops k l (F.drop k) = true → (∀ j, k ≤ j → listed.getD j false = false) → (∀ j, j < k → listed.getD j true = true) → LexRun P env ops n F Fin l k T H → AnyA P env ops n F Fin l.length listed T H
  | [], k, listed, T, H, _, hL, _, _, _, hr => ⟨by simpa [lexOk] using hL, hr⟩
  | o :: l, k, listed, T, H, hl, hL, hO, hun, hli, hr => by
    have h0 : ops[k]? = some o := by simpa using (hl 0).symm
    have hkF : k < F.length := by rw [hF]; exact (Array.getElem?_eq_some_iff.1 h0).1
    have hdrop : F.drop k = F[k] :: F.drop (k + 1) := List.drop_eq_getElem_cons hkF
    rw [hdrop] at hO
    simp only [orderedB, Bool.and_eq_true] at hO
    obtain ⟨⟨⟨hDself, hcl⟩, hfree⟩, hO'⟩ := hO
    simp only [List.length_cons, lexOk, Bool.and_eq_true] at hL
    obtain ⟨T', H', hs, hr'⟩ := hr
    have hkr : k ∈ Region.ready .any ops listed := by simpa using hL.1
    have hl' : ∀ j, l[j]? = ops[k + 1 + j]? := fun j => by have := hl (j + 1); simpa [Nat.add_assoc, Nat.add_comm 1 j] using this
    refine anyA_first h0 (List.getElem?_eq_getElem hkF) hF (D := descL k ops.toList []) ?_ l.length listed T T' H H' ?_ ?_ hkr hs ?_
    · intro j oj hj hd
      exact closedB_spec ops.toList 0 hcl j oj (by simpa using hj) (by rw [Nat.zero_add]; exact hd)
    · intro j oj fj hj gj hne hun' hd
      have hjk : k + 1 ≤ j := by
        rcases Nat.lt_or_ge j k with h | h
        · rw [hli j h] at hun'; cases hun'
        · omega
      refine freeFrom_spec l (F.drop (k + 1)) (k + 1) hfree (j - (k + 1)) oj fj ?_ ?_ ?_
      · rw [hl', show k + 1 + (j - (k + 1)) = j by omega]; exact hj
      · rw [List.getElem?_drop, show k + 1 + (j - (k + 1)) = j by omega]; exact gj
      · rw [show k + 1 + (j - (k + 1)) = j by omega]; exact hd
    · intro j hd
      rcases Nat.lt_or_ge j k with h | h
      · exact absurd hd (by rw [take_all hDself (by omega)]; simp)
      · exact hun j h
    · refine anyA_lex hF l (k + 1) _ T' H' hl' hL.2 hO' ?_ ?_ hr'
      · intro j hj
        rw [getD_set_ne false (by omega)]; exact hun j (by omega)
      · intro j hj
        by_cases e : j = k
        · subst e
          have : (listed.setIfInBounds j true).getD j true = true := by
            rcases Nat.lt_or_ge j listed.size with h | h
            · simp [h]
            · simp [Array.getElem?_eq_none h]
          exact this
        · rw [getD_set_ne true (Ne.symm e)]; exact hli j (by omega)
theorem Teq.ev {T T' : Tab} (h : Teq T T') : ev T = ev T' := funext fun x => by
  cases x with
  | tmp t => exact h t
  | _ => rfl
theorem Teq.foot {T T' : Tab} (h : Teq T T') (H : List AB) (op : Op) : footOf P env T H op = footOf P env T' H op := by
  unfold footOf; rw [h.ev]
theorem Teq.exec {T T' : Tab} (h : Teq T T') (o : Oper) (H : List AB) : aexecD P env o T H = aexecD P env o T' H := by
  unfold aexecD aexec; rw [h.ev]
theorem Teq.putT {T T' : Tab} (h : Teq T T') (d : Option Tmp) (v : AV) : Teq (putT d v T) (putT d v T') := fun t => by
  rw [get_putT, get_putT, h t]

theorem aguard_cases {ρ : Type} {o : Oper} {T : Tab} {run skip : Tab → Option ρ} {r : ρ} (h : aguard ops n o T run skip = some r) :
    (∃ T1, Teq T1 T ∧ wantedA ops o T = some true ∧ run T1 = some r) ∨ (∃ T1, Teq T1 T ∧ wantedA ops o T = some false ∧ skip T1 = some r) := by
  unfold aguard at h
  split at h
  · rename_i hg
    exact .inl ⟨T, Teq.refl T, by simp only [wantedA, hg], h⟩
  · rename_i j want hg
    split at h
    · cases h
    · rename_i d hd
      cases hb : Nat.ble (d + 1) n with
      | false => rw [hb] at h; cases h
      | true =>
        rw [hb] at h
        simp only [cond_true] at h
        split at h
        · rename_i x hx
          have hq : ∀ y, y = x → Teq ((d, .bool y) :: T) T := fun y hy t => by
            subst hy
            by_cases e : d = t
            · subst e; rw [hx]; simp [get]
            · exact get_cons_ne e _ _
          have hw : wantedA ops o T = some (x == want) := by simp only [wantedA, hg, hd, hx]
          cases x <;> cases want <;> simp at h <;> first
            | exact .inl ⟨_, hq _ rfl, by rw [hw]; rfl, h⟩
            | exact .inr ⟨_, hq _ rfl, by rw [hw]; rfl, h⟩
        · cases h

theorem aput_cases {ρ : Type} {d : Option Tmp} {v : AV} {T : Tab} {K : Tab → Option ρ} {r : ρ} (h : aput n d v T K = some r) : (∀ e, d = some e → e < n) ∧ K (putT d v T) = some r := by
  cases d with
  | none => exact ⟨fun e he => (by cases he), h⟩
  | some d =>
    simp only [aput] at h
    cases hb : Nat.ble (d + 1) n with
    | false => rw [hb] at h; cases h
    | true => rw [hb] at h; exact ⟨fun e he => (by cases he; exact Nat.le_of_ble_eq_true hb), h⟩

theorem aopsO_lex {ρ : Type} {chk : Foots → Bool} {K : Tab → List AB → Option ρ} {r : ρ} : ∀ (l : List Oper) (k : Nat) (T : Tab) (H : List AB) (Fa : Foots), (∀ j, l[j]? = ops[k + j]?) → k + l.length = ops.size → Fa.length = k →
    aopsO chk P env ops n l T H Fa K = some r → ∃ F : Foots, F.length = ops.size ∧ F.take k = Fa.reverse ∧ (chk F = true ∧ orderedB ops 0 ops.toList F = true) ∧
      LexRun P env ops n F (fun T H => ∃ Tl, Teq T Tl ∧ K Tl H = some r) l k T H
  | [], k, T, H, Fa, _, hk, hFa, h => by
    simp only [aopsO] at h
    cases hb : (chk Fa.reverse && orderedB ops 0 ops.toList Fa.reverse) with
    | false => rw [hb] at h; cases h
    | true =>
      rw [hb] at h
      simp only [Bool.and_eq_true] at hb
      simp only [List.length_nil, Nat.add_zero] at hk
      exact ⟨Fa.reverse, by simp [hFa, hk], by rw [List.take_of_length_le (by simp [hFa])], hb, T, Teq.refl T, h⟩
  | o :: l, k, T, H, Fa, hl, hk, hFa, h => by
    have h0 : ops[k]? = some o := by simpa using (hl 0).symm
    have hl' : ∀ j, l[j]? = ops[k + 1 + j]? := fun j => by have := hl (j + 1); simpa [Nat.add_assoc, Nat.add_comm 1 j] using this
    simp only [List.length_cons] at hk
    have ends : ∀ (F : Foots) (f : Foot), F.length = ops.size → F.take (k + 1) = (f :: Fa).reverse → F[k]? = some f ∧ F.take k = Fa.reverse := fun F f hF ht => by
      rw [List.reverse_cons] at ht
      constructor
      · have : (F.take (k + 1))[k]? = F[k]? := by rw [List.getElem?_take, if_pos (by omega)]
        rw [← this, ht, List.getElem?_append_right (by simp [hFa])]; simp [hFa]
      · have : (F.take (k + 1)).take k = F.take k := by rw [List.take_take]; congr 1; omega
        rw [← this, ht, List.take_append_of_le_length (by simp [hFa]), List.take_of_length_le (by simp [hFa])]
    simp only [aopsO] at h
    rcases aguard_cases h with ⟨T1, ht, hw, h1⟩ | ⟨T1, ht, hw, h1⟩
    · split at h1
      · rename_i f hf
        rw [aexec_nat hf] at h1
        obtain ⟨⟨v, H'⟩, hx, h2⟩ := Option.bind_eq_some_iff.1 h1
        obtain ⟨hd, h3⟩ := aput_cases h2
        obtain ⟨F, e1, e2, e3, e4⟩ := aopsO_lex l (k + 1) _ H' (f :: Fa) hl' (by omega) (by simp [hFa]) h3
        obtain ⟨g1, g2⟩ := ends F f e1 e2
        exact ⟨F, e1, g2, e3, _, H', ⟨o, f, v, h0, g1, hd, .inl ⟨hw, by rw [← ht.foot]; exact hf, by rw [← ht.exec]; exact hx⟩, ht.putT _ _⟩, e4⟩
      · cases h1
    · obtain ⟨hd, h3⟩ := aput_cases h1
      obtain ⟨F, e1, e2, e3, e4⟩ := aopsO_lex l (k + 1) _ H (.none :: Fa) hl' (by omega) (by simp [hFa]) h3
      obtain ⟨g1, g2⟩ := ends F .none e1 e2
      exact ⟨F, e1, g2, e3, _, H, ⟨o, .none, .any, h0, g1, hd, .inr ⟨hw, rfl, rfl, rfl⟩, ht.putT _ _⟩, e4⟩

/-! ### What the orders are in the model -/
theorem dcD_DC (hE : EnvOk P env) {ρ : Type} : DC P (dcD (ρ := ρ) env) := by
  intro fid args H K r h m Args w hA hH
  unfold dcD at h
  split at h
  · rename_i C F hF
    cases hC : C args with
    | false => rw [hC] at h; cases h
    | true =>
    rw [hC] at h
    simp only [cond_true] at h
    split at h
    · rename_i v hv
      cases hb : v.noPtr with
      | false => rw [hb] at h; cases h
      | true =>
        rw [hb] at h
        obtain ⟨h1, h2⟩ := hE fid _ hF
        refine .inr ⟨h1 Args w, (h2 args v hC hv m Args w hA).mono fun e w' ⟨V, e1, e2, e3⟩ => ?_⟩
        exact ⟨v, V, m, H, e1, R_noPtr v hb e2, hH.same e3.blocks, e3.same, h⟩
    · cases h
  · rename_i C F hF
    cases hC : C args with
    | false => rw [hC] at h; cases h
    | true =>
    rw [hC] at h
    simp only [cond_true] at h
    split at h
    · rename_i v hv
      obtain ⟨V, h2, h3⟩ := hE fid _ hF args v hC hv m Args hA
      exact .inl ⟨v, V, h, h2, h3 w⟩
    · cases h
  · rename_i F hF
    split at h
    · rename_i v hv
      cases hb : v.noPtr with
      | false => rw [hb] at h; cases h
      | true =>
        rw [hb] at h
        obtain ⟨h1, h2⟩ := hE fid _ hF
        refine .inr ⟨h1 Args w, (h2 args v rfl hv m Args w hA).mono fun e w' ⟨V, e1, e2, e3⟩ => ?_⟩
        exact ⟨v, V, m, H, e1, R_noPtr v hb e2, hH.same e3.blocks, e3.same, h⟩
    · cases h
  · rename_i T F hF
    split at h
    · rename_i v H' hv
      obtain ⟨h1, h2⟩ := hE fid _ hF
      refine .inr ⟨h1 Args w, (h2 args H v H' rfl hv m Args w hA hH).mono fun e w' ⟨V, m', e1, e2, e3, e4⟩ => ?_⟩
      exact ⟨v, V, m', H', e1, e2, e3, e4, h⟩
    · cases h
  · rename_i T F hF
    split at h
    · rename_i v H' hv
      obtain ⟨h1, h2⟩ := hE fid _ hF
      refine .inr ⟨h1 Args w, (h2 args H v H' rfl hv m Args w hA hH).mono fun e w' ⟨V, m', e1, e2, e3, e4⟩ => ?_⟩
      exact ⟨v, V, m', H', e1, e2, e3, e4, h⟩
    · cases h
  · cases h

theorem wantedA_ok {m : List Nat} {o : Oper} {T : Tab} {tmps : Array Value} (hT : TR m n T tmps) {b : Bool} (h : wantedA ops o T = some b) : Region.wanted o (yielded ops tmps) = b := by
  unfold wantedA at h
  split at h
  · rename_i hg; cases h; simp [Region.wanted, hg]
  · rename_i j want hg
    split at h
    · cases h
    · rename_i d hd
      split at h
      · rename_i x hx
        cases h
        have hR := hT.2 d
        rw [hx] at hR
        simp only [R] at hR
        have hg' : tmps[d]? = some (.bool x) := by
          rw [Array.getD_eq_getD_getElem?] at hR
          cases hq : tmps[d]? with
          | none => rw [hq] at hR; simp [undef] at hR
          | some V => rw [hq] at hR; simp at hR; rw [hR]
        have hy : yielded ops tmps j = some x := by
          unfold yielded
          rw [hd]
          show (match tmps[d]? with | some (.bool b) => some b | _ => none) = some x
          rw [hg']
        simp [Region.wanted, hg, hy]
      · cases h

theorem TR.teq {m : List Nat} {T T' : Tab} {tmps : Array Value} (h : TR m n T tmps) (ht : Teq T' T) : TR m n T' tmps := ⟨h.1, fun i => by rw [ht i]; exact h.2 i⟩
theorem TR.putT {m : List Nat} {T : Tab} {a : Act} (h : TR m n T a.tmps) {d : Option Tmp} (hd : ∀ e, d = some e → e < n) {v : AV} {V : Value} (hv : R m v V) : TR m n (putT d v T) (a.put d V).tmps := by
  cases d with
  | none => exact h
  | some d => exact h.put (hd d rfl) hv

theorem anyA_sound (hE : EnvOk P env) {F : Foots} {Fin : Tab → List AB → Prop} {Q : Exit → Act → World → Prop} : ∀ (fuel : Nat) (listed : Array Bool) (T : Tab) (H : List AB) (m : List Nat) (a : Act) (w : World),
    AnyA P env ops n F Fin fuel listed T H → TR m n T a.tmps → HR m H w →
    (∀ T' H' a' m' w', TR m' n T' a'.tmps → HR m' H' w' → Ext m w m' w' → a'.defers = a.defers → Fin T' H' → Q .normal a' w') → wpAny P .any ops Q fuel listed a w
  | 0, _, T, H, m, a, w, h, hT, hH, hQ => ⟨h.1, hQ T H a m w hT hH (Ext.refl m w) rfl h.2⟩
  | fuel + 1, listed, T, H, m, a, w, h, hT, hH, hQ => by
    refine ⟨fun h0 => hQ T H a m w hT hH (Ext.refl m w) rfl (h.1 h0), fun i hi => ?_⟩
    obtain ⟨T', H', ⟨o, f, v, e1, e2, hd, hl, ht⟩, hA⟩ := h.2 i hi
    unfold wpOp
    simp only [e1]
    rcases hl with ⟨hw, hf, hx⟩ | ⟨hw, rfl, rfl, rfl⟩
    · rw [if_pos (wantedA_ok hT hw)]
      refine .inl (aexec_ok (dcD_DC hE) hT hH hx fun v' H'' V m' w' hv hH' hEx hK => ?_)
      cases hK
      have hT1 : TR m' n T a.tmps := by obtain ⟨x, hx, _⟩ := hEx.pre; rw [hx]; exact hT.mono x
      exact anyA_sound hE fuel _ T' H' m' _ w' hA ((hT1.putT hd hv).teq ht) hH' fun T3 H3 a3 m3 w3 q1 q2 q3 q4 q5 => hQ T3 H3 a3 m3 w3 q1 q2 (hEx.trans q3) (q4.trans (put_defers _ _ _)) q5
    · rw [if_neg (by rw [wantedA_ok hT hw]; simp)]
      exact anyA_sound hE fuel _ T' H' m _ w hA ((hT.putT hd (V := undef) (by simp only [R])).teq ht) hH fun T3 H3 a3 m3 w3 q1 q2 q3 q4 q5 => hQ T3 H3 a3 m3 w3 q1 q2 q3 (q4.trans (put_defers _ _ _)) q5

/-- A region that draws its order. -/
theorem aopsO_ok {ρ : Type} (hE : EnvOk P env) {K : Tab → List AB → Option ρ} {r : ρ} {T : Tab} {H : List AB} (hL : lexOk ops ops.size 0 (Array.replicate ops.size false) = true) (h : aopsO (fun _ => true) P env ops n ops.toList T H [] K = some r)
    {m : List Nat} {a : Act} {w : World} {Q : Exit → Act → World → Prop} {id : Nat} (hm : P.follows .mixedOrders = true) (hT : TR m n T a.tmps) (hH : HR m H w)
    (hQ : ∀ T' H' a' m' w', TR m' n T' a'.tmps → HR m' H' w' → Ext m w m' w' → a'.defers = a.defers → K T' H' = some r → Q .normal a' w') : (Code.region id ops true).wp P Q a w := by
  obtain ⟨F, e1, _, ⟨_, e3⟩, e4⟩ := aopsO_lex ops.toList 0 T H [] (by simp) (by simp) rfl h
  have hA := anyA_lex (P := P) (env := env) (n := n) e1 ops.toList 0 (Array.replicate ops.size false) T H (by simp) (by simpa using hL) (by simpa using e3)
    (fun j _ => by rcases Nat.lt_or_ge j ops.size with h | h <;> simp [h]) (fun j hj => by omega) e4
  have hw : HR m H { w with drawn := w.drawn + 1 } := hH.drewN 1
  have hx : Ext m w m { w with drawn := w.drawn + 1 } := ⟨⟨[], by simp⟩, rfl, rfl, rfl, Nat.le_refl _, fun _ _ _ => rfl⟩
  refine wp_region_any hm ?_
  have := anyA_sound (Q := Q) hE ops.toList.length (Array.replicate ops.size false) T H m a { w with drawn := w.drawn + 1 } hA hT hw fun T' H' a' m' w' q1 q2 q3 q4 ⟨Tl, t1, t2⟩ =>
    hQ Tl H' a' m' w' (q1.teq fun i => (t1 i).symm) q2 (hx.trans q3) q4 t2
  simpa using this
end
#print axioms aopsO_ok
end Go.Proofs.Ytcagaaaibhifdaa.Ae

/- Regions that draw their order and make more than one block: the blocks are numbered by the text's order, whatever order is drawn. Conditions: the contracts that are looked up hold. -/
namespace Go.Proofs.Ytcagaaaibhifdaa.Ae
open Go

section
variable {P : Program} {env : Env} {ops : Array Oper} {n : Nat} {A : List Va}

theorem devirt_after (n : Nat) (o : Oper) : (devirt n o).after = o.after ∧ (devirt n o).dst = o.dst ∧ (devirt n o).guard = o.guard := by
  unfold devirt
  split
  · rename_i h1 h2; exact ⟨rfl, by simp [h2], rfl⟩
  · exact ⟨rfl, rfl, rfl⟩
theorem devirt_not {o : Oper} (n : Nat) (h : isAllocB o.op = false) : devirt n o = o := by
  unfold devirt
  split
  · rename_i h1 h2; rw [h1] at h; cases h
  · rfl
theorem devirt_get (i : Nat) : (ops.map (devirt n))[i]? = (ops[i]?).map (devirt n) := by simp
theorem ready_devirt {listed : Array Bool} {i : Nat} : i ∈ Region.ready .any (ops.map (devirt n)) listed ↔ i ∈ Region.ready .any ops listed := by
  rw [mem_ready, mem_ready, devirt_get]
  constructor
  · rintro ⟨h0, o, ho, h⟩
    obtain ⟨o', ho', rfl⟩ := Option.map_eq_some_iff.1 ho
    rw [(devirt_after n o').1] at h
    exact ⟨h0, o', ho', h⟩
  · rintro ⟨h0, o, ho, h⟩
    exact ⟨h0, devirt n o, by rw [ho]; rfl, by rw [(devirt_after n o).1]; exact h⟩
theorem ready_devirt_nil {listed : Array Bool} (h : Region.ready .any ops listed = []) : Region.ready .any (ops.map (devirt n)) listed = [] := by
  rw [List.eq_nil_iff_forall_not_mem] at h ⊢
  exact fun i hi => h i (ready_devirt.1 hi)

/-- What is known of the region's operations. -/
structure VOk (P : Program) (ops : Array Oper) (n L : Nat) (A : List Va) (F : Foots) : Prop where
  dist : ∀ (i j : Nat) (a b : Va), A[i]? = some a → A[j]? = some b → a.d = b.d → i = j
  mem : ∀ a ∈ A, ∃ o, ops[a.i]? = some o ∧ o.op = .alloc a.t ∧ o.dst = some a.d ∧ (zeroA P a.t).bind cellsOf? = some a.l ∧ a.d < n ∧ AV.noPtrL a.l = true
  grd : ∀ (i : Nat) (o : Oper), ops[i]? = some o → o.guard = none
  all : ∀ (i : Nat) (o : Oper), ops[i]? = some o → isAllocB o.op = true → (∃ a ∈ A, a.i = i) ∧ ∀ e, e ∉ o.after
  oth : ∀ (i : Nat) (o : Oper) (f : Foot), ops[i]? = some o → F[i]? = some f → isAllocB o.op = false → (∀ d, o.dst = some d → d < n ∧ ∀ a ∈ A, a.d ≠ d) ∧ (∀ t ∈ o.looksAt ops, t < n) ∧
    ((∀ a ∈ A, ∃ e ∈ o.after, Region.binds .any e = true ∧ e.on = a.i) ∨ ((∀ t ∈ o.looksAt ops, ∀ a ∈ A, a.d ≠ t) ∧ lowF L f = true))

theorem slotIn_iff {t : Nat} : slotIn A t = true ↔ ∃ a ∈ A, a.d = t := by
  unfold slotIn
  simp only [List.any_eq_true]
  exact ⟨fun ⟨a, h, e⟩ => ⟨a, h, Nat.eq_of_beq_eq_true e⟩, fun ⟨a, h, e⟩ => ⟨a, h, by rw [e]; exact Nat.beq_refl _⟩⟩
theorem slotIn_not {t : Nat} (h : slotIn A t = false) : ∀ a ∈ A, a.d ≠ t := fun a ha e => by
  rw [slotIn_iff.2 ⟨a, ha, e⟩] at h; cases h
theorem distB_ok : ∀ {A : List Va}, distB A = true → ∀ (i j : Nat) (a b : Va), A[i]? = some a → A[j]? = some b → a.d = b.d → i = j
  | [], _, i, j, a, b, h, _, _ => by simp at h
  | c :: A, h, i, j, a, b, h1, h2, e => by
    simp only [distB, Bool.and_eq_true, Bool.not_eq_true'] at h
    rcases i with _ | i <;> rcases j with _ | j
    · rfl
    · simp at h1 h2; subst h1
      exact absurd e.symm (slotIn_not h.1 b (List.mem_of_getElem? h2))
    · simp at h1 h2; subst h2
      exact absurd e (slotIn_not h.1 a (List.mem_of_getElem? h1))
    · simp at h1 h2
      rw [distB_ok h.2 i j a b h1 h2 e]
theorem vasOf_mem : ∀ (l : List Oper) (k : Nat), (∀ j, l[j]? = ops[k + j]?) → ∀ a ∈ vasOf P k l, ∃ o, ops[a.i]? = some o ∧ o.op = .alloc a.t ∧ o.dst = some a.d ∧ (zeroA P a.t).bind cellsOf? = some a.l
  | [], k, _, a, h => by simp [vasOf] at h
  | o :: l, k, hl, a, h => by
    have h0 : ops[k]? = some o := by simpa using (hl 0).symm
    have hl' : ∀ j, l[j]? = ops[k + 1 + j]? := fun j => by have := hl (j + 1); simpa [Nat.add_assoc, Nat.add_comm 1 j] using this
    unfold vasOf at h
    split at h
    · rename_i t d h1 h2
      split at h
      · rename_i c hc
        rcases List.mem_cons.1 h with rfl | h
        · exact ⟨o, h0, h1, h2, hc⟩
        · exact vasOf_mem l (k + 1) hl' a h
      · exact vasOf_mem l (k + 1) hl' a h
    · exact vasOf_mem l (k + 1) hl' a h
theorem chkAll_get {L : Nat} : ∀ (l : List Oper) (F : Foots) (k : Nat), chkAll A ops n L k l F = true → ∀ j o, l[j]? = some o → (∃ f, F[j]? = some f) ∧ ∀ f, F[j]? = some f → chkOp A ops n L (k + j) o f = true
  | [], F, k, _, j, o, h => by simp at h
  | _ :: _, [], k, h, j, o, _ => by simp [chkAll] at h
  | o' :: l, f' :: F, k, h, j, o, ho => by
    simp only [chkAll, Bool.and_eq_true] at h
    rcases j with _ | j
    · simp at ho
      subst ho
      exact ⟨⟨f', rfl⟩, fun f hf => by simp at hf; subst hf; exact h.1⟩
    · simp at ho
      obtain ⟨h1, h2⟩ := chkAll_get l F (k + 1) h.2 j o ho
      refine ⟨by simpa using h1, fun f hf => ?_⟩
      have := h2 f (by simpa using hf)
      rw [show k + (j + 1) = k + 1 + j from by omega]; exact this
theorem vok_of {L : Nat} {F : Foots} (h1 : distB (vasOf P 0 ops.toList) = true) (h2 : (vasOf P 0 ops.toList).all (fun a => Nat.ble (a.d + 1) n && AV.noPtrL a.l) = true) (h3 : chkAll (vasOf P 0 ops.toList) ops n L 0 ops.toList F = true) : VOk P ops n L (vasOf P 0 ops.toList) F := by
  have hm := vasOf_mem (P := P) (ops := ops) ops.toList 0 (by simp)
  generalize vasOf P 0 ops.toList = A at *
  have hc : ∀ (i : Nat) (o : Oper), ops[i]? = some o → (∃ f, F[i]? = some f) ∧ ∀ f, F[i]? = some f → chkOp A ops n L i o f = true := fun i o ho => by
    have := chkAll_get ops.toList F 0 h3 i o (by simpa using ho)
    rw [Nat.zero_add] at this; exact this
  refine ⟨distB_ok h1, fun a ha => ?_, fun i o ho => ?_, fun i o ho hal => ?_, fun i o f ho hf hal => ?_⟩
  · obtain ⟨o, e1, e2, e3, e4⟩ := hm a ha
    have := List.all_eq_true.1 h2 a ha
    simp only [Bool.and_eq_true] at this
    exact ⟨o, e1, e2, e3, e4, Nat.le_of_ble_eq_true this.1, this.2⟩
  · obtain ⟨⟨f, hf⟩, h⟩ := hc i o ho
    have := h f hf
    simp only [chkOp, Bool.and_eq_true] at this
    simpa using this.1
  · obtain ⟨⟨f, hf⟩, h⟩ := hc i o ho
    have := h f hf
    simp only [chkOp, Bool.and_eq_true, hal, cond_true, List.any_eq_true] at this
    obtain ⟨-, ⟨a, ha, e⟩, he⟩ := this
    exact ⟨⟨a, ha, Nat.eq_of_beq_eq_true e⟩, fun e h => by simp at he; rw [he] at h; simp at h⟩
  · have := (hc i o ho).2 f hf
    simp only [chkOp, Bool.and_eq_true, hal, cond_false, Bool.or_eq_true, List.all_eq_true] at this
    obtain ⟨-, ⟨h4, h5⟩, h6⟩ := this
    refine ⟨fun d hd => ?_, fun t ht => Nat.le_of_ble_eq_true (h5 t ht), ?_⟩
    · rw [hd] at h4
      simp only [Bool.and_eq_true, Bool.not_eq_true'] at h4
      exact ⟨Nat.le_of_ble_eq_true h4.1, slotIn_not h4.2⟩
    · rcases h6 with h6 | ⟨h6, h7⟩
      · refine .inl fun a ha => ?_
        unfold aftAll at h6
        have := List.all_eq_true.1 h6 a ha
        simp only [List.any_eq_true, Bool.and_eq_true] at this
        obtain ⟨e, he, hb, hn⟩ := this
        exact ⟨e, by simpa using he, hb, Nat.eq_of_beq_eq_true hn⟩
      · refine .inr ⟨fun t ht => slotIn_not (by simpa using h6 t ht), h7⟩

/-! ### Masks -/
theorem get_map_any {g : Va → Nat} (T : Tab) (i : Nat) : ∀ A : List Va, get (A.map (fun a => (g a, AV.any)) ++ T) i = if (∃ a ∈ A, g a = i) then .any else get T i
  | [] => by simp
  | a :: A => by
    by_cases h : g a = i
    · subst h
      rw [if_pos ⟨a, List.mem_cons_self .., rfl⟩]
      simp [get]
    · rw [List.map_cons, List.cons_append, get_cons_ne h, get_map_any T i A]
      by_cases h' : ∃ b ∈ A, g b = i
      · obtain ⟨b, hb, e⟩ := h'
        rw [if_pos ⟨b, hb, e⟩, if_pos ⟨b, List.mem_cons_of_mem _ hb, e⟩]
      · rw [if_neg h', if_neg (by
          rintro ⟨b, hb, e⟩
          rcases List.mem_cons.1 hb with rfl | hb
          · exact h e
          · exact h' ⟨b, hb, e⟩)]
def maskA (n : Nat) (A : List Va) (T : Tab) : Tab := A.map (fun a => (a.d, AV.any)) ++ maskF n A T
theorem get_maskF (T : Tab) (i : Nat) : get (maskF n A T) i = if (∃ a ∈ A, n + a.d = i) then .any else get T i := get_map_any (g := fun a => n + a.d) T i A
theorem get_maskA (T : Tab) (i : Nat) : get (maskA n A T) i = if (∃ a ∈ A, a.d = i) then .any else if (∃ a ∈ A, n + a.d = i) then .any else get T i := by
  unfold maskA
  rw [get_map_any (g := fun a => a.d), get_maskF]
theorem maskF_lt {T : Tab} {i : Nat} (h : i < n) : get (maskF n A T) i = get T i := by
  rw [get_maskF, if_neg (by rintro ⟨a, _, e⟩; omega)]
theorem mask_put {M : Tab → Tab} {S : Nat → Prop} [DecidablePred S] (hM : ∀ T i, get (M T) i = if S i then .any else get T i) {d : Option Tmp} {v : AV} {T T1 : Tab} (ht : Teq T1 (putT d v T)) (hd : ∀ e, d = some e → ¬ S e) : Teq (M T1) (putT d v (M T)) := by
  intro i
  rw [hM, get_putT, hM]
  by_cases hS : S i
  · rw [if_pos hS, if_neg (fun e => hd i e hS), if_pos hS]
  · rw [if_neg hS, if_neg hS, ht i, get_putT]

/-- What an operation does where its slots are alike. -/
theorem LS.same {o : Oper} {T T2 : Tab} {H H1 : List AB} {v : AV} {f : Foot} (h : LS P env ops o T H v H1 f) (hg : o.guard = none) (ha : Agree ops o T T2) : aexecD P env o T2 H = some (v, H1) := by
  have ex : ∀ {T2 : Tab} {H H1 : List AB} {f : Foot}, LS P env ops o T2 H v H1 f → aexecD P env o T2 H = some (v, H1) := by
    rintro T2 H H1 f (⟨_, _, hx⟩ | ⟨hw, _⟩)
    · exact hx
    · simp [wantedA, hg] at hw
  have hl := h.loc
  cases f with
  | all => exact ex (hl T2 ha)
  | none => obtain ⟨rfl, hl⟩ := hl; exact ex (hl T2 _ ha)
  | rd b => obtain ⟨rfl, hl⟩ := hl; exact ex (hl T2 _ ha rfl)
  | wt b => obtain ⟨B, rfl, _, hl⟩ := hl; exact ex (hl T2 _ ha rfl)
  | al k => obtain ⟨rfl, B, rfl, hl⟩ := hl; exact ex (hl T2 _ ha rfl)
  | rw r b => obtain ⟨B, rfl, _, _, hl⟩ := hl; exact ex (hl T2 _ ha rfl rfl)
  | put b k => obtain ⟨two, es, u, e1, rfl, hl⟩ := hl; exact ex (hl T2 _ es ha e1)
/-- .. without the blocks that stand behind. -/
theorem LS.less {o : Oper} {T T2 : Tab} {H Bs H1 : List AB} {v : AV} {f : Foot} (h : LS P env ops o T (H ++ Bs) v H1 f) (hg : o.guard = none) (ha : Agree ops o T T2) (hf : lowF H.length f = true) :
    ∃ H2, aexecD P env o T2 H = some (v, H2) ∧ H1 = H2 ++ Bs ∧ H2.length = H.length := by
  have ex : ∀ {T2 : Tab} {H H1 : List AB} {f : Foot}, LS P env ops o T2 H v H1 f → aexecD P env o T2 H = some (v, H1) := by
    rintro T2 H H1 f (⟨_, _, hx⟩ | ⟨hw, _⟩)
    · exact hx
    · simp [wantedA, hg] at hw
  have hl := h.loc
  cases f with
  | all => cases hf
  | none => obtain ⟨rfl, hl⟩ := hl; exact ⟨H, ex (hl T2 H ha), rfl, rfl⟩
  | rd b =>
    obtain ⟨rfl, hl⟩ := hl
    have hb : b < H.length := Nat.le_of_ble_eq_true hf
    exact ⟨H, ex (hl T2 H ha (by rw [List.getElem?_append_left hb])), rfl, rfl⟩
  | wt b =>
    obtain ⟨B, rfl, _, hl⟩ := hl
    have hb : b < H.length := Nat.le_of_ble_eq_true hf
    exact ⟨_, ex (hl T2 H ha (by rw [List.getElem?_append_left hb])), by rw [List.set_append_left _ _ hb], by simp⟩
  | al k => cases hf
  | rw r b =>
    obtain ⟨B, rfl, _, _, hl⟩ := hl
    simp only [lowF, Bool.and_eq_true] at hf
    have hr : r < H.length := Nat.le_of_ble_eq_true hf.1
    have hb : b < H.length := Nat.le_of_ble_eq_true hf.2
    exact ⟨_, ex (hl T2 H ha (by rw [List.getElem?_append_left hr]) (by rw [List.getElem?_append_left hb])), by rw [List.set_append_left _ _ hb], by simp⟩
  | put b k =>
    obtain ⟨two, es, u, e1, rfl, hl⟩ := hl
    have hb : b < H.length := Nat.le_of_ble_eq_true hf
    rw [List.getElem?_append_left hb] at e1
    exact ⟨_, ex (hl T2 H es ha e1), by rw [List.set_append_left _ _ hb], by simp⟩

theorem looksAt_devirt {o : Oper} (hg : ∀ (i : Nat) (o : Oper), ops[i]? = some o → o.guard = none) (ho : o.guard = none) : o.looksAt (ops.map (devirt n)) = o.looksAt ops := by
  unfold Oper.looksAt
  rw [ho]

/-- All blocks are made: the rest. -/
theorem v2_sound (hE : EnvOk P env) {L : Nat} {F : Foots} (hV : VOk P ops n L A F) (hF : F.length = ops.size) {Fin : Tab → List AB → Prop} {Q : Exit → Act → World → Prop} : ∀ (fuel : Nat) (listed : Array Bool) (T : Tab) (H : List AB) (m : List Nat) (a : Act) (w : World),
    AnyA P env (ops.map (devirt n)) n F Fin fuel listed T H → (∀ b ∈ A, listed.getD b.i false = true) → TR m n (maskF n A T) a.tmps → HR m H w →
    (∀ T' H' a' m' w', TR m' n (maskF n A T') a'.tmps → HR m' H' w' → Ext m w m' w' → a'.defers = a.defers → Fin T' H' → Q .normal a' w') → wpAny P .any ops Q fuel listed a w
  | 0, listed, T, H, m, a, w, h, _, hT, hH, hQ => by
    refine ⟨?_, hQ T H a m w hT hH (Ext.refl m w) rfl h.2⟩
    rw [List.eq_nil_iff_forall_not_mem]
    intro i hi
    have h1 := (ready_devirt (n := n)).2 hi
    rw [h.1] at h1
    cases h1
  | fuel + 1, listed, T, H, m, a, w, h, hls, hT, hH, hQ => by
    refine ⟨fun h0 => hQ T H a m w hT hH (Ext.refl m w) rfl (h.1 (ready_devirt_nil h0)), fun i hi => ?_⟩
    obtain ⟨T', H', ⟨o', f, v, e1, e2, hd, hl, ht⟩, hA⟩ := h.2 i (ready_devirt.2 hi)
    obtain ⟨hun, o, ho, haft⟩ := mem_ready.1 hi
    have hal : isAllocB o.op = false := by
      cases hal : isAllocB o.op with
      | false => rfl
      | true =>
        obtain ⟨⟨b, hb, rfl⟩, -⟩ := hV.all i o ho hal
        have h1 := hls b hb
        rw [getD_both' hun] at h1; cases h1
    rw [devirt_get, ho] at e1
    simp only [Option.map_some, Option.some.injEq] at e1
    rw [devirt_not n hal] at e1
    subst e1
    have hg := hV.grd i o ho
    obtain ⟨hdst, hlk, -⟩ := hV.oth i o f ho e2 hal
    have hag : Agree (ops.map (devirt n)) o T (maskF n A T) := fun t ht' => by
      rw [looksAt_devirt hV.grd hg] at ht'
      rw [maskF_lt (hlk t ht')]
    have hx := hl.same hg hag
    unfold wpOp
    simp only [ho]
    rw [if_pos (by simp [Region.wanted, hg])]
    refine .inl (aexec_ok (dcD_DC hE) hT hH hx fun v' H'' V m' w' hv hH' hEx hK => ?_)
    cases hK
    have hT1 : TR m' n (maskF n A T) a.tmps := by obtain ⟨x, hx, _⟩ := hEx.pre; rw [hx]; exact hT.mono x
    have hmt : Teq (maskF n A T') (putT o.dst v (maskF n A T)) := by
      haveI : DecidablePred fun i => ∃ a ∈ A, n + a.d = i := fun i => Classical.propDecidable _
      refine mask_put (M := maskF n A) (S := fun i => ∃ a ∈ A, n + a.d = i) (fun T i => by rw [get_maskF]; congr) ht fun e he => ?_
      rintro ⟨b, _, e3⟩
      have h5 : e < n := (hdst e he).1
      have h6 : n ≤ e := by rw [← e3]; exact Nat.le_add_right n b.d
      exact absurd h5 (Nat.not_lt.2 h6)
    exact v2_sound hE hV hF fuel _ T' H' m' _ w' hA (fun b hb => getD_set_true (hls b hb)) ((hT1.putT hd hv).teq hmt) hH' fun T3 H3 a3 m3 w3 q1 q2 q3 q4 q5 => hQ T3 H3 a3 m3 w3 q1 q2 (hEx.trans q3) (q4.trans (put_defers _ _ _)) q5
/-- A block that was made, and isn't numbered yet. -/
def Pend (m : List Nat) (tmps : Array Value) (w0 w : World) (a : Va) : Prop :=
  ∃ b Ls, tmps.getD a.d undef = .pointer (some ⟨b, 0, none⟩) ∧ w.heap[b]? = some (.cells ⟨Ls⟩ a.t (0, 0)) ∧ RL [] a.l Ls ∧ b ∉ m ∧ w0.heap.size ≤ b
def blkOf : Value → Nat
  | .pointer (some p) => p.block
  | _ => 0
theorem slotsOf_get (T : Tab) : ∀ (A : List Va) (k j : Nat) (a : Va), A[j]? = some a → (∀ (i j : Nat) (a b : Va), A[i]? = some a → A[j]? = some b → a.d = b.d → i = j) → get (slotsOf n k A ++ T) (n + a.d) = .ptr (k + j) 0
  | [], k, j, a, h, _ => by simp at h
  | c :: A, k, j, a, h, hd => by
    rcases j with _ | j
    · simp at h
      subst h
      simp [slotsOf, get]
    · have hne : n + c.d ≠ n + a.d := fun e => by
        have := hd 0 (j + 1) c a rfl h (by omega)
        omega
      rw [slotsOf, List.cons_append, get_cons_ne hne, slotsOf_get T A (k + 1) j a (by simpa using h) fun i i' b b' h1 h2 e => by
        have := hd (i + 1) (i' + 1) b b' (by simpa using h1) (by simpa using h2) e
        omega]
      congr 1
      omega
theorem slotsOf_other (T : Tab) {i : Nat} : ∀ (A : List Va) (k : Nat), (∀ a ∈ A, n + a.d ≠ i) → get (slotsOf n k A ++ T) i = get T i
  | [], k, _ => rfl
  | c :: A, k, h => by
    rw [slotsOf, List.cons_append, get_cons_ne (h c (List.mem_cons_self ..)), slotsOf_other T A (k + 1) fun a ha => h a (List.mem_cons_of_mem _ ha)]

/-- All blocks made get their numbers. -/
theorem number_all {L : Nat} {F : Foots} (hV : VOk P ops n L A F) {T : Tab} {H : List AB} {m : List Nat} {tmps : Array Value} {w0 w : World} (hL : H.length = L) (hT : TR m n (maskA n A T) tmps) (hH : HR m H w)
    (hS : ∀ j a, A[j]? = some a → get T a.d = .ptr (L + j) 0) (hP : ∀ a ∈ A, Pend m tmps w0 w a) (hD : ∀ a ∈ A, ∀ b ∈ A, a.d ≠ b.d → blkOf (tmps.getD a.d undef) ≠ blkOf (tmps.getD b.d undef)) :
    ∃ x, (∀ b ∈ x, w0.heap.size ≤ b) ∧ TR (m ++ x) n (maskF n A T) tmps ∧ HR (m ++ x) (H ++ A.map vaBlk) w := by
  have hg : ∀ (j b : Nat), (A.map fun a => blkOf (tmps.getD a.d undef))[j]? = some b → ∃ a, A[j]? = some a ∧ b = blkOf (tmps.getD a.d undef) := fun j b h => by
    rw [List.getElem?_map] at h
    obtain ⟨a, ha, rfl⟩ := Option.map_eq_some_iff.1 h
    exact ⟨a, ha, rfl⟩
  refine ⟨A.map fun a => blkOf (tmps.getD a.d undef), ?_, ?_, ?_⟩
  · intro b hb
    obtain ⟨a, ha, rfl⟩ := List.mem_map.1 hb
    obtain ⟨b, Ls, h1, h2, h3, h4, h5⟩ := hP a ha
    rw [h1]
    exact h5
  · refine ⟨hT.1, fun i => ?_⟩
    have hi := hT.2 i
    rw [get_maskA] at hi
    rw [get_maskF]
    by_cases hf : ∃ a ∈ A, n + a.d = i
    · rw [if_pos hf]; simp only [R]
    · rw [if_neg hf]
      by_cases hs : ∃ a ∈ A, a.d = i
      · obtain ⟨a, ha, rfl⟩ := hs
        obtain ⟨j, hj⟩ := List.getElem?_of_mem ha
        rw [hS j a hj]
        obtain ⟨b, Ls, h1, h2, h3, h4, -⟩ := hP a ha
        simp only [R]
        refine ⟨b, ?_, h1⟩
        rw [List.getElem?_append_right (by rw [hH.len, hL]; omega), hH.len, hL, Nat.add_sub_cancel_left, List.getElem?_map, hj, Option.map_some, h1]
        rfl
      · rw [if_neg hs, if_neg hf] at hi
        exact R_mono _ _ hi
  · refine hH.grow (by simp) (fun _ _ _ _ _ _ => rfl) ?_ ?_ ?_
    · intro j b B h1 h2 _ i C h3 _ _
      obtain ⟨a, ha, rfl⟩ := hg j b h1
      obtain ⟨b, Ls, e1, e2, e3, e4, -⟩ := hP a (List.mem_of_getElem? ha)
      rw [e1] at h3
      exact e4 (List.mem_of_getElem? h3)
    · intro i j b B C h1 h2 _ _ _ _
      obtain ⟨a, ha, e1⟩ := hg i b h1
      obtain ⟨a', ha', e2⟩ := hg j b h2
      by_cases e : a.d = a'.d
      · exact hV.dist i j a a' ha ha' e
      · exact absurd (e1.symm.trans e2) (hD a (List.mem_of_getElem? ha) a' (List.mem_of_getElem? ha') e)
    · intro j B hB _
      rw [List.getElem?_map] at hB
      obtain ⟨a, ha, rfl⟩ := Option.map_eq_some_iff.1 hB
      obtain ⟨b, Ls, e1, e2, e3, e4, -⟩ := hP a (List.mem_of_getElem? ha)
      obtain ⟨o, _, _, _, _, _, hn⟩ := hV.mem a (List.mem_of_getElem? ha)
      exact ⟨b, _, by rw [List.getElem?_map, ha, Option.map_some, e1]; rfl, e2, ⟨Ls, rfl, RL_noPtr _ hn e3⟩, trivial⟩

theorem move_exec {o : Oper} {x : Nat} {T : Tab} {H : List AB} (h : o.op = .move (.tmp x)) : aexecD P env o T H = some (get T x, H) := by
  unfold aexecD aexec
  simp only [h, isMem, cond_false, apure]
  rfl
theorem put_tmps_ne {a : Act} {d : Option Tmp} {V : Value} {e : Nat} (h : d ≠ some e) : (a.put d V).tmps.getD e undef = a.tmps.getD e undef := by
  cases d with
  | none => rfl
  | some d =>
    have hne : d ≠ e := fun h' => h (by rw [h'])
    show (a.tmps.setIfInBounds d V).getD e undef = _
    simp [Array.getD_eq_getD_getElem?, Array.getElem?_setIfInBounds_ne hne]
theorem put_tmps_eq {a : Act} {d : Nat} {V : Value} (h : d < a.tmps.size) : (a.put (some d) V).tmps.getD d undef = V := by
  show (a.tmps.setIfInBounds d V).getD d undef = _
  simp [Array.getD_eq_getD_getElem?, h]
/-- Some blocks aren't made yet. -/
theorem v1_sound (hE : EnvOk P env) {L : Nat} {F : Foots} (hV : VOk P ops n L A F) (hF : F.length = ops.size) {Fin : Tab → List AB → Prop} {Q : Exit → Act → World → Prop} {m : List Nat} {w0 : World} {d0 : Act} : ∀ (fuel : Nat) (listed : Array Bool) (T : Tab) (H : List AB) (a : Act) (w : World),
    AnyA P env (ops.map (devirt n)) n F Fin fuel listed T (H ++ A.map vaBlk) → (∃ b ∈ A, listed.getD b.i true = false) → H.length = L → TR m n (maskA n A T) a.tmps → HR m H w →
    (∀ j b, A[j]? = some b → get T (n + b.d) = .ptr (L + j) 0) → (∀ j b, A[j]? = some b → listed.getD b.i true = true → get T b.d = .ptr (L + j) 0) → (∀ b ∈ A, listed.getD b.i true = true → Pend m a.tmps w0 w b) →
    (∀ b ∈ A, ∀ c ∈ A, listed.getD b.i true = true → listed.getD c.i true = true → b.d ≠ c.d → blkOf (a.tmps.getD b.d undef) ≠ blkOf (a.tmps.getD c.d undef)) → listed.size = ops.size → (∀ b ∈ m, b < w.heap.size) → Ext m w0 m w → a.defers = d0.defers →
    (∀ T' H' a' m' w', TR m' n (maskF n A T') a'.tmps → HR m' H' w' → Ext m w0 m' w' → a'.defers = d0.defers → Fin T' H' → Q .normal a' w') → wpAny P .any ops Q fuel listed a w := by
  intro fuel
  have rdy : ∀ (listed : Array Bool), (∃ b ∈ A, listed.getD b.i true = false) → ∃ i, i ∈ Region.ready .any ops listed := by
    rintro listed ⟨b, hb, hbl⟩
    obtain ⟨o, ho, hop, -⟩ := hV.mem b hb
    obtain ⟨-, hna⟩ := hV.all b.i o ho (by rw [hop]; rfl)
    exact ⟨b.i, mem_ready.2 ⟨hbl, o, ho, fun e he => absurd he (hna e)⟩⟩
  induction fuel with
  | zero =>
    intro listed T H a w h hls
    obtain ⟨i, hi⟩ := rdy listed hls
    have h1 := (ready_devirt (n := n)).2 hi
    rw [h.1] at h1
    cases h1
  | succ fuel ih =>
    intro listed T H a w h hls hL hT hH hS hS2 hP hD hsz hm hx0 hdef hQ
    refine ⟨fun h0 => ?_, fun i hi => ?_⟩
    · obtain ⟨i, hi⟩ := rdy listed hls
      rw [h0] at hi; cases hi
    obtain ⟨T', H1, ⟨o', f, v, e1, e2, hd, hl, ht⟩, hA⟩ := h.2 i (ready_devirt.2 hi)
    obtain ⟨hun, o, ho, haft⟩ := mem_ready.1 hi
    have hg := hV.grd i o ho
    have hilt : i < ops.size := (Array.getElem?_eq_some_iff.1 ho).1
    rw [devirt_get, ho] at e1
    simp only [Option.map_some, Option.some.injEq] at e1
    have lset : ∀ k, k ≠ i → (listed.setIfInBounds i true).getD k true = listed.getD k true := fun k hk => getD_set_ne true (Ne.symm hk)
    have lseti : (listed.setIfInBounds i true).getD i true = true := by
      simp [hsz, hilt]
    cases hal : isAllocB o.op with
    | false =>
      rw [devirt_not n hal] at e1
      subst e1
      obtain ⟨hdst, hlk, hor⟩ := hV.oth i o f ho e2 hal
      obtain ⟨b0, hb0, hb0l⟩ := hls
      have hor : (∀ t ∈ o.looksAt ops, ∀ a ∈ A, a.d ≠ t) ∧ lowF L f = true := by
        rcases hor with hor | hor
        · obtain ⟨e, he, hb, hn⟩ := hor b0 hb0
          have := haft e he hb
          rw [hn, getD_both' hb0l] at this; cases this
        · exact hor
      have hag : Agree (ops.map (devirt n)) o T (maskA n A T) := fun t ht' => by
        rw [looksAt_devirt hV.grd hg] at ht'
        rw [get_maskA, if_neg (by rintro ⟨c, hc, e⟩; exact hor.1 t ht' c hc e), if_neg (by rintro ⟨c, hc, e⟩; exact absurd (hlk t ht') (Nat.not_lt.2 (by rw [← e]; exact Nat.le_add_right n c.d)))]
      obtain ⟨H2, hx, rfl, hlen⟩ := hl.less hg hag (by rw [hL]; exact hor.2)
      have hni : ∀ c ∈ A, c.i ≠ i := fun c hc e => by
        obtain ⟨o2, ho2, hop2, -⟩ := hV.mem c hc
        rw [e, ho] at ho2
        cases ho2
        rw [hop2] at hal; cases hal
      unfold wpOp
      simp only [ho]
      rw [if_pos (by simp [Region.wanted, hg])]
      refine .inl (aexec_ok (dcD_DC hE) hT hH hx fun v' H'' V m' w' hv hH' hEx hK => ?_)
      cases hK
      have hmm : m' = m := hEx.same_len hH hH' hlen
      subst hmm
      have hmt : Teq (maskA n A T') (putT o.dst v (maskA n A T)) := by
        haveI : DecidablePred fun i => (∃ a ∈ A, a.d = i) ∨ (∃ a ∈ A, n + a.d = i) := fun i => Classical.propDecidable _
        refine mask_put (M := maskA n A) (S := fun i => (∃ a ∈ A, a.d = i) ∨ (∃ a ∈ A, n + a.d = i)) (fun T i => ?_) ht fun e he => ?_
        · rw [get_maskA]
          by_cases q1 : ∃ a ∈ A, a.d = i
          · rw [if_pos q1, if_pos (.inl q1)]
          · rw [if_neg q1]
            by_cases q2 : ∃ a ∈ A, n + a.d = i
            · rw [if_pos q2, if_pos (.inr q2)]
            · rw [if_neg q2, if_neg (by rintro (q | q); exact q1 q; exact q2 q)]
        · rintro (⟨c, hc, e3⟩ | ⟨c, hc, e3⟩)
          · exact (hdst e he).2 c hc e3
          · have h5 : e < n := (hdst e he).1
            have h6 : n ≤ e := by rw [← e3]; exact Nat.le_add_right n c.d
            exact absurd h5 (Nat.not_lt.2 h6)
      have hdne : ∀ c ∈ A, o.dst ≠ some c.d := fun c hc e => (hdst _ e).2 c hc rfl
      refine ih _ T' H2 _ w' hA ⟨b0, hb0, by rw [lset _ (hni b0 hb0)]; exact hb0l⟩ (by rw [hlen, hL]) ((hT.putT hd hv).teq hmt) hH' ?_ ?_ ?_ ?_ (by simp [hsz]) (fun b hb => Nat.lt_of_lt_of_le (hm b hb) hEx.size) (hx0.trans hEx) ((put_defers _ _ _).trans hdef) hQ
      · intro j c hc
        rw [ht, get_putT, if_neg (fun e => absurd (hdst _ e).1 (Nat.not_lt.2 (Nat.le_add_right n c.d)))]
        exact hS j c hc
      · intro j c hc hcl
        rw [lset _ (hni c (List.mem_of_getElem? hc))] at hcl
        rw [ht, get_putT, if_neg (hdne c (List.mem_of_getElem? hc))]
        exact hS2 j c hc hcl
      · intro c hc hcl
        rw [lset _ (hni c hc)] at hcl
        obtain ⟨b, Ls, p1, p2, p3, p4, p5⟩ := hP c hc hcl
        refine ⟨b, Ls, by rw [put_tmps_ne (hdne c hc)]; exact p1, ?_, p3, p4, p5⟩
        rw [hEx.block b (Array.getElem?_eq_some_iff.1 p2).1 p4]; exact p2
      · intro b hb c hc hbl hcl hne
        rw [lset _ (hni b hb)] at hbl
        rw [lset _ (hni c hc)] at hcl
        rw [put_tmps_ne (hdne b hb), put_tmps_ne (hdne c hc)]
        exact hD b hb c hc hbl hcl hne
    | true =>
      obtain ⟨⟨b, hb, rfl⟩, -⟩ := hV.all i o ho hal
      obtain ⟨o2, ho2, hop, hod, hoc, hdn, hnp⟩ := hV.mem b hb
      rw [ho] at ho2
      cases ho2
      obtain ⟨j, hj⟩ := List.getElem?_of_mem hb
      have hdv : o' = { o with op := .move (.tmp (n + b.d)) } := by
        rw [← e1]
        unfold devirt
        rw [hop, hod]
      have hdst' : o'.dst = some b.d := by rw [hdv]; exact hod
      have hex : (v, H1) = (AV.ptr (L + j) 0, H ++ A.map vaBlk) := by
        rcases hl with ⟨_, _, hx⟩ | ⟨hw, _⟩
        · rw [move_exec (x := n + b.d) (by rw [hdv]), hS j b hj] at hx
          exact (Option.some.inj hx).symm
        · rw [hdv] at hw
          simp [wantedA, hg] at hw
      obtain ⟨rfl, rfl⟩ := Prod.mk.inj hex
      obtain ⟨z, hz, hc⟩ := Option.bind_eq_some_iff.1 hoc
      obtain ⟨Z, hZ, hRZ⟩ := run_zeroA hz ([] : List Nat)
      have hcl := R_cells hRZ hc
      have hrun : (execOp a.eval o).run P w = .ok (.value (.pointer (some ⟨w.heap.size, 0, none⟩))) { w with heap := w.heap.push (.cells Z.cells b.t) } := by
        simp [execOp, hop, Instr.alloc, hZ, newVar, newRow, newObj, Sem.run]
      unfold wpOp
      simp only [ho]
      rw [if_pos (by simp [Region.wanted, hg])]
      refine .inl ?_
      unfold Oper.wp
      rw [hrun]
      generalize hw' : ({ w with heap := w.heap.push (.cells Z.cells b.t) } : World) = w'
      have hsame : ∀ k, k < w.heap.size → w'.heap[k]? = w.heap[k]? := fun k hk => by
        rw [← hw']
        show (w.heap.push _)[k]? = _
        rw [Array.getElem?_push, if_neg (by omega)]
      have hnew : w'.heap[w.heap.size]? = some (.cells Z.cells b.t (0, 0)) := by
        rw [← hw']
        show (w.heap.push _)[w.heap.size]? = _
        rw [Array.getElem?_push, if_pos rfl]
      have hsize : w.heap.size ≤ w'.heap.size := by rw [← hw']; simp
      have hExt : Ext m w m w' := ⟨⟨[], by simp⟩, by rw [← hw'], by rw [← hw'], by rw [← hw'], hsize, fun k hk _ => hsame k hk⟩
      have hHw : HR m H w' := hH.same hsame
      have hT2 : TR m n (maskA n A T') (a.put o.dst (.pointer (some ⟨w.heap.size, 0, none⟩))).tmps := by
        rw [hod]
        refine ⟨by show (a.tmps.setIfInBounds _ _).size = n; simp [hT.1], fun k => ?_⟩
        by_cases hk : b.d = k
        · subst hk
          rw [get_maskA, if_pos ⟨b, hb, rfl⟩]; simp only [R]
        · rw [put_tmps_ne (fun e => hk (Option.some.inj e))]
          have := hT.2 k
          rw [get_maskA] at this ⊢
          rw [ht k, get_putT, hdst', if_neg (fun e => hk (Option.some.inj e))]
          exact this
      have hS' : ∀ j b, A[j]? = some b → get T' (n + b.d) = .ptr (L + j) 0 := fun j' c hc' => by
        rw [ht, get_putT, hdst', if_neg (fun e => by have := Option.some.inj e; omega)]
        exact hS j' c hc'
      have hSd : ∀ j' c, A[j']? = some c → (listed.setIfInBounds b.i true).getD c.i true = true → get T' c.d = .ptr (L + j') 0 := fun j' c hc' hl' => by
        rw [ht, get_putT, hdst']
        by_cases hcd : b.d = c.d
        · have : j = j' := hV.dist j j' b c hj hc' hcd
          subst this
          rw [if_pos (by rw [hcd])]
        · rw [if_neg (fun e => hcd (Option.some.inj e))]
          have hci : c.i ≠ b.i := fun e => by
            obtain ⟨o3, ho3, _, hod3, _⟩ := hV.mem c (List.mem_of_getElem? hc')
            rw [e, ho] at ho3
            cases ho3
            rw [hod] at hod3
            exact hcd (Option.some.inj hod3)
          rw [lset _ hci] at hl'
          exact hS2 j' c hc' hl'
      have hcne : ∀ c ∈ A, b.d ≠ c.d → c.i ≠ b.i := fun c hc' hcd e => by
        obtain ⟨o3, ho3, _, hod3, _⟩ := hV.mem c hc'
        rw [e, ho] at ho3
        cases ho3
        rw [hod] at hod3
        exact hcd (Option.some.inj hod3)
      have hbsz : b.d < a.tmps.size := by rw [hT.1]; exact hdn
      have hnewP : Pend m (a.put o.dst (.pointer (some ⟨w.heap.size, 0, none⟩))).tmps w0 w' b :=
        ⟨w.heap.size, Z.cells.toList, by rw [hod]; exact put_tmps_eq hbsz, hnew, hcl, fun h => Nat.lt_irrefl _ (hm _ h), hx0.size⟩
      have same_c : ∀ c ∈ A, b.d = c.d → c = b := fun c hc' hcd => by
        obtain ⟨j', hj'⟩ := List.getElem?_of_mem hc'
        have := hV.dist j j' b c hj hj' hcd
        subst this
        rw [hj] at hj'; exact (Option.some.inj hj').symm
      have hP' : ∀ c ∈ A, (listed.setIfInBounds b.i true).getD c.i true = true → Pend m (a.put o.dst (.pointer (some ⟨w.heap.size, 0, none⟩))).tmps w0 w' c := fun c hc' hl' => by
        by_cases hcd : b.d = c.d
        · rw [same_c c hc' hcd]; exact hnewP
        · rw [lset _ (hcne c hc' hcd)] at hl'
          obtain ⟨b', Ls, p1, p2, p3, p4, p5⟩ := hP c hc' hl'
          refine ⟨b', Ls, by rw [hod, put_tmps_ne (fun e => hcd (Option.some.inj e))]; exact p1, ?_, p3, p4, p5⟩
          rw [hsame b' (Array.getElem?_eq_some_iff.1 p2).1]; exact p2
      have blkn : ∀ c ∈ A, b.d ≠ c.d → (listed.setIfInBounds b.i true).getD c.i true = true → blkOf ((a.put o.dst (.pointer (some ⟨w.heap.size, 0, none⟩))).tmps.getD c.d undef) ≠ w.heap.size := fun c hc' hcd hl' => by
        rw [lset _ (hcne c hc' hcd)] at hl'
        obtain ⟨b', Ls, p1, p2, p3, p4, p5⟩ := hP c hc' hl'
        rw [hod, put_tmps_ne (fun e => hcd (Option.some.inj e)), p1]
        have := (Array.getElem?_eq_some_iff.1 p2).1
        show b' ≠ _
        omega
      have blkb : blkOf ((a.put o.dst (.pointer (some ⟨w.heap.size, 0, none⟩))).tmps.getD b.d undef) = w.heap.size := by
        rw [hod, put_tmps_eq hbsz]; rfl
      have hD' : ∀ c ∈ A, ∀ e ∈ A, (listed.setIfInBounds b.i true).getD c.i true = true → (listed.setIfInBounds b.i true).getD e.i true = true → c.d ≠ e.d → blkOf ((a.put o.dst (.pointer (some ⟨w.heap.size, 0, none⟩))).tmps.getD c.d undef) ≠ blkOf ((a.put o.dst (.pointer (some ⟨w.heap.size, 0, none⟩))).tmps.getD e.d undef) := fun c hc' e he' hlc hle hne => by
        by_cases hcd : b.d = c.d
        · have := same_c c hc' hcd
          subst this
          rw [blkb]
          exact Ne.symm (blkn e he' hne hle)
        · by_cases hed : b.d = e.d
          · have := same_c e he' hed
            subst this
            rw [blkb]
            exact blkn c hc' hcd hlc
          · rw [lset _ (hcne c hc' hcd)] at hlc
            rw [lset _ (hcne e he' hed)] at hle
            rw [hod, put_tmps_ne (fun e => hcd (Option.some.inj e)), put_tmps_ne (fun e => hed (Option.some.inj e))]
            exact hD c hc' e he' hlc hle hne
      by_cases hall : ∃ c ∈ A, (listed.setIfInBounds b.i true).getD c.i true = false
      · exact ih _ T' H _ w' hA hall hL hT2 hHw hS' hSd hP' hD' (by simp [hsz]) (fun x hx => Nat.lt_of_lt_of_le (hm x hx) hsize) (hx0.trans hExt) ((put_defers _ _ _).trans hdef) hQ
      · have hlall : ∀ c ∈ A, (listed.setIfInBounds b.i true).getD c.i true = true := fun c hc' => by
          cases hq : (listed.setIfInBounds b.i true).getD c.i true with
          | true => rfl
          | false => exact absurd ⟨c, hc', hq⟩ hall
        obtain ⟨x, hx1, hx2, hx3⟩ := number_all hV hL hT2 hHw (fun j' c hc' => hSd j' c hc' (hlall c (List.mem_of_getElem? hc'))) (fun c hc' => hP' c hc' (hlall c hc')) (fun c hc' e he' hne => hD' c hc' e he' (hlall c hc') (hlall e he') hne)
        have hx0' := hx0.trans hExt
        have hExtN : Ext m w0 (m ++ x) w' := ⟨⟨x, rfl, fun b hb => .inl (hx1 b hb)⟩, hx0'.os, hx0'.tape, hx0'.output, hx0'.size, hx0'.block⟩
        have hlall' : ∀ c ∈ A, (listed.setIfInBounds b.i true).getD c.i false = true := fun c hc' => by
          obtain ⟨o3, ho3, _⟩ := hV.mem c hc'
          have hlt : c.i < (listed.setIfInBounds b.i true).size := by simp [hsz]; exact (Array.getElem?_eq_some_iff.1 ho3).1
          have := hlall c hc'
          simp only [Array.getD_eq_getD_getElem?, Array.getElem?_eq_getElem hlt, Option.getD_some] at this ⊢
          exact this
        exact v2_sound hE hV hF fuel _ T' _ (m ++ x) _ w' hA hlall' hx2 hx3 fun T3 H3 a3 m3 w3 q1 q2 q3 q4 q5 => hQ T3 H3 a3 m3 w3 q1 q2 (hExtN.trans q3) (q4.trans ((put_defers _ _ _).trans hdef)) q5
/-- A region that draws its order and makes more than one block. -/
theorem aopsV_ok {ρ : Type} (hE : EnvOk P env) {K : Tab → List AB → Option ρ} {r : ρ} {T : Tab} {H : List AB} (hlen : Nat.ble 2 (vasOf P 0 ops.toList).length = true) (h : aopsV P env ops n (vasOf P 0 ops.toList) T H K = some r)
    {m : List Nat} {a : Act} {w : World} {Q : Exit → Act → World → Prop} {id : Nat} (hm : P.follows .mixedOrders = true) (hT : TR m n T a.tmps) (hH : HR m H w)
    (hQ : ∀ T' H' a' m' w', TR m' n T' a'.tmps → HR m' H' w' → Ext m w m' w' → a'.defers = a.defers → K T' H' = some r → Q .normal a' w') : (Code.region id ops true).wp P Q a w := by
  unfold aopsV at h
  cases hb : (distB (vasOf P 0 ops.toList) && (vasOf P 0 ops.toList).all (fun a => Nat.ble (a.d + 1) n && AV.noPtrL a.l) && H.all AB.live && lexOk (ops.map (devirt n)) ops.size 0 (Array.replicate ops.size false)) with
  | false => rw [hb] at h; cases h
  | true =>
    rw [hb] at h
    simp only [Bool.and_eq_true] at hb
    obtain ⟨⟨⟨hb1, hb2⟩, hb3⟩, hb4⟩ := hb
    simp only [cond_true] at h
    obtain ⟨F, e1, _, ⟨e2, e3⟩, e4⟩ := aopsO_lex (ops := ops.map (devirt n)) (ops.map (devirt n)).toList 0 _ _ [] (by simp) (by simp) rfl h
    have hF : F.length = ops.size := by rw [e1]; simp
    have hV := vok_of hb1 hb2 e2
    have hne : ∃ b ∈ vasOf P 0 ops.toList, True := by
      cases hA : vasOf P 0 ops.toList with
      | nil => rw [hA] at hlen; simp at hlen
      | cons b A => exact ⟨b, List.mem_cons_self .., trivial⟩
    generalize vasOf P 0 ops.toList = A at *
    have hA := anyA_lex (P := P) (env := env) (n := n) e1 (ops.map (devirt n)).toList 0 (Array.replicate ops.size false) _ _ (by simp) (by simpa using hb4) (by simpa using e3)
      (fun j _ => by rcases Nat.lt_or_ge j ops.size with h | h <;> simp [h]) (fun j hj => by omega) e4
    have hwD : HR m H { w with drawn := w.drawn + 1 } := hH.drewN 1
    have hxD : Ext m w m { w with drawn := w.drawn + 1 } := ⟨⟨[], by simp⟩, rfl, rfl, rfl, Nat.le_refl _, fun _ _ _ => rfl⟩
    have lst : ∀ c ∈ A, (Array.replicate ops.size false).getD c.i true = false := fun c hc => by
      obtain ⟨o, ho, _⟩ := hV.mem c hc
      have := (Array.getElem?_eq_some_iff.1 ho).1
      simp [this]
    have hml : ∀ b ∈ m, b < w.heap.size := fun b hb => by
      obtain ⟨i, hi⟩ := List.getElem?_of_mem hb
      have hlt : i < H.length := by rw [← hH.len]; exact (List.getElem?_eq_some_iff.1 hi).1
      have hl := List.all_eq_true.1 hb3 _ (List.getElem_mem hlt)
      exact hH.lt hi (List.getElem?_eq_getElem hlt) hl
    have hTm : TR m n (maskA n A (slotsOf n H.length A ++ T)) a.tmps := ⟨hT.1, fun i => by
      rw [get_maskA]
      by_cases q1 : ∃ c ∈ A, c.d = i
      · rw [if_pos q1]; simp only [R]
      · rw [if_neg q1]
        by_cases q2 : ∃ c ∈ A, n + c.d = i
        · rw [if_pos q2]; simp only [R]
        · rw [if_neg q2, slotsOf_other T A _ fun c hc e => q2 ⟨c, hc, e⟩]; exact hT.2 i⟩
    refine wp_region_any hm ?_
    have := v1_sound (Q := Q) (w0 := w) (d0 := a) hE hV hF (ops.map (devirt n)).toList.length (Array.replicate ops.size false) (slotsOf n H.length A ++ T) H a { w with drawn := w.drawn + 1 } hA (by obtain ⟨b, hb, _⟩ := hne; exact ⟨b, hb, lst b hb⟩) rfl hTm hwD
      (fun j b hj => slotsOf_get T A H.length j b hj hV.dist) (fun j b hj hl => by rw [lst b (List.mem_of_getElem? hj)] at hl; cases hl) (fun b hb hl => by rw [lst b hb] at hl; cases hl) (fun b hb c hc hl => by rw [lst b hb] at hl; cases hl) (by simp) hml hxD rfl
      fun T' H' a' m' w' q1 q2 q3 q4 ⟨Tl, t1, t2⟩ => hQ _ H' a' m' w' (q1.teq fun i => by rw [get_maskF, get_maskF, t1 i]) q2 q3 q4 t2
    simpa using this
#print axioms aopsV_ok
end
end Go.Proofs.Ytcagaaaibhifdaa.Ae

/- What the interpreter finds of a call is what the model's call comes to; contracts of functions over one flow, and of functions without memory. Conditions: the contracts that are looked up hold. -/
namespace Go.Proofs.Ytcagaaaibhifdaa.Ae
open Go

section
variable {ρ : Type}

theorem acode_both {P : Program} {env : Env} (hE : EnvOk P env) (fuel : Nat) : (∀ (n : Nat) (c : Code) (T : List (Nat × AV)) (H : List AB) (K : Ex → List (Nat × AV) → List AB → Option ρ) (r : ρ), acode P env fuel n c T H K = some r →
    ∀ (m : List Nat) (a : Act) (w : World) (Q : Exit → Act → World → Prop), TR m n T a.tmps → HR m H w → a.defers = [] →
    (∀ e T' H' a' m' w', TR m' n T' a'.tmps → HR m' H' w' → Ext m w m' w' → a'.defers = [] → K e T' H' = some r → Q (exOf e) a' w') → c.wp P Q a w) ∧
    (∀ (n : Nat) (c : Code) (T : List (Nat × AV)) (H : List AB) (K : Ex → List (Nat × AV) → List AB → Option ρ) (r : ρ), acode P env fuel n (.loop c) T H K = some r →
    ∀ (m : List Nat) (a : Act) (w : World) (Q : Exit → Act → World → Prop), TR m n T a.tmps → HR m H w → a.defers = [] →
    (∀ e T' H' a' m' w', TR m' n T' a'.tmps → HR m' H' w' → Ext m w m' w' → a'.defers = [] → K e T' H' = some r → Q (exOf e) a' w') → Code.rounds P c Q fuel a w) := by
  induction fuel with
  | zero => exact ⟨fun _ _ _ _ _ _ h => by simp [acode] at h, fun _ _ _ _ _ _ h => by simp [acode] at h⟩
  | succ fuel IH =>
    obtain ⟨ih, ihl⟩ := IH
    have B : ∀ (n : Nat) (c : Code) (T : List (Nat × AV)) (H : List AB) (K : Ex → List (Nat × AV) → List AB → Option ρ) (r : ρ), acode P env (fuel + 1) n (.loop c) T H K = some r →
        ∀ (m : List Nat) (a : Act) (w : World) (Q : Exit → Act → World → Prop), TR m n T a.tmps → HR m H w → a.defers = [] →
        (∀ e T' H' a' m' w', TR m' n T' a'.tmps → HR m' H' w' → Ext m w m' w' → a'.defers = [] → K e T' H' = some r → Q (exOf e) a' w') → Code.rounds P c Q (fuel + 1) a w := by
      intro n c T H K r h m a w Q hT hH hd hQ
      simp only [acode] at h
      rw [rounds_succ]
      refine ih n c T H _ r h m a w _ hT hH hd fun e T' H' a' m' w' q1 q2 q3 q4 q5 => ?_
      cases e with
      | normal => exact ihl n c T' H' K r q5 m' a' w' Q q1 q2 q4 fun e T'' H'' a'' m'' w'' p1 p2 p3 p4 p5 => hQ e T'' H'' a'' m'' w'' p1 p2 (q3.trans p3) p4 p5
      | exit id => exact hQ (.exit id) T' H' a' m' w' q1 q2 q3 q4 q5
      | ret => exact hQ .ret T' H' a' m' w' q1 q2 q3 q4 q5
    refine ⟨?_, B⟩
    intro n c T H K r h m a w Q hT hH hd hQ
    cases c with
    | skip => exact wp_skip (hQ .normal T H a m w hT hH (Ext.refl m w) hd h)
    | region id ops draw =>
      cases draw with
      | false =>
        simp only [acode] at h
        refine wp_region ?_
        rw [List.range_eq_range']
        have key : ∀ (dc : FuncId → List AV → List AB → (AV → List AB → Option ρ) → Option ρ), DC P dc → (bif specAll ops then fun dc => aopsS P dc ops n ops.toList T [] H (K .normal) else fun dc => aops P dc ops n ops.toList T H (K .normal)) dc = some r → wpOps P ops Q (List.range' 0 ops.size) a w := by
          intro dc hD h
          cases hsp : specAll ops with
          | true =>
            rw [hsp] at h
            have := aopsS_ok (P := P) (Q := Q) (ops := ops) (n := n) hD ops.toList 0 (by simp) m T [] H a w h hT (WR.nil _ _) hH (fun T' H' a' m' w' q1 q2 q3 q4 q5 => hQ .normal T' H' a' m' w' q1 q2 q3 (q4.trans hd) q5)
            simpa using this
          | false =>
            rw [hsp] at h
            have := aops_ok (P := P) (Q := Q) (ops := ops) (n := n) hD ops.toList 0 (by simp) m T H a w h hT hH (fun T' H' a' m' w' q1 q2 q3 q4 q5 => hQ .normal T' H' a' m' w' q1 q2 q3 (q4.trans hd) q5)
            simpa using this
        refine key _ ?_ h
        · intro fid args H K r h m Args w hA hH
          simp only at h
          split at h
          · rename_i C F hF
            cases hC : C args with
            | false => rw [hC] at h; cases h
            | true =>
            rw [hC] at h
            simp only [cond_true] at h
            split at h
            · rename_i v hv
              cases hb : v.noPtr with
              | false => rw [hb] at h; cases h
              | true =>
                rw [hb] at h
                obtain ⟨h1, h2⟩ := hE fid _ hF
                refine .inr ⟨h1 Args w, (h2 args v hC hv m Args w hA).mono fun e w' ⟨V, e1, e2, e3⟩ => ?_⟩
                exact ⟨v, V, m, H, e1, R_noPtr v hb e2, hH.same e3.blocks, e3.same, h⟩
            · cases h
          · rename_i C F hF
            cases hC : C args with
            | false => rw [hC] at h; cases h
            | true =>
            rw [hC] at h
            simp only [cond_true] at h
            split at h
            · rename_i v H' hv
              obtain ⟨h1, h2⟩ := hE fid _ hF
              refine .inr ⟨h1 Args w, (h2 args H v H' hC hv m Args w hA hH).mono fun e w' ⟨V, m', e1, e2, e3, e4⟩ => ?_⟩
              exact ⟨v, V, m', H', e1, e2, e3, e4, h⟩
            · cases h
          · rename_i C F hF
            cases hC : C args with
            | false => rw [hC] at h; cases h
            | true =>
            rw [hC] at h
            simp only [cond_true] at h
            split at h
            · rename_i v hv
              obtain ⟨V, h2, h3⟩ := hE fid _ hF args v hC hv m Args hA
              exact .inl ⟨v, V, h, h2, h3 w⟩
            · cases h
          · rename_i F hF
            split at h
            · rename_i v hv
              cases hb : v.noPtr with
              | false => rw [hb] at h; cases h
              | true =>
                rw [hb] at h
                obtain ⟨h1, h2⟩ := hE fid _ hF
                refine .inr ⟨h1 Args w, (h2 args v rfl hv m Args w hA).mono fun e w' ⟨V, e1, e2, e3⟩ => ?_⟩
                exact ⟨v, V, m, H, e1, R_noPtr v hb e2, hH.same e3.blocks, e3.same, h⟩
            · cases h
          · rename_i T F hF
            split at h
            · rename_i v H' hv
              obtain ⟨h1, h2⟩ := hE fid _ hF
              refine .inr ⟨h1 Args w, (h2 args H v H' rfl hv m Args w hA hH).mono fun e w' ⟨V, m', e1, e2, e3, e4⟩ => ?_⟩
              exact ⟨v, V, m', H', e1, e2, e3, e4, h⟩
            · cases h
          · rename_i T F hF
            split at h
            · rename_i v H' hv
              obtain ⟨h1, h2⟩ := hE fid _ hF
              refine .inr ⟨h1 Args w, (h2 args H v H' rfl hv m Args w hA hH).mono fun e w' ⟨V, m', e1, e2, e3, e4⟩ => ?_⟩
              exact ⟨v, V, m', H', e1, e2, e3, e4, h⟩
            · cases h
          · rename_i hF
            split at h
            · rename_i fn hfn
              split at h
              · rename_i c' hc'
                cases hb : Nat.ble args.length fn.ntmps with
                | false => rw [hb] at h; cases h
                | true =>
                  rw [hb] at h
                  simp only [cond_true] at h
                  exact .inr ⟨hE fid _ hF Args w, acall_of_code ih hfn hc' (Nat.le_of_ble_eq_true hb) h hA hH⟩
              · cases h
            · cases h
          · cases h
      | true =>
        simp only [acode] at h
        cases hm : P.follows .mixedOrders with
        | false => rw [hm] at h; cases h
        | true =>
        rw [hm] at h
        simp only [cond_true] at h
        cases hb : (quietB env ops && Region.lexB .any ops) with
        | true =>
          rw [hb] at h
          simp only [Bool.and_eq_true] at hb
          simp only [cond_true] at h
          refine wp_region_quiet (C := fun w' => Ext [] w [] w') hm hb.2 ⟨⟨[], by simp⟩, rfl, rfl, rfl, Nat.le_refl _, fun _ _ _ => rfl⟩ ?_
          refine aopsQ_ok hE hH _ T a h hT fun T' a' q1 q2 q3 w' hw' => ?_
          exact hQ .normal T' H a' m w' q1 (hH.same hw'.blocks) hw'.same (q2.trans hd) q3
        | false =>
          rw [hb] at h
          simp only [cond_false] at h
          cases hv2 : Nat.ble 2 (vasOf P 0 ops.toList).length with
          | true =>
            rw [hv2] at h
            simp only [cond_true] at h
            exact aopsV_ok hE hv2 h hm hT hH fun T' H' a' m' w' q1 q2 q3 q4 q5 => hQ .normal T' H' a' m' w' q1 q2 q3 (q4.trans hd) q5
          | false =>
          rw [hv2] at h
          simp only [cond_false] at h
          cases hl : (Region.noSelect ops && lexOk ops ops.size 0 (Array.replicate ops.size false)) with
          | false => rw [hl] at h; cases h
          | true =>
            rw [hl] at h
            simp only [Bool.and_eq_true] at hl
            simp only [cond_true] at h
            exact aopsO_ok hE hl.2 h hm hT hH fun T' H' a' m' w' q1 q2 q3 q4 q5 => hQ .normal T' H' a' m' w' q1 q2 q3 (q4.trans hd) q5
    | seq x y =>
      simp only [acode] at h
      refine wp_seq (ih n x T H _ r h m a w _ hT hH hd fun e T' H' a' m' w' q1 q2 q3 q4 q5 => ?_)
      cases e with
      | normal => exact ih n y T' H' K r q5 m' a' w' Q q1 q2 q4 fun e T'' H'' a'' m'' w'' p1 p2 p3 p4 p5 => hQ e T'' H'' a'' m'' w'' p1 p2 (q3.trans p3) p4 p5
      | exit id => exact hQ (.exit id) T' H' a' m' w' q1 q2 q3 q4 q5
      | ret => exact hQ .ret T' H' a' m' w' q1 q2 q3 q4 q5
    | cond c x y =>
      simp only [acode] at h
      have hc := R_ev hT c
      split at h
      · rename_i b hb
        rw [hb] at hc
        simp only [R] at hc
        refine wp_cond (t := b) hc ?_
        split at h
        · rename_i T' H' hcv
          unfold aconv at hcv
          cases hs : (simple env x && simple env y) with
          | false => rw [hs] at hcv; cases hcv
          | true =>
            rw [hs] at hcv
            simp only [Bool.and_eq_true] at hs
            simp only [cond_true] at hcv
            split at hcv
            · rename_i Ta Ha Wa Tb Hb Wb hTa hTb
              split at hcv
              · rename_i H'' hmH
                cases hcv
                cases b with
                | true =>
                  exact asimple_ok hE x hs.1 T Ta H Ha [] Wa a w Q hTa hT hH fun a' w' q1 q2 q3 q4 q5 q6 q7 q8 => hQ .normal _ H' a' m w' (TR_merge (x := true) (fun _ => ⟨q1, q4⟩) (fun e => by cases e)) (HR_merge hmH (fun _ => ⟨q2, q5, q6⟩) (fun e => by cases e)) q3 (q8.trans hd) h
                | false =>
                  exact asimple_ok hE y hs.2 T Tb H Hb [] Wb a w Q hTb hT hH fun a' w' q1 q2 q3 q4 q5 q6 q7 q8 => hQ .normal _ H' a' m w' (TR_merge (x := false) (fun e => by cases e) (fun _ => ⟨q1, q4⟩)) (HR_merge hmH (fun e => by cases e) (fun _ => ⟨q2, q5, q6⟩)) q3 (q8.trans hd) h
              · cases hcv
            · cases hcv
        · split at h
          · rename_i d
            have hT' : TR m n ((d, .bool b) :: T) a.tmps := hT.know (by simp only [R]; exact hc)
            cases b with
            | true => exact ih n x _ H K r h m a w Q hT' hH hd hQ
            | false => exact ih n y _ H K r h m a w Q hT' hH hd hQ
          · cases b with
            | true => exact ih n x _ H K r h m a w Q hT hH hd hQ
            | false => exact ih n y _ H K r h m a w Q hT hH hd hQ
      · cases h
    | block id c =>
      simp only [acode] at h
      refine wp_block (ih n c T H _ r h m a w _ hT hH hd fun e T' H' a' m' w' q1 q2 q3 q4 q5 => ?_)
      cases e with
      | normal => exact hQ .normal T' H' a' m' w' q1 q2 q3 q4 q5
      | exit id' =>
        simp only [exOf, Exit.inBlock]
        simp only at q5
        cases hb : Nat.beq id' id with
        | true => rw [hb] at q5; rw [if_pos (Nat.eq_of_beq_eq_true hb)]; exact hQ .normal T' H' a' m' w' q1 q2 q3 q4 q5
        | false =>
          rw [hb] at q5
          rw [if_neg (fun e => by subst e; simp at hb)]
          exact hQ (.exit id') T' H' a' m' w' q1 q2 q3 q4 q5
      | ret => exact hQ .ret T' H' a' m' w' q1 q2 q3 q4 q5
    | loop c => exact wp_loop_rounds (fuel + 1) (B n c T H K r h m a w Q hT hH hd hQ)
    | exit id => exact wp_exit (hQ (.exit id) T H a m w hT hH (Ext.refl m w) hd h)
    | ret => exact wp_ret (hQ .ret T H a m w hT hH (Ext.refl m w) hd h)
    | _ => simp only [acode] at h; cases h

theorem acall_ok {P : Program} {env : Env} (hE : EnvOk P env) {fuel : Nat} {fid : FuncId} {args : List AV} {H : List AB} {K : AV → List AB → Option ρ} {r : ρ} (h : acall P env fuel fid args H K = some r)
    {m : List Nat} {Args : Array Value} {w : World} (hA : RL m args Args.toList) (hH : HR m H w) :
    Calls P fid Args w fun e w' => ∃ v V m' H', e = .returned V ∧ R m' v V ∧ HR m' H' w' ∧ Ext m w m' w' ∧ K v H' = some r := by
  unfold acall at h
  split at h
  · rename_i fn hfn
    split at h
    · rename_i c' hc'
      cases hb : Nat.ble args.length fn.ntmps with
      | false => rw [hb] at h; cases h
      | true =>
        rw [hb] at h
        simp only [cond_true] at h
        exact acall_of_code (acode_both hE fuel).1 hfn hc' (Nat.le_of_ble_eq_true hb) h hA hH
    · cases h
  · cases h

end

/-! ### Entering -/
theorem enter_of {P : Program} {f : FuncId} {fn : Func} (hf : P.funcs[f]? = some fn) (hn : (fn.name == "runtime.NumGoroutine") = false) (hb : fn.body.isNone = false) : EnterOk P f := fun Args w => by
  simp only [callFunc, Sem.run_bind, run_program, Result.andThen_ok, hf, hn, hb, Bool.false_eq_true, if_false, Sem.run_pure]

/-! ### Contracts of functions without memory -/
theorem pure_of {P : Program} {env : Env} (hE : EnvOk P env) (fuel : Nat) (f : FuncId) (C : List AV → Bool) (F : List AV → Option AV)
    (h : ∀ args v, C args = true → F args = some v → AV.noPtrL args = true ∧ v.noPtr = true ∧ acall P env fuel f args [] (fun v _ => bif v.noPtr then some v else none) = some v) : PureOk P f C F := by
  intro args v hC hv m Args w hA
  obtain ⟨hn, hnv, hc⟩ := h args v hC hv
  have hH : HR [] [] w := ⟨rfl, by simp, fun i B hB _ => by simp at hB⟩
  refine (acall_ok hE hc (m := []) (RL_noPtr args hn hA) hH).mono fun e w' ⟨v', V, m', H', e1, e2, e3, e4, e5⟩ => ?_
  cases hb : v'.noPtr with
  | false => rw [hb] at e5; cases e5
  | true =>
    rw [hb] at e5
    simp only [cond_true, Option.some.injEq] at e5
    subst e5
    exact ⟨V, e1, R_noPtr v' hb e2, ⟨⟨[], by simp⟩, e4.os, e4.tape, e4.output, e4.size, e4.block⟩⟩

/-- .. where more is known of the arguments. -/
theorem pure_of' {P : Program} {env : Env} (hE : EnvOk P env) (fuel : Nat) (f : FuncId) (C : List AV → Bool) (F : List AV → Option AV)
    (h : ∀ args v, C args = true → F args = some v → v.noPtr = true ∧ ∃ args', AV.noPtrL args' = true ∧ (∀ m Vs, RL m args Vs → RL m args' Vs) ∧ acall P env fuel f args' [] (fun v _ => bif v.noPtr then some v else none) = some v) : PureOk P f C F := by
  intro args v hC hv m Args w hA
  obtain ⟨hnv, args', hn, hR, hc⟩ := h args v hC hv
  have hH : HR [] [] w := ⟨rfl, by simp, fun i B hB _ => by simp at hB⟩
  refine (acall_ok hE hc (m := []) (RL_noPtr args' hn (hR m _ hA)) hH).mono fun e w' ⟨v', V, m', H', e1, e2, e3, e4, e5⟩ => ?_
  cases hb : v'.noPtr with
  | false => rw [hb] at e5; cases e5
  | true =>
    rw [hb] at e5
    simp only [cond_true, Option.some.injEq] at e5
    subst e5
    exact ⟨V, e1, R_noPtr v' hb e2, ⟨⟨[], by simp⟩, e4.os, e4.tape, e4.output, e4.size, e4.block⟩⟩

/-! ### Contracts of functions over one flow -/
def flowK (T : TypeId) (v : AV) (H : List AB) : Option (AV × Bool) :=
  match H with
  | .cells [.bool b] t :: _ => bif Nat.beq t T && v.noPtr then some (v, b) else none
  | _ => none

theorem flow_of {P : Program} {env : Env} (hE : EnvOk P env) (fuel : Nat) (f : FuncId) (T : TypeId) (C : List AV → Bool) (F : List AV → Option (Bool → AV × Bool))
    (h : ∀ args g, C args = true → F args = some g → ∀ b, acall P env fuel f (.ptr 0 0 :: args) [.cells [.bool b] T] (flowK T) = some (g b)) : EffOk P f (fun l => C l.tail) (flowSpec T F) := by
  intro args H v H' hC hv m Args w hA hH
  unfold flowSpec at hv
  split at hv
  · rename_i j rest
    split at hv
    · rename_i b t hj
      cases hb : (Nat.beq t T && AV.noPtrL rest) with
      | false => rw [hb] at hv; cases hv
      | true =>
        rw [hb] at hv
        simp only [Bool.and_eq_true] at hb
        obtain ⟨ht, hn⟩ := hb
        obtain rfl := Nat.eq_of_beq_eq_true ht
        simp only [cond_true] at hv
        split at hv
        · rename_i g hg
          simp only [Option.some.injEq, Prod.mk.injEq] at hv
          obtain ⟨rfl, rfl⟩ := hv
          obtain ⟨c, o, hc, hw, hB⟩ := hH.at_ j hj
          have hH1 : HR [c] [.cells [.bool b] t] w := by
            refine ⟨rfl, ?_, fun i B hB' _ => ?_⟩
            · intro i j' b' B C h1 h2 _ _ _ _
              cases i with
              | zero =>
                cases j' with
                | zero => rfl
                | succ j' => simp at h2
              | succ i => simp at h1
            · cases i with
              | zero =>
                simp at hB'
                subst hB'
                obtain ⟨Vs, h1, h2⟩ := hB
                exact ⟨c, o, by simp, hw, ⟨Vs, h1, RL_noPtr _ (by simp [AV.noPtrL, AV.noPtr]) h2⟩, trivial⟩
              | succ i => simp at hB'
          obtain ⟨V0, Vs, e0, hp, hr⟩ := RL_cons.1 hA
          have hA1 : RL [c] (.ptr 0 0 :: rest) Args.toList := by
            rw [e0]
            refine RL.cons ?_ (RL_noPtr rest hn hr)
            simp only [R] at hp ⊢
            obtain ⟨c', hc', e⟩ := hp
            rw [hc] at hc'; cases hc'
            exact ⟨c, by simp, e⟩
          refine (acall_ok hE (h rest g hC hg b) hA1 hH1).mono fun e w' ⟨v', V, m', H', e1, e2, e3, e4, e5⟩ => ?_
          unfold flowK at e5
          split at e5
          · rename_i b' t' Hr
            cases hb' : (Nat.beq t' t && v'.noPtr) with
            | false => rw [hb'] at e5; cases e5
            | true =>
              rw [hb'] at e5
              simp only [Bool.and_eq_true] at hb'
              obtain ⟨ht', hnv⟩ := hb'
              obtain rfl := Nat.eq_of_beq_eq_true ht'
              simp only [cond_true, Option.some.injEq] at e5
              rw [← e5]
              obtain ⟨x, hx, hxs⟩ := e4.pre
              obtain ⟨c2, o2, hc2, hw2, hB2⟩ := e3.at_ 0 (B := .cells [.bool b'] t') rfl
              rw [hx] at hc2
              simp at hc2
              subst hc2
              have live : ∀ {i : Nat} {B : AB}, (H.set j (.cells [.bool b'] t'))[i]? = some B → B.live = true → ∃ B', H[i]? = some B' ∧ B'.live = true := fun {i B} hB' hl => by
                by_cases hij : j = i
                · subst hij; exact ⟨_, hj, rfl⟩
                · rw [List.getElem?_set_ne hij] at hB'; exact ⟨B, hB', hl⟩
              refine ⟨V, m, e1, R_noPtr v' hnv e2, ⟨by simp [hH.len], ?_, ?_⟩, ⟨⟨[], by simp⟩, e4.os, e4.tape, e4.output, e4.size, ?_⟩⟩
              · intro i i' b3 B C h1 h2 h3 h4 h5 h6
                obtain ⟨B', b1, b2⟩ := live h3 h5
                obtain ⟨C', d1, d2⟩ := live h4 h6
                exact hH.nodup i i' b3 B' C' h1 h2 b1 d1 b2 d2
              · intro i B hB' hl
                by_cases hij : j = i
                · subst hij
                  have hlt : j < H.length := (List.getElem?_eq_some_iff.1 hj).1
                  simp [hlt] at hB'
                  subst hB'
                  obtain ⟨Vs', h1, h2⟩ := hB2
                  exact ⟨c, o2, hc, hw2, ⟨Vs', h1, RL_noPtr _ (by simp [AV.noPtrL, AV.noPtr]) h2⟩, trivial⟩
                · rw [List.getElem?_set_ne hij] at hB'
                  obtain ⟨c3, o3, h1, h2, h3, h4⟩ := hH.all i B hB' hl
                  refine ⟨c3, o3, h1, ?_, h3, h4⟩
                  have hlt3 := (Array.getElem?_eq_some_iff.1 h2).1
                  rw [e4.block c3 hlt3 (by simp; intro e; subst e; exact hij (hH.nodup _ _ _ _ _ hc h1 hj hB' rfl hl))]
                  exact h2
              · intro k hk hkm
                exact e4.block k hk (by simp; intro e; subst e; exact hkm (List.mem_of_getElem? hc))
          · cases e5
        · cases hv
    · cases hv
  · cases hv

#print axioms flow_of
#print axioms pure_of
end Go.Proofs.Ytcagaaaibhifdaa.Ae

/- From a walk of the interpreter to a row. Conditions: none. -/
namespace Go.Proofs.Ytcagaaaibhifdaa.Row
open Go Go.Proofs.Ytcagaaaibhifdaa.Ae Go.RowKit Go.ChangeShapes Go.WideShapes

theorem post_none {H : Type} {enc : TypeId × Value → H} {P : Program} {f : Func} {s : ChangeSpec} {apart fresh handsOn again : Bool} {W W' : World} {args : Array Value} {v : Value} {ds gs : List (DataW H)}
    (hW : DataW.Whole enc P f.params.toList s.vars apart W args.toList ds gs [])
    (hres : ∀ (b : Nat) (sp : Nat → Bool) (hd : Bool), DataW.TrodAll enc P W' b sp hd f.resultTypes.toList (v.resultList f.resultTypes.size) (s.fn H (ds ++ gs)).results [])
    (hargs : ∀ sp : Nat → Bool, (∀ p ∈ ([] : List MemPlace), sp p.block = true) → DataW.TrodAll enc P W' 0 sp true f.params.toList args.toList (s.fn H (ds ++ gs)).args [])
    (hvars : ∀ sp : Nat → Bool, (∀ p ∈ ([] : List MemPlace), sp p.block = true) → DataW.TrodVars enc P W' sp s.vars (s.fn H (ds ++ gs)).vars [])
    (hk : W.keptBut W' (· ∈ ([] : List MemPlace)))
    (hok : ∀ (j : Nat) (t : TypeId) (r : Value), f.resultTypes[j]? = some t → (v.resultList f.resultTypes.size)[j]? = some r → Value.okWide P W' .any 0 t r) :
    s.post enc P f apart fresh handsOn again W args v W' := by
  refine ⟨ds, gs, [], [], [], [], hW, hres _ _ _, hargs _ (fun p hp => by cases hp), hvars _ (fun p hp => by cases hp), World.keptBut_mono (fun p hp => by cases hp) hk, fun _ => ?_⟩
  refine ⟨hok, _, _, [], ⟨[], [], trodAll_append (hargs _ (fun p hp => by cases hp)) (hres _ _ _), hvars _ (fun p hp => by cases hp), rfl, ?_, ?_⟩, ?_⟩
  · intro b off hp; cases hp
  · intro _; exact List.nodup_nil
  · intro p hp _; cases hp

/-- The law's answer. -/
def ansK (v : AV) (_ : List AB) : Option Bool :=
  match v with
  | .bool b => some b
  | _ => none
/-- A law that the interpreter finds true. -/
theorem law_true {P : Program} {env : Env} (hE : EnvOk P env) {fuel : Nat} {fid : FuncId} {args : List AV} {Args : Array Value} {w : World} (h : acall P env fuel fid args [] ansK = some true) (hA : RL [] args Args.toList) :
    Calls P fid Args w fun e w' => e = .returned (.bool true) ∧ Below w.heap.size w w' := by
  have hH : HR [] [] w := ⟨rfl, by simp, fun i B hB _ => by simp at hB⟩
  refine (acall_ok hE h hA hH).mono fun e w' ⟨v, V, m', H', e1, e2, e3, e4, e5⟩ => ?_
  unfold ansK at e5
  split at e5
  · cases e5
    simp only [R] at e2
    subst e2
    exact ⟨e1, e4.os, e4.tape, e4.output, e4.size, fun k hk => e4.block k hk (by simp)⟩
  · cases e5
end Go.Proofs.Ytcagaaaibhifdaa.Row
