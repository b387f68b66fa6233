/- Regions that draw their order, with calls that write: whatever order is drawn, it comes to what the text's order comes to, where what touches the same memory or the same slot stands in one order. Conditions: the contracts that are looked up hold. -/
import Derived.Test.YtlkclpkpggapbaaAe6
namespace Go.Proofs.Ytlkclpkpggapbaa.Ae
open Go

section nat
variable {ρ : Type} {P : Program}

theorem abinI_nat (op : BinOp) (k : IntKind) (x y : Int) (K : AV → Option ρ) : abinI op k x y K = (abinI op k x y some).bind K := by
  cases op <;> simp only [abinI] <;> (try rfl)
  · cases (y == 0) <;> rfl
  · cases (y == 0) <;> rfl
theorem ashift_nat (l : Bool) (k : IntKind) (x y : Int) (K : AV → Option ρ) : ashift l k x y K = (ashift l k x y some).bind K := by
  unfold ashift
  cases decide (y < 0) <;> cases l <;> rfl
theorem abin_nat (op : BinOp) (t : TypeId) (x y : AV) (K : AV → Option ρ) : abin P op t x y K = (abin P op t x y some).bind K := by
  unfold abin
  split
  · split
    · exact ashift_nat ..
    · exact ashift_nat ..
    · split
      · exact abinI_nat ..
      · rfl
  · rename_i k a lo hi ex k' b
    split
    · split
      · cases (ex.any fun c => c == b) <;> rfl
      · cases (ex.any fun c => c == b) <;> rfl
      · cases (lo.any fun l => decide (b ≤ l)) <;> cases (hi.any fun l => decide (l < b)) <;> rfl
      · cases (lo.any fun l => decide (b < l)) <;> cases (hi.any fun l => decide (l ≤ b)) <;> rfl
      · rfl
    · rfl
  · rename_i k b k' a lo hi ex
    split
    · split
      · cases (ex.any fun c => c == b) <;> rfl
      · cases (ex.any fun c => c == b) <;> rfl
      · rfl
    · rfl
  · split
    · rfl
    · rfl
    · rename_i a b _; cases decide (a.size + b.size ≤ 4611686018427387904) <;> rfl
    · rfl
  · split
    · cases (plainEq _ && eqFree P t _)
      · rfl
      · simp only [cond_true]; split <;> rfl
    · cases (plainEq _ && eqFree P t _)
      · rfl
      · simp only [cond_true]; split <;> rfl
    · rfl
theorem abuiltin_nat (b : Builtin) (ts : Array TypeId) (args : List AV) (K : AV → Option ρ) : abuiltin P b ts args K = (abuiltin P b ts args some).bind K := by
  unfold abuiltin
  split
  · split
    · split <;> rfl
    · rfl
  · rfl
  · rfl
  · rfl

/-- The kinds that hang on their operands alone. -/
def pureKind : Op → Bool
  | .move _ | .assign _ | .pick .. | .nilCheck _ | .binOp .. | .unOp .. | .fieldAddr .. | .field .. | .extract .. | .convert .. | .index .. | .indexAddr .. | .build .. => true
  | _ => false
/-- .. and change no row of bytes. -/
def pureOp (P : Program) (op : Op) : Bool :=
  pureKind op && match op with
    | .convert s d _ => !(isRowConv P s d)
    | _ => true
/-- The kinds that are kept in one order with all that touches memory. -/
def heavyOp (P : Program) : Op → Bool
  | .convert s d _ => isRowConv P s d
  | .makeSlice .. | .buildSlice .. | .box .. => true
  | .call c => match c.callee with
    | .builtin .append => true
    | _ => false
  | _ => false

theorem apure_nat {e : Operand → AV} {op : Op} (hk : pureKind op = true) (K : AV → Option ρ) : apure P e op K = (apure P e op some).bind K := by
  cases op <;> simp only [pureKind, Bool.false_eq_true] at hk <;> simp only [apure]
  case move => rfl
  case assign => rfl
  case pick c a b =>
    split
    · rename_i c' _
      split
      · rfl
      · cases c' <;> rfl
    · rfl
  case build t parts =>
    split
    · split
      · split
        · cases (Array.all _ _) <;> rfl
        · rfl
      · rfl
    · split
      · split <;> rfl
      · rfl
    · rfl
  case nilCheck x => split <;> rfl
  case binOp => exact abin_nat ..
  case unOp => split <;> rfl
  case convert => split <;> rfl
  case fieldAddr =>
    split
    · split
      · split
        · cases (Nat.beq _ _) <;> rfl
        · rfl
      · rfl
    · rfl
  case field =>
    split
    · split
      · split <;> rfl
      · rfl
    · rfl
  case indexAddr =>
    split
    · split
      · split
        · cases (_ && _) <;> rfl
        · rfl
      · split
        · cases (_ && _) <;> rfl
        · rfl
      · split
        · cases (_ && _) <;> rfl
        · rfl
      · rfl
    · rfl
  case index =>
    split
    · split
      · split
        · cases (_ && _)
          · rfl
          · simp only [cond_true]; split <;> rfl
        · rfl
      · cases (_ && _) <;> rfl
      · cases (_ && _) <;> rfl
      · cases (_ && _) <;> rfl
      · rfl
    · rfl
  case extract =>
    split
    · split <;> rfl
    · rfl

theorem apure_congr {e e' : Operand → AV} {op : Op} (hk : pureKind op = true) (h : ∀ x ∈ op.operands, e x = e' x) (K : AV → Option ρ) : apure P e op K = apure P e' op K := by
  cases op <;> simp only [pureKind, Bool.false_eq_true] at hk <;> simp only [Op.operands] at h <;> simp only [apure]
  case move x => rw [h x (by simp)]
  case assign x => rw [h x (by simp)]
  case pick c a b => rw [h c (by simp), h a (by simp), h b (by simp)]
  case build t parts =>
    have : parts.toList.map (fun (i, x) => (i, e x)) = parts.toList.map (fun (i, x) => (i, e' x)) :=
      List.map_congr_left fun p hp => by
        obtain ⟨i, x⟩ := p
        simp only [h x (by simp only [List.mem_toArray, List.mem_map]; exact ⟨(i, x), hp, rfl⟩)]
    rw [this]
  case nilCheck x => rw [h x (by simp)]
  case binOp op t x y yt => rw [h x (by simp), h y (by simp)]
  case unOp op t x => rw [h x (by simp)]
  case convert s d x => rw [h x (by simp)]
  case fieldAddr s x f => rw [h x (by simp)]
  case field s x f => rw [h x (by simp)]
  case indexAddr t x i => rw [h x (by simp), h i (by simp)]
  case index t x i => rw [h x (by simp), h i (by simp)]
  case extract x i => rw [h x (by simp)]
end nat

abbrev Tab := List (Nat × AV)
def Teq (T T' : Tab) : Prop := ∀ i, get T i = get T' i
def putT (d : Option Tmp) (v : AV) (T : Tab) : Tab :=
  match d with
  | none => T
  | some d => (d, v) :: T
theorem Teq.refl (T : Tab) : Teq T T := fun _ => rfl
theorem get_putT {d : Option Tmp} {v : AV} {T : Tab} (t : Nat) : get (putT d v T) t = if d = some t then v else get T t := by
  cases d with
  | none => simp [putT]
  | some d =>
    by_cases e : d = t
    · subst e; simp [putT, get]
    · rw [putT, get_cons_ne e, if_neg (by simpa using e)]

section
variable {P : Program} {env : Env} {ops : Array Oper} {n : Nat}

def aexecD (P : Program) (env : Env) (o : Oper) (T : Tab) (H : List AB) : Option (AV × List AB) := aexec P (dcD env) o T H fun v H => some (v, H)

theorem dcD_nat {ρ : Type} (f : FuncId) (args : List AV) (H : List AB) (K : AV → List AB → Option ρ) : dcD env f args H K = (dcD env f args H fun v H => some (v, H)).bind fun p => K p.1 p.2 := by
  unfold dcD
  split
  · rename_i C F _
    cases C args with
    | false => rfl
    | true =>
      simp only [cond_true]
      split
      · rename_i v _; cases v.noPtr <;> rfl
      · rfl
  · rename_i C F _
    cases C args with
    | false => rfl
    | true =>
      simp only [cond_true]
      split <;> rfl
  · split
    · rename_i v _; cases v.noPtr <;> rfl
    · rfl
  · split <;> rfl
  · split <;> rfl
  · rfl

/-- An operation of the kinds that may stand in such a region. -/
theorem foot_kind {e : Tab} {H : List AB} {op : Op} {f : Foot} (h : footOf P env e H op = some f) :
    (pureOp P op = true ∧ f = .none) ∨ (heavyOp P op = true ∧ f = .all) ∨ ((∃ t a b o, op = .load t a ∧ ev e a = .ptr b o ∧ f = .rd b) ∨ (∃ t x k ok b, op = .lookup t x k ok ∧ ev e x = .map b ∧ f = .rd b)) ∨ (∃ t a x b o, op = .store t a x ∧ ev e a = .ptr b o ∧ f = .wt b) ∨ (((∃ t, op = .alloc t) ∨ (∃ t r, op = .makeMap t r)) ∧ f = .al H.length) ∨ (∃ t x k y two el b k', (op = .mapUpdate t x k y ∨ op = .insert t x k y) ∧ mapT P t = some (two, el) ∧ ev e x = .map b ∧ keyA two (ev e k) = some k' ∧ f = .put b k') ∨
    (∃ c, op = .call c ∧ ((∃ b, c.callee = .builtin b ∧ b ≠ .append ∧ f = .none) ∨ (∃ g, c.callee = .value (.func g) ∧
      (((∃ C F, envGet env g = some (.pure C F)) ∨ (∃ C F, envGet env g = some (.ext C F)) ∨ (∃ F, envGet env g = some (.calc F))) ∧ f = .none ∨
      (∃ T F j o l, envGet env g = some (.flow T F) ∧ c.args.toList.map (ev e) = .ptr j o :: l ∧ f = .wt j))) ∨
      (∃ fo fid cap T F a b x j t, c.callee = .value fo ∧ ev e fo = .fn fid cap ∧ envGet env fid = some (.clo T F) ∧ c.args.toList.map (ev e) ++ cap = [a, b, .ptr x 0] ∧ H[x]? = some (.cells [.ptr j 0] t) ∧ f = .rw x j))) := by
  cases op <;> simp only [footOf, Option.some.injEq, reduceCtorEq] at h
  case load t a =>
    split at h
    · rename_i b o hb; cases h; exact .inr (.inr (.inl (.inl ⟨t, a, b, o, rfl, hb, rfl⟩)))
    · cases h
  case lookup t x k ok =>
    split at h
    · rename_i b hb; cases h; exact .inr (.inr (.inl (.inr ⟨t, x, k, ok, b, rfl, hb, rfl⟩)))
    · cases h
  case makeMap t r => exact .inr (.inr (.inr (.inr (.inl ⟨.inr ⟨t, r, rfl⟩, h.symm⟩))))
  case mapUpdate t x k y =>
    split at h
    · rename_i two el b hm hb
      split at h
      · rename_i k' hk; cases h; exact .inr (.inr (.inr (.inr (.inr (.inl ⟨t, x, k, y, two, el, b, k', .inl rfl, hm, hb, hk, rfl⟩)))))
      · cases h
    · cases h
  case insert t x k y =>
    split at h
    · rename_i two el b hm hb
      split at h
      · rename_i k' hk; cases h; exact .inr (.inr (.inr (.inr (.inr (.inl ⟨t, x, k, y, two, el, b, k', .inr rfl, hm, hb, hk, rfl⟩)))))
      · cases h
    · cases h
  case store t a x =>
    split at h
    · rename_i b o hb; cases h; exact .inr (.inr (.inr (.inl ⟨t, a, x, b, o, rfl, hb, rfl⟩)))
    · cases h
  case alloc t => exact .inr (.inr (.inr (.inr (.inl ⟨.inl ⟨t, rfl⟩, h.symm⟩))))
  case convert s d x =>
    cases hrc : isRowConv P s d with
    | true => rw [hrc] at h; cases h; exact .inr (.inl ⟨by simp only [heavyOp, hrc], rfl⟩)
    | false => rw [hrc] at h; cases h; exact .inl ⟨by simp only [pureOp, pureKind, hrc]; rfl, rfl⟩
  case makeSlice => exact .inr (.inl ⟨rfl, h.symm⟩)
  case buildSlice => exact .inr (.inl ⟨rfl, h.symm⟩)
  case box => exact .inr (.inl ⟨rfl, h.symm⟩)
  case call c =>
    split at h
    · rename_i g hc
      refine .inr (.inr (.inr (.inr (.inr (.inr ⟨c, rfl, .inr (.inl ⟨g, hc, ?_⟩)⟩)))))
      split at h
      · rename_i C F hF; exact .inl ⟨.inl ⟨C, F, hF⟩, by cases h; rfl⟩
      · rename_i C F hF; exact .inl ⟨.inr (.inl ⟨C, F, hF⟩), by cases h; rfl⟩
      · rename_i F hF; exact .inl ⟨.inr (.inr ⟨F, hF⟩), by cases h; rfl⟩
      · rename_i T F hF
        split at h
        · rename_i j o l hl; cases h; exact .inr ⟨T, F, j, o, l, hF, hl, rfl⟩
        · cases h
      · cases h
    · rename_i b hc
      split at h
      · cases h; exact .inr (.inl ⟨by simp only [heavyOp, hc], rfl⟩)
      · rename_i hne
        cases h; exact .inr (.inr (.inr (.inr (.inr (.inr ⟨c, rfl, .inl ⟨b, hc, hne, rfl⟩⟩)))))
    · rename_i fo _ hc
      split at h
      · rename_i fid cap hf
        split at h
        · rename_i T F a b x hF hargs
          split at h
          · rename_i j t hj
            cases h
            exact .inr (.inr (.inr (.inr (.inr (.inr ⟨c, rfl, .inr (.inr ⟨fo, fid, cap, T, F, a, b, x, j, t, hc, hf, hF, hargs, hj, rfl⟩)⟩)))))
          · cases h
        · cases h
      · cases h
    · cases h
  all_goals exact .inl ⟨rfl, h.symm⟩

theorem pureOp_kind {op : Op} (h : pureOp P op = true) : pureKind op = true := by
  unfold pureOp at h
  simp only [Bool.and_eq_true] at h
  exact h.1

theorem aexec_pure {ρ : Type} {dc : FuncId → List AV → List AB → (AV → List AB → Option ρ) → Option ρ} {o : Oper} {T : Tab} {H : List AB} {K : AV → List AB → Option ρ} (hk : pureOp P o.op = true) :
    aexec P dc o T H K = apure P (ev T) o.op fun v => K v H := by
  have hk' := pureOp_kind hk
  unfold aexec
  split
  · rename_i c hop; rw [hop] at hk'; cases hk'
  · rename_i t a hop; rw [hop] at hk'; cases hk'
  · rename_i hop; rw [hop] at hk'; cases hk'
  · rename_i t l c hop; rw [hop] at hk'; cases hk'
  · rename_i s d x hop
    rw [hop] at hk
    have : isRowConv P s d = false := by simpa [pureOp, pureKind] using hk
    rw [this, ← hop]; rfl
  · have : isMem o.op = false := by
      generalize o.op = op at hk'
      cases op <;> simp_all [pureKind, isMem]
    rw [this]; rfl

theorem aappend_nat {ρ : Type} (ts : Array TypeId) (args : List AV) (H : List AB) (K : AV → List AB → Option ρ) : aappend P ts args H K = (aappend P ts args H fun v H => some (v, H)).bind fun p => K p.1 p.2 := by
  unfold aappend
  split
  · rename_i t u s x _
    split
    · rename_i el news _ _
      cases (Nat.beq t u && AV.scalars news && Nat.ble 1 news.length && Nat.ble news.length 100000) with
      | false => rfl
      | true =>
        simp only [cond_true]
        split
        · rfl
        · rename_i i n
          split
          · rename_i l el' _
            cases (Nat.beq l.length n && Nat.beq el el' && Nat.ble n 100000) <;> rfl
          · rfl
        · rename_i i o len cap
          cases (Nat.beq len cap && Nat.ble cap 100000) with
          | false => rfl
          | true =>
            simp only [cond_true]
            split <;> rfl
        · rfl
    · rfl
  · rfl
theorem amake_nat {ρ : Type} (t : TypeId) (l c : AV) (H : List AB) (K : AV → List AB → Option ρ) : amake P t l c H K = (amake P t l c H fun v H => some (v, H)).bind fun p => K p.1 p.2 := by
  unfold amake
  split
  · rename_i k l k' c
    cases (decide (0 ≤ l) && decide (l ≤ c) && decide (c ≤ 100000)) with
    | false => rfl
    | true =>
      simp only [cond_true]
      split
      · split <;> rfl
      · rfl
  · rfl
theorem aconvR_nat {ρ : Type} (s d : TypeId) (x : AV) (H : List AB) (K : AV → List AB → Option ρ) : aconvR P s d x H K = (aconvR P s d x H fun v H => some (v, H)).bind fun p => K p.1 p.2 := by
  unfold aconvR
  split
  · split
    · split <;> rfl
    · rfl
  · split <;> rfl
  · rfl
theorem amem_nat {ρ : Type} {e : Operand → AV} {H : List AB} {op : Op} (K : AV → List AB → Option ρ) : amem P e H op K = (amem P e H op fun v H => some (v, H)).bind fun p => K p.1 p.2 := by
  cases op <;> simp only [amem] <;> (try rfl)
  case alloc =>
    split
    · split <;> rfl
    · rfl
  case box => split <;> rfl
  case buildSlice t len parts =>
    split
    · rename_i el _
      split
      · rename_i n z _ _
        cases (Nat.ble (len * n) 16777216 && Nat.ble 1 (len * n) && Nat.ble 1 z.length) with
        | false => rfl
        | true =>
          simp only [cond_true]
          split <;> rfl
      · rfl
    · rfl
  case store t a x =>
    split
    · split
      · cases (_ && _) <;> rfl
      · rfl
    · rfl
  case makeMap t res =>
    cases res
    · simp only; split <;> rfl
    · rfl
  case mapUpdate => split <;> rfl
  case insert => split <;> rfl

theorem aexec_nat {ρ : Type} {o : Oper} {T : Tab} {H : List AB} {f : Foot} (hf : footOf P env T H o.op = some f) (K : AV → List AB → Option ρ) :
    aexec P (dcD env) o T H K = (aexecD P env o T H).bind fun p => K p.1 p.2 := by
  unfold aexecD
  rcases foot_kind hf with ⟨hk, _⟩ | ⟨hk, _⟩ | (⟨t, a, b, o', hop, _⟩ | ⟨t, x, k, ok, b, hop, _⟩) | ⟨t, a, x, b, o', hop, _⟩ | ⟨⟨t, hop⟩ | ⟨t, r, hop⟩, _⟩ | ⟨t, x, k, y, two, el, b, k', hop, _⟩ | ⟨c, hop, hc⟩
  · rw [aexec_pure hk, aexec_pure hk, apure_nat (pureOp_kind hk), apure_nat (K := fun v => some (v, H)) (pureOp_kind hk)]
    cases apure P (ev T) o.op some <;> rfl
  · unfold aexec
    split
    · rename_i c hop
      rw [hop] at hk
      simp only [heavyOp] at hk
      split at hk
      · rename_i hc
        simp only [hc]
        exact aappend_nat ..
      · cases hk
    · rename_i hop; rw [hop] at hk; cases hk
    · rename_i hop; rw [hop] at hk; cases hk
    · exact amake_nat ..
    · rename_i s d x hop
      rw [hop] at hk
      have : isRowConv P s d = true := hk
      simp only [this, cond_true]
      exact aconvR_nat ..
    · have : isMem o.op = true := by
        generalize o.op = op at *
        cases op <;> simp_all [heavyOp, isMem]
      simp only [this, cond_true]
      exact amem_nat ..
  · unfold aexec; simp only [hop]
    split <;> rfl
  · unfold aexec; simp only [hop]
    split <;> rfl
  · unfold aexec; simp only [hop, isMem, cond_true]
    exact amem_nat ..
  · unfold aexec; simp only [hop, isMem, cond_true]
    exact amem_nat ..
  · unfold aexec; simp only [hop, isMem, cond_true]
    exact amem_nat ..
  · rcases hop with hop | hop
    · unfold aexec; simp only [hop, isMem, cond_true]
      exact amem_nat ..
    · unfold aexec; simp only [hop, isMem, cond_true]
      exact amem_nat ..
  · unfold aexec; simp only [hop]
    rcases hc with ⟨b, hb, hne, _⟩ | ⟨g, hg, _⟩ | ⟨fo, fid, cap, T', F, a, b, x, j, t, hfo, hfn, _⟩
    · simp only [hb]
      rw [abuiltin_nat, abuiltin_nat (K := fun v => some (v, H))]
      cases abuiltin P b c.argTypes (c.args.toList.map (ev T)) some <;> rfl
    · simp only [hg, ev]
      exact dcD_nat ..
    · simp only [hfo, hfn]
      exact dcD_nat ..

/-- The slots that an operation looks at are alike. -/
def Agree (ops : Array Oper) (o : Oper) (T T2 : Tab) : Prop := ∀ t ∈ o.looksAt ops, get T t = get T2 t

theorem Agree.ev {o : Oper} {T T2 : Tab} (h : Agree ops o T T2) : ∀ x ∈ o.op.operands, ev T x = ev T2 x := fun x hx => by
  cases x with
  | tmp t => exact h t (List.mem_append_left _ (List.mem_filterMap.2 ⟨.tmp t, by simpa using hx, rfl⟩))
  | _ => rfl

theorem map_agree {o : Oper} {c : Call} (hop : o.op = .call c) {T T2 : Tab} (h : Agree ops o T T2) : c.args.toList.map (ev T) = c.args.toList.map (ev T2) :=
  List.map_congr_left fun x hx => h.ev x (by rw [hop]; simp only [Op.operands, Call.operands]; exact Array.mem_append.2 (.inr (by simpa using hx)))

/-- What an operation comes to at a place like the one where it was carried out. -/
def Loc (P : Program) (env : Env) (ops : Array Oper) (o : Oper) (T : Tab) (H : List AB) (v : AV) (H' : List AB) : Foot → Prop
  | .all => ∀ T2, Agree ops o T T2 → footOf P env T2 H o.op = some .all ∧ aexecD P env o T2 H = some (v, H')
  | .none => H' = H ∧ ∀ T2 H2, Agree ops o T T2 → footOf P env T2 H2 o.op = some .none ∧ aexecD P env o T2 H2 = some (v, H2)
  | .rd b => H' = H ∧ ∀ T2 H2, Agree ops o T T2 → H2[b]? = H[b]? → footOf P env T2 H2 o.op = some (.rd b) ∧ aexecD P env o T2 H2 = some (v, H2)
  | .wt b => ∃ B, H' = H.set b B ∧ b < H.length ∧ ∀ T2 H2, Agree ops o T T2 → H2[b]? = H[b]? → footOf P env T2 H2 o.op = some (.wt b) ∧ aexecD P env o T2 H2 = some (v, H2.set b B)
  | .al k => k = H.length ∧ ∃ B, H' = H ++ [B] ∧ ∀ T2 H2, Agree ops o T T2 → H2.length = H.length → footOf P env T2 H2 o.op = some (.al k) ∧ aexecD P env o T2 H2 = some (v, H2 ++ [B])
  | .rw r b => ∃ B, H' = H.set b B ∧ r < H.length ∧ b < H.length ∧ ∀ T2 H2, Agree ops o T T2 → H2[r]? = H[r]? → H2[b]? = H[b]? → footOf P env T2 H2 o.op = some (.rw r b) ∧ aexecD P env o T2 H2 = some (v, H2.set b B)
  | .put b k => ∃ two es u, H[b]? = some (.map two es) ∧ H' = H.set b (.map two (putS k u es)) ∧ ∀ T2 H2 es2, Agree ops o T T2 → H2[b]? = some (.map two es2) → footOf P env T2 H2 o.op = some (.put b k) ∧ aexecD P env o T2 H2 = some (v, H2.set b (.map two (putS k u es2)))

theorem heavy_congr {e e' : Operand → AV} {op : Op} (hk : isMem op = true) (h : ∀ x ∈ op.operands, e x = e' x) {ρ : Type} {H : List AB} (K : AV → List AB → Option ρ) : amem P e H op K = amem P e' H op K := by
  cases op <;> simp only [isMem, Bool.false_eq_true] at hk <;> simp only [Op.operands] at h <;> simp only [amem]
  case box t x => rw [h x (by simp)]
  case store t a x => rw [h a (by simp), h x (by simp)]
  case buildSlice t n parts =>
    have : parts.toList.map (fun (i, x) => (i, e x)) = parts.toList.map (fun (i, x) => (i, e' x)) :=
      List.map_congr_left fun p hp => by
        obtain ⟨i, x⟩ := p
        simp only [h x (by simp only [List.mem_toArray, List.mem_map]; exact ⟨(i, x), hp, rfl⟩)]
    rw [this]
  case makeMap t res => cases res <;> rfl
  case mapUpdate t x k y => rw [h x (by simp), h k (by simp), h y (by simp)]
  case insert t x k y => rw [h x (by simp), h k (by simp), h y (by simp)]

theorem exec_loc {o : Oper} {T : Tab} {H : List AB} {f : Foot} {v : AV} {H' : List AB} (hf : footOf P env T H o.op = some f) (h : aexecD P env o T H = some (v, H')) : Loc P env ops o T H v H' f := by
  have hf0 := hf
  rcases foot_kind hf with ⟨hk, rfl⟩ | ⟨hk, rfl⟩ | (⟨t, a, b, o', hop, ha, rfl⟩ | ⟨t, x, k, ok, b, hop, ha, rfl⟩) | ⟨t, a, x, b, o', hop, ha, rfl⟩ | ⟨⟨t, hop⟩ | ⟨t, r, hop⟩, rfl⟩ | ⟨t, x, k, y, two, el, b, k', hop, hm, ha, hka, rfl⟩ | ⟨c, hop, hc⟩
  · unfold aexecD at h
    have hk' := pureOp_kind hk
    rw [aexec_pure hk, apure_nat hk'] at h
    obtain ⟨v', h1, h2⟩ := Option.bind_eq_some_iff.1 h
    cases h2
    refine ⟨rfl, fun T2 H2 ha => ⟨?_, ?_⟩⟩
    · generalize o.op = op at hk hf0 hk'
      cases op <;> simp_all [pureKind, footOf]
    · unfold aexecD
      rw [aexec_pure hk, apure_nat hk', ← apure_congr hk' ha.ev, h1]; rfl
  · intro T2 ha
    have hev := ha.ev
    constructor
    · generalize o.op = op at hk hf0
      cases op <;> simp only [heavyOp, Bool.false_eq_true] at hk <;> (try rfl)
      case convert s d x => simp only [footOf, hk, cond_true]
      case call c =>
        split at hk
        · rename_i hc; simp only [footOf, hc]
        · cases hk
    · rw [← h]
      unfold aexecD aexec
      split
      · rename_i c hop
        rw [hop] at hk
        simp only [heavyOp] at hk
        split at hk
        · rename_i hc
          simp only [hc]
          rw [map_agree hop ha]
        · cases hk
      · rename_i hop; rw [hop] at hk; cases hk
      · rename_i hop; rw [hop] at hk; cases hk
      · rename_i t l c hop
        rw [hop] at hev
        rw [hev l (by simp [Op.operands]), hev c (by simp [Op.operands])]
      · rename_i s d x hop
        rw [hop] at hk hev
        have : isRowConv P s d = true := hk
        simp only [this, cond_true]
        rw [hev x (by simp [Op.operands])]
      · have : isMem o.op = true := by
          generalize o.op = op at *
          cases op <;> simp_all [heavyOp, isMem]
        simp only [this, cond_true]
        exact (heavy_congr this hev _).symm
  · unfold aexecD aexec at h
    simp only [hop] at h
    split at h
    · rename_i v' hv
      cases h
      refine ⟨rfl, fun T2 H2 hag hb => ?_⟩
      have e2 : ev T2 a = .ptr b o' := by rw [← hag.ev a (by rw [hop]; simp [Op.operands])]; exact ha
      have hl : loadA P H2 t (ev T2 a) = some v := by
        rw [e2]; rw [ha] at hv
        unfold loadA at hv ⊢
        simp only at hv ⊢
        rw [hb]; exact hv
      refine ⟨by simp only [hop, footOf, e2], ?_⟩
      unfold aexecD aexec
      simp only [hop, hl]
    · cases h
  · unfold aexecD aexec at h
    simp only [hop] at h
    split at h
    · rename_i v' hv
      cases h
      refine ⟨rfl, fun T2 H2 hag hb => ?_⟩
      have e2 : ev T2 x = .map b := by rw [← hag.ev x (by rw [hop]; simp [Op.operands])]; exact ha
      have e3 : ev T2 k = ev T k := (hag.ev k (by rw [hop]; simp [Op.operands])).symm
      have hl : lookupA P H2 t (ev T2 x) (ev T2 k) ok = some v := by
        rw [e2, e3]; rw [ha] at hv
        unfold lookupA at hv ⊢
        dsimp only at hv ⊢
        rw [hb]; exact hv
      refine ⟨by simp only [hop, footOf, e2], ?_⟩
      unfold aexecD aexec
      simp only [hop, hl]
    · cases h
  · unfold aexecD aexec at h
    simp only [hop, isMem, cond_true, amem] at h
    split at h
    · rename_i i o'' vs n' h1 h2 h3
      rw [ha] at h1
      cases h1
      split at h
      · rename_i l bt hl
        cases hb : (Nat.beq vs.length n' && Nat.ble (o' + vs.length) l.length && AV.scalars vs) with
        | false => rw [hb] at h; cases h
        | true =>
          rw [hb] at h
          simp only [cond_true, Option.some.injEq, Prod.mk.injEq] at h
          obtain ⟨rfl, rfl⟩ := h
          refine ⟨_, rfl, (List.getElem?_eq_some_iff.1 hl).1, fun T2 H2 hag hbb => ?_⟩
          have e1 : ev T2 a = .ptr b o' := by rw [← hag.ev a (by rw [hop]; simp [Op.operands])]; exact ha
          have e2 : ev T2 x = ev T x := (hag.ev x (by rw [hop]; simp [Op.operands])).symm
          refine ⟨by simp only [hop, footOf, e1], ?_⟩
          unfold aexecD aexec
          simp only [hop, isMem, cond_true, amem, e1, e2, h2, h3, hbb, hl, hb]
      · cases h
    · cases h
  · unfold aexecD aexec at h
    simp only [hop, isMem, cond_true, amem] at h
    split at h
    · rename_i z hz
      split at h
      · rename_i l hl
        simp only [Option.some.injEq, Prod.mk.injEq] at h
        obtain ⟨rfl, rfl⟩ := h
        refine ⟨rfl, _, rfl, fun T2 H2 hag hlen => ⟨by simp only [hop, footOf, hlen], ?_⟩⟩
        unfold aexecD aexec
        simp only [hop, isMem, cond_true, amem, hz, hl, hlen]
      · cases h
    · cases h
  · unfold aexecD aexec at h
    simp only [hop, isMem, cond_true] at h
    cases r with
    | some _ => simp only [amem] at h; cases h
    | none =>
      simp only [amem] at h
      split at h
      · rename_i two el hm
        simp only [Option.some.injEq, Prod.mk.injEq] at h
        obtain ⟨rfl, rfl⟩ := h
        refine ⟨rfl, _, rfl, fun T2 H2 hag hlen => ⟨by simp only [hop, footOf, hlen], ?_⟩⟩
        unfold aexecD aexec
        simp only [hop, isMem, cond_true, amem, hm, hlen]
      · cases h
  · have key : ∀ (op : Op), (op = .mapUpdate t x k y ∨ op = .insert t x k y) → ∀ (e : Operand → AV) (H : List AB), amem P e H op (fun v H => some (v, H)) = (mapPutA P H t (e x) (e k) (e y)).map fun H => (AV.any, H) := by
      rintro op (rfl | rfl) e H <;> simp only [amem] <;> split <;> rename_i hq <;> rw [hq] <;> rfl
    have hx : ∀ (T2 : Tab) (H2 : List AB), aexecD P env o T2 H2 = (mapPutA P H2 t (ev T2 x) (ev T2 k) (ev T2 y)).map fun H => (AV.any, H) := by
      intro T2 H2
      rw [← key o.op hop (ev T2) H2]
      unfold aexecD aexec
      rcases hop with hop | hop <;> simp only [hop, isMem, cond_true]
    have hft : ∀ (T2 : Tab) (H2 : List AB), ev T2 x = .map b → keyA two (ev T2 k) = some k' → footOf P env T2 H2 o.op = some (.put b k') := by
      intro T2 H2 h1 h2
      rcases hop with hop | hop <;> simp only [hop, footOf, hm, h1, h2]
    have hmx : x ∈ o.op.operands ∧ k ∈ o.op.operands ∧ y ∈ o.op.operands := by
      rcases hop with hop | hop <;> rw [hop] <;> simp [Op.operands]
    rw [hx, ha] at h
    unfold mapPutA at h
    simp only at h
    cases hp : mapPutAt P H[b]? t (ev T k) (ev T y) with
    | none => rw [hp] at h; simp at h
    | some B =>
      rw [hp] at h
      simp only [Option.map_some, Option.some.injEq, Prod.mk.injEq] at h
      obtain ⟨rfl, rfl⟩ := h
      unfold mapPutAt at hp
      rw [hm] at hp
      split at hp
      · rename_i two2 el2 two' es e1 e2
        cases e1
        rw [hka] at hp
        simp only at hp
        cases htw : (two == two') with
        | false => rw [htw] at hp; cases hp
        | true =>
          rw [htw] at hp
          have htw' : two = two' := by simpa using htw
          subst htw'
          cases hp
          refine ⟨two, es, ev T y, e2, rfl, fun T2 H2 es2 hag hb2 => ?_⟩
          have x2 : ev T2 x = .map b := by rw [← hag.ev x hmx.1]; exact ha
          have k2 : ev T2 k = ev T k := (hag.ev k hmx.2.1).symm
          have y2 : ev T2 y = ev T y := (hag.ev y hmx.2.2).symm
          refine ⟨hft T2 H2 x2 (by rw [k2]; exact hka), ?_⟩
          rw [hx, x2, k2, y2]
          unfold mapPutA
          simp only
          rw [hb2]
          unfold mapPutAt
          rw [hm]
          simp only [hka, htw, cond_true, Option.map_some]
      · cases hp
  · unfold aexecD aexec at h
    simp only [hop] at h
    rcases hc with ⟨b, hb, hne, rfl⟩ | ⟨g, hg, hg'⟩ | ⟨fo, fid, cap, T', F, a, b, x, j, t, hfo, hfn, hF, hargs, hj, rfl⟩
    rotate_left
    rotate_left
    · simp only [hfo, hfn, hargs] at h
      have hmem : fo ∈ o.op.operands := by
        rw [hop]; simp only [Op.operands, Call.operands, hfo]; exact Array.mem_append.2 (.inl (by simp))
      unfold dcD at h
      rw [hF] at h
      simp only at h
      split at h
      · rename_i v' H'' hv
        cases h
        have hv0 := hv
        simp only [cloSpec, hj] at hv
        split at hv
        · rename_i y t' hy
          cases hb : (Nat.beq t' T' && AV.noPtrL [a, b]) with
          | false => rw [hb] at hv; cases hv
          | true =>
            rw [hb] at hv
            simp only [cond_true] at hv
            split at hv
            · rename_i gg hgg
              cases hv
              refine ⟨_, rfl, (List.getElem?_eq_some_iff.1 hj).1, (List.getElem?_eq_some_iff.1 hy).1, fun T2 H2 hag hr hbb => ?_⟩
              have e1 : ev T2 fo = .fn fid cap := by rw [← hag.ev fo hmem]; exact hfn
              have e2 : c.args.toList.map (ev T2) ++ cap = [a, b, .ptr x 0] := by rw [← map_agree hop hag]; exact hargs
              have hj2 : H2[x]? = some (.cells [.ptr j 0] t) := by rw [hr]; exact hj
              have hy2 : H2[j]? = some (.cells [.bool y] t') := by rw [hbb]; exact hy
              constructor
              · rw [hop]
                cases fo with
                | func q =>
                  have e3 : q = fid := by simp only [ev] at hfn; cases hfn; rfl
                  subst e3
                  rw [hop] at hf0
                  simp only [footOf, hfo, hF] at hf0
                  cases hf0
                | tmp i => simp only [footOf, hfo, e1, hF, e2, hj2]
                | const v => simp only [footOf, hfo, e1, hF, e2, hj2]
                | global g => simp only [footOf, hfo, e1, hF, e2, hj2]
              · unfold aexecD aexec
                simp only [hop, hfo, e1, e2]
                unfold dcD
                rw [hF]
                simp only [cloSpec, hj2, hy2, hb, cond_true, hgg]
            · cases hv
        · cases hv
      · cases h
    · simp only [hb] at h
      rw [abuiltin_nat] at h
      obtain ⟨v', h1, h2⟩ := Option.bind_eq_some_iff.1 h
      cases h2
      refine ⟨rfl, fun T2 H2 hag => ⟨?_, ?_⟩⟩
      · rw [hop]
        simp only [footOf, hb]
      · unfold aexecD aexec
        simp only [hop, hb]
        rw [← map_agree hop hag, abuiltin_nat, h1]; rfl
    · simp only [hg, ev, List.append_nil] at h
      have foot2 : ∀ T2 H2, Agree ops o T T2 → (∀ k, f = .al k → H2.length = H.length) → footOf P env T2 H2 o.op = some f := fun T2 H2 hag _ => by
        rw [hop] at hf ⊢
        simp only [footOf, hg] at hf ⊢
        rw [← map_agree hop hag]; exact hf
      have ex2 : ∀ T2 H2, Agree ops o T T2 → aexecD P env o T2 H2 = dcD env g (c.args.toList.map (ev T)) H2 fun v H => some (v, H) := fun T2 H2 hag => by
        unfold aexecD aexec
        simp only [hop, hg, ev, List.append_nil]
        rw [← map_agree hop hag]
      rcases hg' with ⟨hg', rfl⟩ | ⟨T', F, j, o', l, hF, hl, rfl⟩
      · have key : H' = H ∧ ∀ H2, dcD env g (c.args.toList.map (ev T)) H2 (fun v H => some (v, H)) = some (v, H2) := by
          rcases hg' with ⟨C, F, hF⟩ | ⟨C, F, hF⟩ | ⟨F, hF⟩
          · unfold dcD at h ⊢
            rw [hF] at h ⊢
            simp only at h ⊢
            cases hC : C (c.args.toList.map (ev T)) with
            | false => rw [hC] at h; cases h
            | true =>
              rw [hC] at h
              simp only [cond_true] at h ⊢
              split at h
              · rename_i v' hv
                cases hb : v'.noPtr with
                | false => rw [hb] at h; cases h
                | true => rw [hb] at h; cases h; exact ⟨rfl, fun H2 => by simp only [hv, hb, cond_true]⟩
              · cases h
          · unfold dcD at h ⊢
            rw [hF] at h ⊢
            simp only at h ⊢
            cases hC : C (c.args.toList.map (ev T)) with
            | false => rw [hC] at h; cases h
            | true =>
              rw [hC] at h
              simp only [cond_true] at h ⊢
              split at h
              · rename_i v' hv; cases h; exact ⟨rfl, fun H2 => by simp only [hv]⟩
              · cases h
          · unfold dcD at h ⊢
            rw [hF] at h ⊢
            simp only at h ⊢
            split at h
            · rename_i v' hv
              cases hb : v'.noPtr with
              | false => rw [hb] at h; cases h
              | true => rw [hb] at h; cases h; exact ⟨rfl, fun H2 => by simp only [hv, hb, cond_true]⟩
            · cases h
        exact ⟨key.1, fun T2 H2 hag => ⟨foot2 T2 H2 hag (fun k e => by cases e), (ex2 T2 H2 hag).trans (key.2 H2)⟩⟩
      · unfold dcD at h
        rw [hF] at h
        simp only at h
        split at h
        · rename_i v' H'' hv
          cases h
          rw [hl] at hv
          unfold flowSpec at hv
          split at hv
          · rename_i j' rest heq
            cases heq
            split at hv
            · rename_i b t hj
              cases hb : (Nat.beq t T' && AV.noPtrL l) with
              | false => rw [hb] at hv; cases hv
              | true =>
                rw [hb] at hv
                simp only [cond_true] at hv
                split at hv
                · rename_i gg hgg
                  cases hv
                  refine ⟨_, rfl, (List.getElem?_eq_some_iff.1 hj).1, fun T2 H2 hag hbb => ⟨foot2 T2 H2 hag (fun k e => by cases e), (ex2 T2 H2 hag).trans ?_⟩⟩
                  unfold dcD
                  rw [hF]
                  simp only [hl, flowSpec, hbb, hj, hb, cond_true, hgg]
                · cases hv
            · cases hv
          · cases hv
        · cases h

end
#print axioms exec_loc
end Go.Proofs.Ytlkclpkpggapbaa.Ae
