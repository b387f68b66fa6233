/- Arguments that are structs and arrays of numbers, bools and strings, without memory: how they are opened, and that they read as they did. Conditions: none. -/
import Derived.Test.YtcagaaaibhifdaaJc
import Derived.Test.YtcagaaaibhifdaaJa
import Derived.Test.YtcagaaaibhifdaaProg
import Derived.Laws.Externs
namespace Go.Proofs.Ytcagaaaibhifdaa.Row
open Go Go.Proofs.Ytcagaaaibhifdaa.Ae Go.RowKit Go.ChangeShapes Go.WideShapes

/-- No memory in it. -/
def flatT (P : Program) : Nat → TypeId → Bool
  | 0, _ => false
  | n + 1, t =>
    match P.underlying t with
    | some .bool | some (.int _) | some .string => true
    | some (.struct fs) => fs.toList.all fun f => flatT P n f.type
    | some (.array _ e) => flatT P n e
    | _ => false

section
variable {H : Type} {enc : TypeId × Value → H} {P : Program}

theorem mapM_some {α β : Type} {f : α → Option β} : ∀ {l : List α} {xs : List β}, l.mapM f = some xs → ∀ x ∈ xs, ∃ a ∈ l, f a = some x
  | [], xs, h => by simp at h; subst h; intro x hx; cases hx
  | a :: l, xs, h => by
    simp only [List.mapM_cons, Option.bind_eq_bind, Option.bind_eq_some_iff, Option.pure_def, Option.some.injEq] at h
    obtain ⟨b, hb, ys, hys, rfl⟩ := h
    intro x hx
    rcases List.mem_cons.1 hx with rfl | hx
    · exact ⟨a, by simp, hb⟩
    · obtain ⟨a', h1, h2⟩ := mapM_some hys x hx
      exact ⟨a', by simp [h1], h2⟩
theorem mapM_congr {α β : Type} {f g : α → Option β} : ∀ {l : List α} {xs : List β}, l.mapM f = some xs → (∀ a ∈ l, ∀ x, f a = some x → g a = some x) → l.mapM g = some xs
  | [], xs, h, _ => by simpa using h
  | a :: l, xs, h, hc => by
    simp only [List.mapM_cons, Option.bind_eq_bind, Option.bind_eq_some_iff, Option.pure_def, Option.some.injEq] at h ⊢
    obtain ⟨b, hb, ys, hys, rfl⟩ := h
    exact ⟨b, hc a (by simp) b hb, ys, mapM_congr hys (fun a' ha' => hc a' (by simp [ha'])), rfl⟩

theorem trod_flat {w : World} {base : Nat} {spare : Nat → Bool} {held : Bool} : ∀ (k n : Nat) (t : TypeId) (cs : List Value) (x : DataW H × List MemPlace), flatT P k t = true → DataW.trod enc P w base spare held n t cs = some x →
    x.2 = [] ∧ ∀ (w' : World) (base' : Nat) (spare' : Nat → Bool) (held' : Bool), DataW.trod enc P w' base' spare' held' n t cs = some x
  | 0, _, _, _, _, hf, _ => by simp [flatT] at hf
  | k + 1, 0, t, cs, x, _, h => by simp [DataW.trod] at h
  | k + 1, n + 1, t, cs, x, hf, h => by
    simp only [flatT] at hf
    split at hf
    · rename_i hu
      obtain ⟨b, rfl, rfl⟩ := DataW.trod_bool hu h
      exact ⟨rfl, fun _ _ _ _ => by unfold DataW.trod; rw [hu]⟩
    · rename_i kk hu
      obtain ⟨z, rfl, rfl, hw⟩ := DataW.trod_int hu h
      exact ⟨rfl, fun _ _ _ _ => by unfold DataW.trod; rw [hu]; simp [hw]⟩
    · rename_i hu
      obtain ⟨s, rfl, rfl, hs⟩ := DataW.trod_string hu h
      exact ⟨rfl, fun _ _ _ _ => by unfold DataW.trod; rw [hu]; simp [hs]⟩
    · rename_i fs hu
      have h0 := h
      unfold DataW.trod at h
      rw [hu] at h
      have key : ∀ (w : World) (base : Nat) (spare : Nat → Bool) (held : Bool), DataW.trod enc P w base spare held (n + 1) t cs = (if cs.length = P.cellsOf t then (fs.toList.mapM fun f => DataW.trod enc P w base spare held n f.type ((cs.drop f.offset).take (P.cellsOf f.type))).map fun xs => (.agg (xs.map (·.1)), xs.flatMap (·.2)) else none) := fun w base spare held => by
        conv => lhs; unfold DataW.trod
        rw [hu]
      rw [key] at h0
      split at h0
      · rename_i hlen
        obtain ⟨xs, hxs, rfl⟩ := Option.map_eq_some_iff.1 h0
        have ih : ∀ f ∈ fs.toList, ∀ y, DataW.trod enc P w base spare held n f.type ((cs.drop f.offset).take (P.cellsOf f.type)) = some y → y.2 = [] ∧ ∀ (w' : World) (base' : Nat) (spare' : Nat → Bool) (held' : Bool), DataW.trod enc P w' base' spare' held' n f.type ((cs.drop f.offset).take (P.cellsOf f.type)) = some y := fun f hfm y hy =>
          trod_flat k n f.type _ y (List.all_eq_true.1 hf f hfm) hy
        refine ⟨?_, fun w' base' spare' held' => ?_⟩
        · simp only [List.flatMap_eq_nil_iff]
          intro y hy
          obtain ⟨f, hfm, hfy⟩ := mapM_some hxs y hy
          exact (ih f hfm y hfy).1
        · rw [key, if_pos hlen, mapM_congr hxs (fun f hfm y hy => (ih f hfm y hy).2 w' base' spare' held')]; rfl
      · cases h0
    · rename_i len e hu
      have h0 := h
      have key : ∀ (w : World) (base : Nat) (spare : Nat → Bool) (held : Bool), DataW.trod enc P w base spare held (n + 1) t cs = (if cs.length = P.cellsOf t then ((List.range len).mapM fun i => DataW.trod enc P w base spare held n e ((cs.drop (i * P.cellsOf e)).take (P.cellsOf e))).map fun xs => (.agg (xs.map (·.1)), xs.flatMap (·.2)) else none) := fun w base spare held => by
        conv => lhs; unfold DataW.trod
        rw [hu]
      rw [key] at h0
      split at h0
      · rename_i hlen
        obtain ⟨xs, hxs, rfl⟩ := Option.map_eq_some_iff.1 h0
        have ih : ∀ (i : Nat) y, DataW.trod enc P w base spare held n e ((cs.drop (i * P.cellsOf e)).take (P.cellsOf e)) = some y → y.2 = [] ∧ ∀ (w' : World) (base' : Nat) (spare' : Nat → Bool) (held' : Bool), DataW.trod enc P w' base' spare' held' n e ((cs.drop (i * P.cellsOf e)).take (P.cellsOf e)) = some y := fun i y hy =>
          trod_flat k n e _ y hf hy
        refine ⟨?_, fun w' base' spare' held' => ?_⟩
        · simp only [List.flatMap_eq_nil_iff]
          intro y hy
          obtain ⟨i, _, hfy⟩ := mapM_some hxs y hy
          exact (ih i y hfy).1
        · rw [key, if_pos hlen, mapM_congr hxs (fun i _ y hy => (ih i y hy).2 w' base' spare' held')]; rfl
      · cases h0
    · cases hf

/-- What stands in the cells. -/
inductive CK where
  | int (k : IntKind)
  | bool
  | str
def kindT (P : Program) (t : TypeId) : Option CK :=
  match P.underlying t with
  | some (.int k) => some (.int k)
  | some .bool => some .bool
  | some .string => some .str
  | _ => none
def Match : List CK → List Value → Prop
  | [], vs => vs = []
  | .int k :: ks, vs => ∃ n vs', vs = .int k n :: vs' ∧ (Lit.int k n).wf = true ∧ Match ks vs'
  | .bool :: ks, vs => ∃ b vs', vs = .bool b :: vs' ∧ Match ks vs'
  | .str :: ks, vs => ∃ s vs', vs = .string s :: vs' ∧ Match ks vs'
def kindsL (P : Program) : List TypeId → Option (List CK)
  | [] => some []
  | t :: ts =>
    match kindT P t, kindsL P ts with
    | some k, some ks => some (k :: ks)
    | _, _ => none

theorem match_ok {w : World} {r : Reach} {base : Nat} : ∀ {ts : List TypeId} {ks : List CK} {l : List Value}, kindsL P ts = some ks → l.length = ts.length → (∀ (i : Nat) v, l[i]? = some v → ∃ u, ts[i]? = some u ∧ Cell.okWide P w r base u v) → Match ks l
  | [], ks, l, h, hl, _ => by
    simp [kindsL] at h; subst h
    simp at hl
    simpa [Match] using hl
  | t :: ts, ks, l, h, hl, hok => by
    match l, hl with
    | v :: l, hl =>
      simp only [kindsL] at h
      split at h
      · rename_i k ks' hk hks
        cases h
        have hrest := match_ok (w := w) (r := r) (base := base) hks (by simpa using hl) (l := l) (fun i v' hv => by
          have := hok (i + 1) v' (by simpa using hv)
          simpa using this)
        obtain ⟨u, hu, hc⟩ := hok 0 v rfl
        simp at hu
        subst hu
        unfold kindT at hk
        split at hk
        · rename_i kk hun
          cases hk
          simp only [Cell.okWide, hun] at hc
          cases v <;> simp only [Cell.ok, hun] at hc <;> try (exact hc.elim)
          rename_i k' n
          have hh : k' = kk ∧ kk.has n = true := by simpa [Cell.ok, hun] using hc
          obtain ⟨rfl, hn⟩ := hh
          exact ⟨n, l, rfl, by simpa [Lit.wf, IntKind.has] using hn, hrest⟩
        · rename_i hun
          cases hk
          simp only [Cell.okWide, hun] at hc
          cases v <;> simp only [Cell.ok, hun] at hc <;> try (exact hc.elim)
          rename_i b
          exact ⟨b, l, rfl, hrest⟩
        · rename_i hun
          cases hk
          simp only [Cell.okWide, hun] at hc
          cases v <;> simp only [Cell.ok, hun] at hc <;> try (exact hc.elim)
          rename_i s
          exact ⟨s, l, rfl, hrest⟩
        · cases hk
      · cases h

def isAggT (P : Program) (t : TypeId) : Bool :=
  match P.underlying t with
  | some (.struct _) | some (.array _ _) => true
  | _ => false
/-- An aggregate without memory: its cells. -/
theorem open_flat {w : World} {r : Reach} {b0 base : Nat} {spare : Nat → Bool} {held : Bool} {t : TypeId} {v : Value} {d : DataW H} {ps : List MemPlace} {ts : List TypeId} {ks : List CK} (hagg : isAggT P t = true) (hfl : flatT P 30 t = true)
    (hts : P.cellTypes P.depth t = some ts) (hlen : P.cellsOf t = ts.length) (hks : kindsL P ts = some ks)
    (hval : Value.okWide P w r b0 t v) (h : DataW.Trod enc P w base spare held t v d ps) :
    ∃ cs, v = .agg ⟨cs⟩ ∧ Match ks cs ∧ ps = [] ∧ ∀ (w' : World) (base' : Nat) (spare' : Nat → Bool) (held' : Bool), DataW.Trod enc P w' base' spare' held' t v d [] := by
  obtain ⟨n, hn⟩ := h
  obtain ⟨h1, h2⟩ := trod_flat 30 n t _ _ hfl hn
  simp only at h1
  subst h1
  have hv : ∃ cs, v = .agg cs ∧ cs.size = P.cellsOf t ∧ Row.okWide P w r b0 t cs := by
    unfold isAggT at hagg
    unfold Value.okWide at hval
    split at hagg
    · rename_i fs hu; rw [hu] at hval; exact hval
    · rename_i n e hu; rw [hu] at hval; exact hval
    · cases hagg
  obtain ⟨cs, rfl, hsz, ts', hts', hn', hok⟩ := hv
  rw [hts] at hts'
  cases hts'
  refine ⟨cs.toList, rfl, match_ok (w := w) (r := r) (base := b0) hks (by simpa [hsz] using hlen) (fun i v hv => ?_), rfl, fun w' base' spare' held' => ⟨n, h2 w' base' spare' held'⟩⟩
  have hi : i < ts.length := by
    have := (List.getElem?_eq_some_iff.1 hv).1
    simp at this; omega
  obtain ⟨u, hu, hc⟩ := hok i v (by simpa using hv)
  rw [Nat.mod_eq_of_lt hi] at hu
  exact ⟨u, hu, hc⟩
end
#print axioms open_flat
end Go.Proofs.Ytcagaaaibhifdaa.Row

/- Plain facts on words of 64 bits: products, lengths, quotients, roots. Conditions: the numbers are words. -/
namespace Go.Proofs.Ytcagaaaibhifdaa.Fx
open Go Go.Proofs.Ytcagaaaibhifdaa.Ae

/-! ### Bits -/
theorem ofInt_toNat {x : Int} (h0 : 0 ≤ x) (h1 : x < 18446744073709551616) : (BitVec.ofInt 64 x).toNat = x.toNat := by
  rw [BitVec.toNat_ofInt]
  have : x % ((2 ^ 64 : Nat) : Int) = x := Int.emod_eq_of_lt h0 (by simpa using h1)
  rw [this]

theorem wr_u64 (n : Int) : wr .u64 n = n % 18446744073709551616 := by simp only [wr]
theorem wr_i64 (n : Int) : wr .i64 n = (n + 9223372036854775808) % 18446744073709551616 - 9223372036854775808 := by simp only [wr, w64]
/-- An integer of its kind stays as it is. -/
theorem w64_in {n : Int} (h0 : -9223372036854775808 ≤ n) (h1 : n < 9223372036854775808) : wr .i64 n = n := by rw [wr_i64]; omega
theorem wu64_in {n : Int} (h0 : 0 ≤ n) (h1 : n < 18446744073709551616) : wr .u64 n = n := by rw [wr_u64]; omega

theorem bor_eq {x y : Int} (hx : 0 ≤ x) (hx1 : x < 18446744073709551616) (hy : 0 ≤ y) (hy1 : y < 18446744073709551616) : bor .u64 x y = ((x.toNat ||| y.toNat : Nat) : Int) := by
  unfold bor
  rw [wr_eq, wr_u64]
  show ((BitVec.ofInt 64 x ||| BitVec.ofInt 64 y).toNat : Int) % _ = _
  rw [BitVec.toNat_or, ofInt_toNat hx hx1, ofInt_toNat hy hy1]
  apply Int.emod_eq_of_lt (Int.natCast_nonneg _)
  have := Nat.or_lt_two_pow (x := x.toNat) (y := y.toNat) (n := 64) (by omega) (by omega)
  omega

theorem band_eq {x y : Int} (hx : 0 ≤ x) (hx1 : x < 18446744073709551616) (hy : 0 ≤ y) (hy1 : y < 18446744073709551616) : band .u64 x y = ((x.toNat &&& y.toNat : Nat) : Int) := by
  unfold band
  rw [wr_eq, wr_u64]
  show ((BitVec.ofInt 64 x &&& BitVec.ofInt 64 y).toNat : Int) % _ = _
  rw [BitVec.toNat_and, ofInt_toNat hx hx1, ofInt_toNat hy hy1]
  apply Int.emod_eq_of_lt (Int.natCast_nonneg _)
  have := Nat.and_lt_two_pow (n := 64) x.toNat (y := y.toNat) (by omega)
  omega

theorem band32 {x : Int} (hx : 0 ≤ x) (hx1 : x < 18446744073709551616) : band .u64 x 4294967295 = x % 4294967296 := by
  rw [band_eq hx hx1 (by omega) (by omega)]
  have : ((4294967295 : Int).toNat) = 2 ^ 32 - 1 := by decide
  rw [this, Nat.and_two_pow_sub_one_eq_mod]
  omega

/-- a multiple of 2^i beside something smaller. -/
theorem or_add {a b i : Nat} (h : b < 2 ^ i) : 2 ^ i * a ||| b = 2 ^ i * a + b := (Nat.two_pow_add_eq_or_of_lt h a).symm

/-! ### Products of 128 bits -/
def mulHi (x y : Int) : Int :=
  let x0 := band .u64 x 4294967295
  let x1 := x / 4294967296
  let y0 := band .u64 y 4294967295
  let y1 := y / 4294967296
  let w0 := wr .u64 (x0 * y0)
  let t := wr .u64 (wr .u64 (x1 * y0) + w0 / 4294967296)
  let w1 := band .u64 t 4294967295
  let w2 := t / 4294967296
  let w1 := wr .u64 (w1 + wr .u64 (x0 * y1))
  wr .u64 (wr .u64 (wr .u64 (x1 * y1) + w2) + w1 / 4294967296)

theorem mul_lt {a b : Int} (ha : 0 ≤ a) (ha1 : a ≤ 4294967295) (hb : 0 ≤ b) (hb1 : b ≤ 4294967295) : 0 ≤ a * b ∧ a * b ≤ 18446744065119617025 := by
  refine ⟨Int.mul_nonneg ha hb, ?_⟩
  have h1 : a * b ≤ 4294967295 * b := Int.mul_le_mul_of_nonneg_right ha1 hb
  omega

theorem mulHi_eq {x y : Int} (hx : 0 ≤ x) (hx1 : x < 18446744073709551616) (hy : 0 ≤ y) (hy1 : y < 18446744073709551616) : mulHi x y = x * y / 18446744073709551616 := by
  unfold mulHi
  rw [band32 hx hx1, band32 hy hy1]
  simp only [wr_u64]
  have ex : x = x / 4294967296 * 4294967296 + x % 4294967296 := by omega
  have ey : y = y / 4294967296 * 4294967296 + y % 4294967296 := by omega
  have a0 : 0 ≤ x % 4294967296 ∧ x % 4294967296 ≤ 4294967295 := by omega
  have a1 : 0 ≤ x / 4294967296 ∧ x / 4294967296 ≤ 4294967295 := by omega
  have b0 : 0 ≤ y % 4294967296 ∧ y % 4294967296 ≤ 4294967295 := by omega
  have b1 : 0 ≤ y / 4294967296 ∧ y / 4294967296 ≤ 4294967295 := by omega
  generalize x % 4294967296 = x0 at *
  generalize x / 4294967296 = x1 at *
  generalize y % 4294967296 = y0 at *
  generalize y / 4294967296 = y1 at *
  have e : x * y = x1 * y1 * 18446744073709551616 + (x1 * y0 + x0 * y1) * 4294967296 + x0 * y0 := by
    rw [ex, ey]
    simp only [Int.add_mul, Int.mul_add]
    have e1 : x1 * 4294967296 * (y1 * 4294967296) = x1 * y1 * 18446744073709551616 := by
      rw [Int.mul_assoc, Int.mul_left_comm 4294967296 y1 4294967296, ← Int.mul_assoc]; rfl
    have e2 : x0 * (y1 * 4294967296) = x0 * y1 * 4294967296 := by rw [Int.mul_assoc]
    have e3 : x1 * 4294967296 * y0 = x1 * y0 * 4294967296 := by rw [Int.mul_right_comm]
    rw [e1, e2, e3]
    omega
  rw [e]
  have p00 := mul_lt a0.1 a0.2 b0.1 b0.2
  have p01 := mul_lt a0.1 a0.2 b1.1 b1.2
  have p10 := mul_lt a1.1 a1.2 b0.1 b0.2
  have p11 := mul_lt a1.1 a1.2 b1.1 b1.2
  generalize x0 * y0 = q00 at *
  generalize x0 * y1 = q01 at *
  generalize x1 * y0 = q10 at *
  generalize x1 * y1 = q11 at *
  have t1 : q00 % 18446744073709551616 = q00 := by omega
  have t2 : q10 % 18446744073709551616 = q10 := by omega
  have t3 : q01 % 18446744073709551616 = q01 := by omega
  have t4 : q11 % 18446744073709551616 = q11 := by omega
  rw [t1, t2, t3, t4]
  have t5 : (q10 + q00 / 4294967296) % 18446744073709551616 = q10 + q00 / 4294967296 := by omega
  rw [t5, band32 (by omega) (by omega)]
  omega

/-! ### Knuth's digit -/
section
variable {ρ : Type}
def kn (yn1 yn0 un : Int) (K : Int → Int → Option ρ) : Nat → Int → Int → Option ρ
  | 0, q, r => bif (bif decide (q ≥ 4294967296) then true else decide (wr .u64 (q * yn0) > wr .u64 (wr .u64 (4294967296 * r) + un))) then (bif decide (wr .u64 (r + yn1) ≥ 4294967296) then none else none) else K q r
  | k + 1, q, r =>
    bif (bif decide (q ≥ 4294967296) then true else decide (wr .u64 (q * yn0) > wr .u64 (wr .u64 (4294967296 * r) + un))) then
      bif decide (wr .u64 (r + yn1) ≥ 4294967296) then K (wr .u64 (q - 1)) (wr .u64 (r + yn1)) else kn yn1 yn0 un K k (wr .u64 (q - 1)) (wr .u64 (r + yn1))
    else K q r

theorem digit {u y yn1 yn0 q r : Int} (hy : y = yn1 * 4294967296 + yn0) (hr : q * yn1 + r = u) :
    q * y = u * 4294967296 - r * 4294967296 + q * yn0 := by
  subst hy; subst hr
  rw [Int.mul_add, Int.add_mul, ← Int.mul_assoc]
  omega

/-- q * yn0 is a word where q is at most 2^32 + 1. -/
theorem qy_bound {q yn0 : Int} (hq0 : 0 ≤ q) (hq : q ≤ 4294967297) (h0 : 0 ≤ yn0) (h1 : yn0 ≤ 4294967295) : 0 ≤ q * yn0 ∧ q * yn0 ≤ 18446744073709551615 := by
  refine ⟨Int.mul_nonneg hq0 h0, ?_⟩
  have h2 : q * yn0 ≤ 4294967297 * yn0 := Int.mul_le_mul_of_nonneg_right hq h0
  omega

def knTest (yn0 un q r : Int) : Bool := bif decide (q ≥ 4294967296) then true else decide (wr .u64 (q * yn0) > wr .u64 (wr .u64 (4294967296 * r) + un))

theorem kn_step {y yn1 yn0 u d Q q r : Int} (hy : y = yn1 * 4294967296 + yn0) (h1 : 2147483648 ≤ yn1) (h0 : 0 ≤ yn0) (h0' : yn0 < 4294967296)
    (hd : 0 ≤ d) (hd' : d < 4294967296) (hQ0 : 0 ≤ Q) (hQ : Q * y ≤ u * 4294967296 + d) (hQ' : u * 4294967296 + d < Q * y + y) (huy : u < y)
    (hq : q * yn1 + r = u) (hqQ : Q ≤ q) (hr : 0 ≤ r) (hr' : r < 4294967296) (hq1 : q ≤ 4294967297) :
    (knTest yn0 d q r = false → q = Q) ∧ (knTest yn0 d q r = true → Q ≤ q - 1) := by
  have hdg := digit (u := u) hy hq
  have hyp : 0 < y := by omega
  have hqb := qy_bound (q := q) (by omega) hq1 h0 (by omega)
  have w1 : wr .u64 (q * yn0) = q * yn0 := by rw [wr_u64]; omega
  have w2 : wr .u64 (4294967296 * r) = 4294967296 * r := by rw [wr_u64]; omega
  have w3 : wr .u64 (4294967296 * r + d) = 4294967296 * r + d := by rw [wr_u64]; omega
  have up : Q + 1 ≤ q → Q * y + y ≤ q * y := fun h => by
    have := Int.mul_le_mul_of_nonneg_right h (Int.le_of_lt hyp)
    rw [Int.add_mul, Int.one_mul] at this; exact this
  have QB : Q < 4294967296 := by
    apply Int.lt_of_not_ge
    intro h
    have := Int.mul_le_mul_of_nonneg_right h (Int.le_of_lt hyp)
    omega
  unfold knTest
  rw [w1, w2, w3]
  constructor
  · intro ht
    by_cases h : q ≥ 4294967296
    · simp [h] at ht
    · rw [decide_eq_false h] at ht
      simp only [cond_false, decide_eq_false_iff_not] at ht
      by_cases hlt : Q + 1 ≤ q
      · have := up hlt; omega
      · omega
  · intro ht
    by_cases e : q = Q
    · exfalso
      subst e
      have h : ¬ q ≥ 4294967296 := by omega
      rw [decide_eq_false h] at ht
      simp only [cond_false, decide_eq_true_eq] at ht
      omega
    · omega

theorem kn_break {y yn1 yn0 u d Q q r : Int} (hy : y = yn1 * 4294967296 + yn0) (h1 : 2147483648 ≤ yn1) (h0 : 0 ≤ yn0) (h0' : yn0 < 4294967296)
    (hd : 0 ≤ d) (hQ' : u * 4294967296 + d < Q * y + y)
    (hq : q * yn1 + r = u) (hqQ : Q ≤ q) (hr : 4294967296 ≤ r) (hq1 : q ≤ 4294967296) : q = Q := by
  have hdg := digit (u := u) hy hq
  have hyp : 0 < y := by omega
  have h2 : q * yn0 ≤ 4294967296 * yn0 := Int.mul_le_mul_of_nonneg_right hq1 h0
  by_cases hlt : Q + 1 ≤ q
  · have := Int.mul_le_mul_of_nonneg_right hlt (Int.le_of_lt hyp)
    rw [Int.add_mul, Int.one_mul] at this
    omega
  · omega

/-- The quotient Q is reached from the guess. -/
theorem kn_eq {y yn1 yn0 u d Q q r : Int} (hy : y = yn1 * 4294967296 + yn0) (h1 : 2147483648 ≤ yn1) (h1' : yn1 < 4294967296) (h0 : 0 ≤ yn0) (h0' : yn0 < 4294967296)
    (hd : 0 ≤ d) (hd' : d < 4294967296) (hQ0 : 0 ≤ Q) (hQ : Q * y ≤ u * 4294967296 + d) (hQ' : u * 4294967296 + d < Q * y + y) (huy : u < y)
    (hq : q * yn1 + r = u) (hqQ : Q ≤ q) (hr : 0 ≤ r) (hr' : r < 4294967296) (hq1 : q ≤ 4294967297) (K : Int → Int → Option ρ) (k : Nat) : ∃ r', kn yn1 yn0 d K (k + 2) q r = K Q r' := by
  have s1 := kn_step hy h1 h0 h0' hd hd' hQ0 hQ hQ' huy hq hqQ hr hr' hq1
  simp only [kn]
  change ∃ r', (bif knTest yn0 d q r then _ else _) = _
  cases ht : knTest yn0 d q r with
  | false => exact ⟨r, by rw [s1.1 ht]; rfl⟩
  | true =>
    have hq2 := s1.2 ht
    have w1 : wr .u64 (q - 1) = q - 1 := by rw [wr_u64]; omega
    have w2 : wr .u64 (r + yn1) = r + yn1 := by rw [wr_u64]; omega
    have e1 : (q - 1) * yn1 + (r + yn1) = u := by rw [Int.sub_mul]; omega
    simp only [cond_true, w1, w2]
    by_cases hb : r + yn1 ≥ 4294967296
    · rw [decide_eq_true hb]
      refine ⟨r + yn1, ?_⟩
      rw [kn_break hy h1 h0 h0' hd hQ' e1 hq2 hb (by omega)]; rfl
    · rw [decide_eq_false hb]
      simp only [cond_false]
      have s2 := kn_step hy h1 h0 h0' hd hd' hQ0 hQ hQ' huy e1 hq2 (by omega) (by omega) (by omega)
      change ∃ r', (bif knTest yn0 d (q - 1) (r + yn1) then _ else _) = _
      cases ht2 : knTest yn0 d (q - 1) (r + yn1) with
      | false => exact ⟨r + yn1, by rw [s2.1 ht2]; rfl⟩
      | true =>
        have hq3 := s2.2 ht2
        have w3 : wr .u64 (q - 1 - 1) = q - 1 - 1 := by rw [wr_u64]; omega
        have w4 : wr .u64 (r + yn1 + yn1) = r + yn1 + yn1 := by rw [wr_u64]; omega
        have e2 : (q - 1 - 1) * yn1 + (r + yn1 + yn1) = u := by rw [Int.sub_mul]; omega
        simp only [cond_true, w3, w4]
        have hb2 : r + yn1 + yn1 ≥ 4294967296 := by omega
        rw [decide_eq_true hb2]
        refine ⟨r + yn1 + yn1, ?_⟩
        rw [kn_break hy h1 h0 h0' hd hQ' e2 hq3 hb2 (by omega)]; rfl

/-- A guess: it is above by so little. -/
theorem guess {y yn1 yn0 u d Q : Int} (hy : y = yn1 * 4294967296 + yn0) (h1 : 2147483648 ≤ yn1) (h0 : 0 ≤ yn0) (h0' : yn0 < 4294967296)
    (hd' : d < 4294967296) (hQ : Q * y ≤ u * 4294967296 + d) (hQ0 : 0 ≤ Q) (hu : 0 ≤ u) (huy : u < y) :
    u / yn1 * yn1 + u % yn1 = u ∧ Q ≤ u / yn1 ∧ 0 ≤ u % yn1 ∧ u % yn1 < yn1 ∧ u / yn1 ≤ 4294967297 := by
  have hp : 0 < yn1 := by omega
  refine ⟨?_, ?_, Int.emod_nonneg _ (by omega), Int.emod_lt_of_pos _ hp, ?_⟩
  · have := Int.emod_add_mul_ediv u yn1; rw [Int.mul_comm] at this; omega
  · rw [Int.le_ediv_iff_mul_le hp]
    have e : Q * y = Q * yn1 * 4294967296 + Q * yn0 := by rw [hy, Int.mul_add, ← Int.mul_assoc]
    have : 0 ≤ Q * yn0 := Int.mul_nonneg hQ0 h0
    omega
  · have : u / yn1 < 4294967298 := by
      rw [Int.ediv_lt_iff_lt_mul hp]
      have : (4294967298 : Int) * yn1 = yn1 * 4294967296 + 2 * yn1 := by omega
      omega
    omega

/-! ### How many bits -/
def lenTab : ByteArray := ⟨(([0, 1, 2, 2, 3, 3, 3, 3, 4, 4, 4, 4, 4, 4, 4, 4] : List UInt8) ++ List.replicate 16 5 ++ List.replicate 32 6 ++ List.replicate 64 7 ++ List.replicate 128 8).toArray⟩
def lenI (x : Int) : Int :=
  let c := decide (x ≥ 4294967296)
  let n := bif c then 32 else 0
  let x := bif c then x / 4294967296 else x
  let c := decide (x ≥ 65536)
  let n := bif c then wr .i64 (n + 16) else n
  let x := bif c then x / 65536 else x
  let c := decide (x ≥ 256)
  let n := bif c then wr .i64 (n + 8) else n
  let x := bif c then x / 256 else x
  let i := wr .u8 x
  wr .i64 (n + wr .i64 ((lenTab.data.getD i.toNat 0).toNat : Int))

theorem tab_ok : ∀ i : Fin 256, i.val ≠ 0 → 2 ^ ((lenTab.data.getD i.val 0).toNat - 1) ≤ i.val ∧ i.val < 2 ^ (lenTab.data.getD i.val 0).toNat ∧ 1 ≤ (lenTab.data.getD i.val 0).toNat ∧ (lenTab.data.getD i.val 0).toNat ≤ 8 := by decide +kernel

/-- The number of bits of x: k and those of what is left of x behind k bits. -/
theorem bits_of {x k t : Nat} (h1 : 2 ^ (t - 1) ≤ x / 2 ^ k) (h2 : x / 2 ^ k < 2 ^ t) (ht : 1 ≤ t) : 2 ^ (k + t - 1) ≤ x ∧ x < 2 ^ (k + t) := by
  have hp : 0 < 2 ^ k := Nat.two_pow_pos k
  constructor
  · have := (Nat.le_div_iff_mul_le hp).1 h1
    rw [← Nat.pow_add] at this
    rw [show k + t - 1 = t - 1 + k by omega]; exact this
  · have := (Nat.div_lt_iff_lt_mul hp).1 h2
    rw [← Nat.pow_add] at this
    rw [show k + t = t + k by omega]; exact this

/-- One halving of what is to be counted. -/
theorem len_step {x n z B : Int} {k b : Nat} (hB : ((2 ^ b : Nat) : Int) = B) (hb : b ≤ 32) (hk : k ≤ 64) (hz : z = x / ((2 ^ k : Nat) : Int)) (hn : n = k) (h1 : 1 ≤ z) (h2 : z < B * B) :
    ∃ k' : Nat, k' ≤ k + b ∧ (bif decide (z ≥ B) then wr .i64 (n + b) else n) = (k' : Int) ∧ (bif decide (z ≥ B) then z / B else z) = x / ((2 ^ k' : Nat) : Int) ∧
      1 ≤ (bif decide (z ≥ B) then z / B else z) ∧ (bif decide (z ≥ B) then z / B else z) < B := by
  have hBp : 0 < B := by rw [← hB]; exact Int.natCast_pos.2 (Nat.two_pow_pos b)
  by_cases c : z ≥ B
  · refine ⟨k + b, Nat.le_refl _, ?_, ?_, ?_, ?_⟩
    · rw [decide_eq_true c, hn, cond_true, w64_in (by omega) (by omega)]; omega
    · rw [decide_eq_true c, hz, ← hB]
      simp only [cond_true]
      rw [Int.ediv_ediv_of_nonneg (Int.natCast_nonneg _), Nat.pow_add, Int.natCast_mul]
    · rw [decide_eq_true c]; simp only [cond_true]
      rw [Int.le_ediv_iff_mul_le hBp]; omega
    · rw [decide_eq_true c]; simp only [cond_true]
      rw [Int.ediv_lt_iff_lt_mul hBp]; exact h2
  · refine ⟨k, by omega, ?_, ?_, ?_, ?_⟩ <;> rw [decide_eq_false c] <;> simp only [cond_false]
    · exact hn
    · exact hz
    · exact h1
    · omega

theorem len_end {x n z : Int} {k : Nat} (hz : z = x / ((2 ^ k : Nat) : Int)) (hn : n = k) (hk : k ≤ 56) (h0 : 1 ≤ z) (h1 : z < 256) (hx : 0 < x) :
    ∃ s : Nat, wr .i64 (n + wr .i64 ((lenTab.data.getD (wr .u8 z).toNat 0).toNat : Int)) = (s : Int) ∧ 1 ≤ s ∧ s ≤ 64 ∧ 2 ^ (s - 1) ≤ x.toNat ∧ x.toNat < 2 ^ s := by
  have hw : wr .u8 z = z := by show z % 256 = z; omega
  rw [hw]
  have hlt : z.toNat < 256 := by omega
  obtain ⟨t1, t2, t3, t4⟩ := tab_ok ⟨z.toNat, hlt⟩ (by simp; omega)
  simp only at t1 t2 t3 t4
  generalize (lenTab.data.getD z.toNat 0).toNat = t at *
  have hzx : z.toNat = x.toNat / 2 ^ k := by
    rw [hz]
    have e : x / ((2 ^ k : Nat) : Int) = ((x.toNat / 2 ^ k : Nat) : Int) := by
      rw [Int.natCast_ediv, Int.toNat_of_nonneg (Int.le_of_lt hx)]
    rw [e]; rfl
  rw [hzx] at t1 t2
  obtain ⟨b1, b2⟩ := bits_of t1 t2 t3
  refine ⟨k + t, ?_, by omega, by omega, b1, b2⟩
  rw [hn, w64_in (n := (t : Int)) (by omega) (by omega), w64_in (by omega) (by omega)]
  omega

theorem lenI_ok {x : Int} (h0 : 0 < x) (h1 : x < 18446744073709551616) : ∃ s : Nat, lenI x = (s : Int) ∧ 1 ≤ s ∧ s ≤ 64 ∧ 2 ^ (s - 1) ≤ x.toNat ∧ x.toNat < 2 ^ s := by
  unfold lenI
  dsimp only
  obtain ⟨k1, a1, a2, a3, a4, a5⟩ := len_step (x := x) (n := 0) (z := x) (B := 4294967296) (k := 0) (b := 32) (by kernel_rfl) (by omega) (by omega) (by simp) rfl (by omega) (by omega)
  have e32 : (bif decide (x ≥ 4294967296) then (32 : Int) else 0) = (bif decide (x ≥ 4294967296) then wr .i64 (0 + ((32 : Nat) : Int)) else 0) := by
    cases decide (x ≥ 4294967296) <;> rfl
  rw [e32, a2]
  generalize (bif decide (x ≥ 4294967296) then x / 4294967296 else x) = z1 at *
  obtain ⟨k2, b1, b2, b3, b4, b5⟩ := len_step (x := x) (n := k1) (z := z1) (B := 65536) (k := k1) (b := 16) (by kernel_rfl) (by omega) (by omega) a3 rfl a4 (by omega)
  rw [show ((16 : Int)) = ((16 : Nat) : Int) from rfl, b2]
  generalize (bif decide (z1 ≥ 65536) then z1 / 65536 else z1) = z2 at *
  obtain ⟨k3, c1, c2, c3, c4, c5⟩ := len_step (x := x) (n := k2) (z := z2) (B := 256) (k := k2) (b := 8) (by kernel_rfl) (by omega) (by omega) b3 rfl b4 (by omega)
  rw [show ((8 : Int)) = ((8 : Nat) : Int) from rfl, c2]
  generalize (bif decide (z2 ≥ 256) then z2 / 256 else z2) = z3 at *
  exact len_end c3 rfl (by omega) c4 c5 h0

/-! ### A quotient of 128 bits by 64 -/
def lzI (x : Int) : Int := wr .i64 (64 - lenI x)
def in64 (x : Int) : Bool := decide (0 ≤ x) && decide (x < 18446744073709551616)
def sft (left : Bool) (x y : Int) (K : Int → Option ρ) : Option ρ :=
  bif decide (y < 0) then none else bif left then K (wr .u64 (x * p2 (min y.toNat 64))) else K (x / p2 (min y.toNat 64))
def qt (x y : Int) (K : Int → Option ρ) : Option ρ := bif y == 0 then none else K (wr .u64 (x.tdiv y))
def divRaw (lz : Int → Int) (k1 k2 : Nat) (hi lo y : Int) (K : Int → Int → Option ρ) : Option ρ :=
  bif y == 0 then none else bif decide (y ≤ hi) then none else
  bif hi == 0 then bif y == 0 then none else bif y == 0 then none else K (wr .u64 (lo.tdiv y)) (lo.tmod y) else
  bif in64 y then
    let s := wr .u64 (lz y)
    sft true y s fun y =>
    let yn1 := y / 4294967296
    let yn0 := band .u64 y 4294967295
    sft true hi s fun a =>
    sft false lo (wr .u64 (64 - s)) fun b =>
    let un32 := bor .u64 a b
    sft true lo s fun un10 =>
    let un1 := un10 / 4294967296
    let un0 := band .u64 un10 4294967295
    qt un32 yn1 fun q1 =>
    kn yn1 yn0 un1 (fun q1 _ =>
      let un21 := wr .u64 (wr .u64 (wr .u64 (un32 * 4294967296) + un1) - wr .u64 (q1 * y))
      qt un21 yn1 fun q0 =>
      kn yn1 yn0 un0 (fun q0 _ => sft false (wr .u64 (wr .u64 (wr .u64 (un21 * 4294967296) + un0) - wr .u64 (q0 * y))) s fun r => K (wr .u64 (wr .u64 (q1 * 4294967296) + q0)) r)
        k2 q0 (wr .u64 (un21 - wr .u64 (q0 * yn1)))) k1 q1 (wr .u64 (un32 - wr .u64 (q1 * yn1)))
  else none

end
#print axioms mulHi_eq
end Go.Proofs.Ytcagaaaibhifdaa.Fx

/- The library's quotient of 128 bits by 64, as the machine reckons it, is the quotient. Conditions: the quotient is a word. -/
namespace Go.Proofs.Ytcagaaaibhifdaa.Fx
open Go Go.Proofs.Ytcagaaaibhifdaa.Ae
section
variable {ρ : Type}

theorem p2_pos (n : Nat) : 0 < p2 n := Int.natCast_pos.2 (Nat.two_pow_pos n)
theorem p2_add (a b : Nat) : p2 (a + b) = p2 a * p2 b := by unfold p2; rw [Nat.pow_add, Int.natCast_mul]
theorem p2_64 : p2 64 = 18446744073709551616 := by kernel_rfl
theorem p2_63 : p2 63 = 9223372036854775808 := by kernel_rfl

theorem sft_left {x : Int} {S : Nat} (hS : S ≤ 64) (h0 : 0 ≤ x * p2 S) (h1 : x * p2 S < 18446744073709551616) (K : Int → Option ρ) : sft true x (S : Int) K = K (x * p2 S) := by
  unfold sft
  rw [decide_eq_false (by omega)]
  simp only [cond_false, cond_true]
  rw [show min ((S : Int)).toNat 64 = S by omega, wu64_in h0 h1]
theorem sft_left' {x : Int} {S : Nat} (hS : S ≤ 64) (K : Int → Option ρ) : sft true x (S : Int) K = K (x * p2 S % 18446744073709551616) := by
  unfold sft
  rw [decide_eq_false (by omega)]
  simp only [cond_false, cond_true]
  rw [show min ((S : Int)).toNat 64 = S by omega, wr_u64]
theorem sft_right {x : Int} {S : Nat} (hS : S ≤ 64) (K : Int → Option ρ) : sft false x (S : Int) K = K (x / p2 S) := by
  unfold sft
  rw [decide_eq_false (by omega)]
  simp only [cond_false]
  rw [show min ((S : Int)).toNat 64 = S by omega]
theorem qt_eq {x y : Int} (hx : 0 ≤ x) (hx1 : x < 18446744073709551616) (hy : 0 < y) (K : Int → Option ρ) : qt x y K = K (x / y) := by
  unfold qt
  have : (y == 0) = false := by simp; omega
  rw [this]
  simp only [cond_false]
  rw [Int.tdiv_eq_ediv_of_nonneg hx]
  have h1 : 0 ≤ x / y := Int.ediv_nonneg hx (Int.le_of_lt hy)
  have h2 : x / y ≤ x := Int.ediv_le_self y hx
  rw [wu64_in h1 (by omega)]

/-- One digit of the quotient. -/
theorem one_digit {y u d : Int} (hy : 9223372036854775808 ≤ y) (hy1 : y < 18446744073709551616) (hd : 0 ≤ d) (hd' : d < 4294967296) (hu : 0 ≤ u) (huy : u < y) (K : Int → Option ρ) (k : Nat) :
    qt u (y / 4294967296) (fun q => kn (y / 4294967296) (band .u64 y 4294967295) d (fun q _ => K q) (k + 2) q (wr .u64 (u - wr .u64 (q * (y / 4294967296))))) = K ((u * 4294967296 + d) / y) := by
  have hyp : 0 < y := by omega
  rw [qt_eq hu (by omega) (by omega), band32 (by omega) hy1]
  have hsplit : y = y / 4294967296 * 4294967296 + y % 4294967296 := by omega
  have hm := Int.emod_add_mul_ediv (u * 4294967296 + d) y
  have hr0 := Int.emod_nonneg (u * 4294967296 + d) (show y ≠ 0 by omega)
  have hr1 := Int.emod_lt_of_pos (u * 4294967296 + d) hyp
  rw [Int.mul_comm y] at hm
  have hQ0 : 0 ≤ (u * 4294967296 + d) / y := Int.ediv_nonneg (by omega) (by omega)
  obtain ⟨g1, g2, g3, g4, g5⟩ := guess (u := u) (d := d) (Q := (u * 4294967296 + d) / y) hsplit (by omega) (by omega) (by omega) hd' (by omega) hQ0 hu huy
  have hqy : 0 ≤ u / (y / 4294967296) * (y / 4294967296) := Int.mul_nonneg (Int.ediv_nonneg hu (by omega)) (by omega)
  have w1 : wr .u64 (u / (y / 4294967296) * (y / 4294967296)) = u / (y / 4294967296) * (y / 4294967296) := wu64_in hqy (by omega)
  have w2 : wr .u64 (u - u / (y / 4294967296) * (y / 4294967296)) = u % (y / 4294967296) := by rw [wu64_in (by omega) (by omega)]; omega
  rw [w1, w2]
  obtain ⟨r', hr'⟩ := kn_eq (u := u) (d := d) (Q := (u * 4294967296 + d) / y) hsplit (by omega) (by omega) (by omega) (by omega) hd hd' hQ0 (by omega) (by omega) huy g1 g2 g3 (by omega) g5 (fun q _ => K q) k
  rw [hr']

/-- What is left behind a digit. -/
theorem left_digit {y u d : Int} (hy : 0 < y) (hy1 : y < 18446744073709551616) :
    wr .u64 (wr .u64 (wr .u64 (u * 4294967296) + d) - wr .u64 ((u * 4294967296 + d) / y * y)) = (u * 4294967296 + d) % y := by
  have hm := Int.emod_add_mul_ediv (u * 4294967296 + d) y
  have hr0 := Int.emod_nonneg (u * 4294967296 + d) (show y ≠ 0 by omega)
  have hr1 := Int.emod_lt_of_pos (u * 4294967296 + d) hy
  rw [Int.mul_comm y] at hm
  simp only [wr_u64]
  generalize (u * 4294967296 + d) / y * y = p at *
  generalize (u * 4294967296 + d) % y = r at *
  omega

theorem digit_lt {y u d : Int} (hy : 0 < y) (hd' : d < 4294967296) (huy : u < y) : (u * 4294967296 + d) / y < 4294967296 := by
  rw [Int.ediv_lt_iff_lt_mul hy]; omega

theorem divRaw_eq {hi lo y : Int} (h0 : 0 ≤ hi) (h1 : hi < y) (hy1 : y < 18446744073709551616) (l0 : 0 ≤ lo) (l1 : lo < 18446744073709551616) (K : Int → Int → Option ρ) :
    divRaw lzI 6 2 hi lo y K = K ((hi * 18446744073709551616 + lo) / y) ((hi * 18446744073709551616 + lo) % y) := by
  have hyp : 0 < y := by omega
  unfold divRaw
  have e0 : (y == 0) = false := by simp; omega
  rw [e0, decide_eq_false (by omega : ¬ y ≤ hi)]
  simp only [cond_false]
  by_cases hz : hi = 0
  · subst hz
    simp only [BEq.rfl, cond_true]
    rw [Int.tdiv_eq_ediv_of_nonneg l0, Int.tmod_eq_emod_of_nonneg l0]
    have a1 : 0 ≤ lo / y := Int.ediv_nonneg l0 (by omega)
    have a2 : lo / y ≤ lo := Int.ediv_le_self y l0
    rw [wu64_in a1 (by omega)]
    simp
  · have e1 : (hi == 0) = false := by simp; exact hz
    have e2 : in64 y = true := by unfold in64; simp; omega
    rw [e1, e2]
    simp only [cond_false, cond_true]
    obtain ⟨t, ht, t1, t2, t3, t4⟩ := lenI_ok hyp hy1
    have hs : wr .u64 (lzI y) = ((64 - t : Nat) : Int) := by
      unfold lzI
      rw [ht, w64_in (by omega) (by omega), wu64_in (by omega) (by omega)]; omega
    rw [hs]
    have hs2 : wr .u64 (64 - ((64 - t : Nat) : Int)) = (t : Int) := by rw [wu64_in (by omega) (by omega)]; omega
    generalize hSe : 64 - t = S at *
    have hP := p2_pos S
    have hPc := p2_pos t
    have hPP : p2 S * p2 t = 18446744073709551616 := by rw [← p2_add, show S + t = 64 by omega, p2_64]
    have hPP2 : p2 S * p2 (t - 1) = 9223372036854775808 := by rw [← p2_add, show S + (t - 1) = 63 by omega, p2_63]
    have hylo : p2 (t - 1) ≤ y := by unfold p2; omega
    have hyhi : y < p2 t := by unfold p2; omega
    generalize p2 (t - 1) = P1 at *
    have hYlo : 9223372036854775808 ≤ y * p2 S := by
      have := Int.mul_le_mul_of_nonneg_right hylo (Int.le_of_lt hP)
      rw [Int.mul_comm P1] at this; omega
    have hYhi : y * p2 S < 18446744073709551616 := by
      have := Int.mul_lt_mul_of_pos_right hyhi hP
      rw [Int.mul_comm (p2 t)] at this; omega
    rw [sft_left (by omega) (by omega) hYhi]
    have haY : hi * p2 S ≤ y * p2 S - p2 S := by
      have := Int.mul_le_mul_of_nonneg_right (show hi ≤ y - 1 by omega) (Int.le_of_lt hP)
      rw [Int.sub_mul, Int.one_mul] at this; exact this
    have ha0 : 0 ≤ hi * p2 S := Int.mul_nonneg h0 (Int.le_of_lt hP)
    rw [sft_left (by omega) ha0 (by omega), hs2, sft_right (by omega)]
    have hb0 : 0 ≤ lo / p2 t := Int.ediv_nonneg l0 (Int.le_of_lt hPc)
    have hb1 : lo / p2 t < p2 S := by rw [Int.ediv_lt_iff_lt_mul hPc, hPP]; exact l1
    have hor : bor .u64 (hi * p2 S) (lo / p2 t) = hi * p2 S + lo / p2 t := by
      rw [bor_eq ha0 (by omega) hb0 (by omega)]
      have x1 : (hi * p2 S).toNat = 2 ^ S * hi.toNat := by
        obtain ⟨n, hn⟩ := Int.eq_ofNat_of_zero_le h0
        rw [hn]
        show ((n : Int) * ((2 ^ S : Nat) : Int)).toNat = 2 ^ S * ((n : Int)).toNat
        rw [← Int.natCast_mul, Int.toNat_natCast, Int.toNat_natCast, Nat.mul_comm]
      rw [x1, or_add ((Int.toNat_lt hb0).2 hb1), ← x1]
      omega
    rw [hor, sft_left' (by omega)]
    have hdiv : lo * p2 S / 18446744073709551616 = lo / p2 t := by
      rw [← hPP, Int.mul_comm lo, Int.mul_ediv_mul_of_pos _ _ hP]
    have hsum : (hi * p2 S + lo / p2 t) * 18446744073709551616 + lo * p2 S % 18446744073709551616 = (hi * 18446744073709551616 + lo) * p2 S := by
      have := Int.emod_add_mul_ediv (lo * p2 S) 18446744073709551616
      rw [hdiv] at this
      have e3 : hi * 18446744073709551616 * p2 S = hi * p2 S * 18446744073709551616 := Int.mul_right_comm _ _ _
      rw [Int.add_mul, Int.add_mul, e3]; omega
    have hl0 : 0 ≤ lo * p2 S % 18446744073709551616 := Int.emod_nonneg _ (by omega)
    have hl1 : lo * p2 S % 18446744073709551616 < 18446744073709551616 := Int.emod_lt_of_pos _ (by omega)
    generalize hu : hi * p2 S + lo / p2 t = u at *
    generalize lo * p2 S % 18446744073709551616 = v at *
    generalize hY : y * p2 S = Y at *
    have huY : u < Y := by omega
    have hu0 : 0 ≤ u := by omega
    rw [band32 (x := v) hl0 hl1]
    have d1 : 0 ≤ v / 4294967296 ∧ v / 4294967296 < 4294967296 := by omega
    have d0 : 0 ≤ v % 4294967296 ∧ v % 4294967296 < 4294967296 := by omega
    have hv : v = v / 4294967296 * 4294967296 + v % 4294967296 := by omega
    generalize v / 4294967296 = v1 at *
    generalize v % 4294967296 = v0 at *
    have key1 := one_digit (ρ := ρ) hYlo hYhi d1.1 d1.2 hu0 huY (fun q1 =>
      qt (wr .u64 (wr .u64 (wr .u64 (u * 4294967296) + v1) - wr .u64 (q1 * Y))) (Y / 4294967296) fun q0 =>
      kn (Y / 4294967296) (band .u64 Y 4294967295) v0 (fun q0 _ => sft false (wr .u64 (wr .u64 (wr .u64 (wr .u64 (wr .u64 (wr .u64 (u * 4294967296) + v1) - wr .u64 (q1 * Y)) * 4294967296) + v0) - wr .u64 (q0 * Y))) (S : Int) fun r => K (wr .u64 (wr .u64 (q1 * 4294967296) + q0)) r)
        2 q0 (wr .u64 (wr .u64 (wr .u64 (wr .u64 (u * 4294967296) + v1) - wr .u64 (q1 * Y)) - wr .u64 (q0 * (Y / 4294967296))))) 4
    refine Eq.trans key1 ?_
    rw [left_digit (by omega) hYhi]
    have hm1 := Int.emod_add_mul_ediv (u * 4294967296 + v1) Y
    have hr0 := Int.emod_nonneg (u * 4294967296 + v1) (show Y ≠ 0 by omega)
    have hr1 := Int.emod_lt_of_pos (u * 4294967296 + v1) (show 0 < Y by omega)
    have hq1 := digit_lt (y := Y) (u := u) (d := v1) (by omega) d1.2 huY
    have hq10 : 0 ≤ (u * 4294967296 + v1) / Y := Int.ediv_nonneg (by omega) (by omega)
    generalize hu2 : (u * 4294967296 + v1) % Y = u2 at *
    generalize (u * 4294967296 + v1) / Y = Q1 at *
    refine Eq.trans (one_digit (ρ := ρ) hYlo hYhi d0.1 d0.2 hr0 hr1 (fun q0 => sft false (wr .u64 (wr .u64 (wr .u64 (u2 * 4294967296) + v0) - wr .u64 (q0 * Y))) (S : Int) fun r => K (wr .u64 (wr .u64 (Q1 * 4294967296) + q0)) r) 0) ?_
    rw [left_digit (by omega) hYhi, sft_right (by omega)]
    have hm2 := Int.emod_add_mul_ediv (u2 * 4294967296 + v0) Y
    have hr20 := Int.emod_nonneg (u2 * 4294967296 + v0) (show Y ≠ 0 by omega)
    have hr21 := Int.emod_lt_of_pos (u2 * 4294967296 + v0) (show 0 < Y by omega)
    have hq0 := digit_lt (y := Y) (u := u2) (d := v0) (by omega) d0.2 hr1
    have hq00 : 0 ≤ (u2 * 4294967296 + v0) / Y := Int.ediv_nonneg (by omega) (by omega)
    generalize (u2 * 4294967296 + v0) % Y = R at *
    generalize (u2 * 4294967296 + v0) / Y = Q0 at *
    rw [wu64_in (n := Q1 * 4294967296) (by omega) (by omega), wu64_in (by omega) (by omega)]
    -- the whole
    have eQ : Y * (Q1 * 4294967296 + Q0) = Y * Q1 * 4294967296 + Y * Q0 := by rw [Int.mul_add, ← Int.mul_assoc]
    have whole : (hi * 18446744073709551616 + lo) * p2 S = Y * (Q1 * 4294967296 + Q0) + R := by
      rw [← hsum, eQ]; omega
    generalize Q1 * 4294967296 + Q0 = Q at *
    generalize hi * 18446744073709551616 + lo = N at *
    have hR : R = (N - y * Q) * p2 S := by
      rw [Int.sub_mul]
      have : Y * Q = y * Q * p2 S := by rw [← hY, Int.mul_right_comm]
      omega
    have hRd : R / p2 S = N - y * Q := by rw [hR]; exact Int.mul_ediv_cancel _ (by omega)
    have hN0 : 0 ≤ N - y * Q := by rw [← hRd]; exact Int.ediv_nonneg hr20 (by omega)
    have hN1 : N - y * Q < y := by
      rw [← hRd, Int.ediv_lt_iff_lt_mul hP, hY]; exact hr21
    have hNQ : N / y = Q := by
      rw [Int.ediv_eq_iff_of_pos hyp]
      constructor
      · rw [Int.mul_comm]; omega
      · rw [Int.mul_comm Q]; omega
    have hNr : N % y = N - y * Q := by
      have := Int.emod_add_mul_ediv N y
      rw [hNQ] at this; omega
    rw [hRd, hNQ, hNr]

end
#print axioms divRaw_eq
end Go.Proofs.Ytcagaaaibhifdaa.Fx

/- What the methods of a flow come to, in plain numbers. Conditions: none. -/
namespace Go.Proofs.Ytcagaaaibhifdaa.Fx
open Go Go.Proofs.Ytcagaaaibhifdaa.Ae

/-- Choices that are made (not by rfl: so that the kernel need not compare the ways). -/
theorem bt {α : Type} (a b : α) : (bif true then a else b) = a := by simp only [cond_true]
theorem bf {α : Type} (a b : α) : (bif false then a else b) = b := by simp only [cond_false]

abbrev Most : Int := 4611686018427387904
/-- A number of the flow. -/
def okn (n : Int) : Bool := decide (-4611686018427387904 ≤ n) && decide (n ≤ 4611686018427387904)

/-- An answer, or nothing and a bad flow. -/
def resB (bad : Bool) : Option Int → Int × Bool
  | some r => (r, bad)
  | none => (0, true)
/-- What a method comes to: nothing where the flow is bad or something is no number, or where o is none. -/
def lift (bad : Bool) (l : List Int) (o : Option Int) : Int × Bool :=
  if bad || l.any (fun n => !okn n) then (0, true) else resB false o

/-- Is a b / c below 0 (or a nothing with a sign)? -/
def sgn3 (a b c : Int) : Bool := Bool.xor (decide (a < 0)) (Bool.xor (decide (b < 0)) (decide (c < 0)))
/-- a b / c, to the nearest, halves away from 0. -/
def rat (a b c : Int) : Option Int :=
  if c = 0 then none else
  let r : Nat := (2 * (a.natAbs * b.natAbs) + c.natAbs) / (2 * c.natAbs)
  if r > 4611686018427387904 then none else
  if sgn3 a b c then some (-(r : Int)) else some r

/-- The greatest whose square isn't above, bit by bit. -/
def isqB (N : Nat) : Nat → Nat → Nat
  | 0, r => r
  | k + 1, r => isqB N k (if (r + 2 ^ k) * (r + 2 ^ k) ≤ N then r + 2 ^ k else r)
def isq (N : Nat) : Nat := isqB N 64 0

/-- A size, where it is a number. -/
def upTo (r : Nat) : Option Int := if r > 4611686018427387904 then none else some r
def add (a b : Int) (bad : Bool) : Int × Bool := lift bad [a, b] (if okn (a + b) then some (a + b) else none)
def sub (a b : Int) (bad : Bool) : Int × Bool := lift bad [a, b] (if okn (a - b) then some (a - b) else none)
def mul (a b : Int) (bad : Bool) : Int × Bool := lift bad [a, b] (rat a b 1099511627776)
def div (a b : Int) (bad : Bool) : Int × Bool := lift bad [a, b] (rat a 1099511627776 b)
def part (a p q : Int) (bad : Bool) : Int × Bool := lift bad [a, p, q] (rat a p q)
def sqrt (a : Int) (bad : Bool) : Int × Bool := lift bad [a] (if a < 0 then none else some (isq (a.toNat * 1099511627776)))
def norm (a b c : Int) (bad : Bool) : Int × Bool := lift bad [a, b, c] (upTo (isq (a.natAbs * a.natAbs + b.natAbs * b.natAbs + c.natAbs * c.natAbs)))
def mod (a m : Int) (bad : Bool) : Int × Bool := lift bad [a, m] (if m ≤ 0 then none else some (a % m))

/-! ### Roots -/
theorem isqB_ok (N : Nat) : ∀ (k r : Nat), r * r ≤ N → N < (r + 2 ^ k) * (r + 2 ^ k) → isqB N k r * isqB N k r ≤ N ∧ N < (isqB N k r + 1) * (isqB N k r + 1)
  | 0, r, h1, h2 => by simpa [isqB] using ⟨h1, h2⟩
  | k + 1, r, h1, h2 => by
    unfold isqB
    split
    · rename_i h
      refine isqB_ok N k _ h ?_
      have e : r + 2 ^ k + 2 ^ k = r + 2 ^ (k + 1) := by rw [Nat.pow_succ]; omega
      rw [e]; exact h2
    · rename_i h
      exact isqB_ok N k r h1 (by omega)
theorem isq_ok {N : Nat} (h : N < 2 ^ 128) : isq N * isq N ≤ N ∧ N < (isq N + 1) * (isq N + 1) := by
  refine isqB_ok N 64 0 (by simp) ?_
  have : (0 + 2 ^ 64) * (0 + 2 ^ 64) = 2 ^ 128 := by rw [Nat.zero_add, ← Nat.pow_add]
  rw [this]; exact h
theorem isq_unique {N r s : Nat} (h1 : r * r ≤ N) (h2 : N < (r + 1) * (r + 1)) (h3 : s * s ≤ N) (h4 : N < (s + 1) * (s + 1)) : r = s := by
  rcases Nat.lt_trichotomy r s with h | h | h
  · have : (r + 1) * (r + 1) ≤ s * s := Nat.mul_self_le_mul_self h
    omega
  · exact h
  · have : (s + 1) * (s + 1) ≤ r * r := Nat.mul_self_le_mul_self h
    omega
/-- A search bit by bit, from any bit on that is high enough, comes to the root. -/
theorem isqB_isq {N k r : Nat} (h : N < 2 ^ 128) (h1 : r * r ≤ N) (h2 : N < (r + 2 ^ k) * (r + 2 ^ k)) : isqB N k r = isq N := by
  obtain ⟨a1, a2⟩ := isqB_ok N k r h1 h2
  obtain ⟨b1, b2⟩ := isq_ok h
  exact isq_unique a1 a2 b1 b2

end Go.Proofs.Ytcagaaaibhifdaa.Fx

/- The contracts of the reference's words of 128 bits, as the interpreter finds them. Conditions: none. -/
namespace Go.Proofs.Ytcagaaaibhifdaa.Rx
open Go Go.Proofs.Ytcagaaaibhifdaa.Ae Go.Proofs.Ytcagaaaibhifdaa.Fx

abbrev anyA : List AV → Bool := fun _ => true
def w (h l : Int) : AV := .agg [.int .u64 h, .int .u64 l]

/-! ### add -/
def waH (h1 l1 h2 l2 : Int) : Int := bif decide (wr .u64 (l1 + l2) < l1) then wr .u64 (wr .u64 (h1 + h2) + 1) else wr .u64 (h1 + h2)
def waF (wa : Int → Int → Int → Int → Int) : List AV → Option AV
  | [.agg [.int .u64 h1, .int .u64 l1], .agg [.int .u64 h2, .int .u64 l2]] => some (w (wa h1 l1 h2 l2) (wr .u64 (l1 + l2)))
  | _ => none
theorem wa_ok : PureOk Try.prog 58 anyA (waF waH) := by
  refine pure_of (EnvOk.nil _) 40 _ _ _ ?_
  rintro args v - h
  unfold waF at h
  split at h <;> cases h
  exact ⟨rfl, rfl, by kernel_rfl⟩

/-! ### Times -/
section
variable (wa : Int → Int → Int → Int → Int)
def timesRaw : Nat → Int → Int → Int → Int → Int → Option AV
  | 0, sh, sl, _, _, b => bif decide (b > 0) then none else some (w sh sl)
  | k + 1, sh, sl, th, tl, b =>
    bif decide (b > 0) then
      let c := b.tmod 2 == 1
      timesRaw k (bif c then wa sh sl th tl else sh) (bif c then wr .u64 (sl + tl) else sl) (wa th tl th tl) (wr .u64 (tl + tl)) (wr .u64 (b.tdiv 2))
    else some (w sh sl)
def envT : Env := [(58, .calc (waF wa))]
theorem times_raw (a b : Int) : acall Try.prog (envT wa) 75 59 [.int .u64 a, .int .u64 b] [] (fun v _ => bif v.noPtr then some v else none) = timesRaw wa 65 0 0 0 a b := by kernel_rfl
end

/-! ### Over -/
def overRaw (b lo : Int) : Nat → Int → Int → Int × Int
  | 0, left, q => (left, q)
  | n + 1, left, q =>
    let top := left / 9223372036854775808
    let l1 := bor .u64 (wr .u64 (left * 2)) (band .u64 (lo / p2 (min n 64)) 1)
    let q1 := wr .u64 (q * 2)
    let c := bif top == 1 then true else decide (l1 ≥ b)
    overRaw b lo n (bif c then wr .u64 (l1 - b) else l1) (bif c then wr .u64 (q1 + 1) else q1)
theorem over_raw (h l b : Int) : acall Try.prog [] 90 74 [w h l, .int .u64 b] [] (fun v _ => bif v.noPtr then some v else none) =
    bif (bif b == 0 then true else decide (h ≥ b)) then some (.tup [.int .u64 0, .int .u64 0, .bool false]) else
    some (.tup [.int .u64 (overRaw b l 64 h 0).2, .int .u64 (overRaw b l 64 h 0).1, .bool true]) := by kernel_rfl

/-! ### Rounded, size, number, above -/
section
variable (ok : Int → Int → Int → Bool) (qo lo : Int → Int → Int → Int)
def overF : List AV → Option AV
  | [.agg [.int .u64 h, .int .u64 l], .int .u64 b] => some (.tup [.int .u64 (qo h l b), .int .u64 (lo h l b), .bool (ok h l b)])
  | _ => none
def envO : Env := [(74, .pure anyA (overF ok qo lo))]
theorem rounded_raw (h l b : Int) : acall Try.prog (envO ok qo lo) 40 71 [w h l, .int .u64 b] [] (fun v _ => bif v.noPtr then some v else none) =
    bif (bif !(ok h l b) then true else decide (qo h l b > 4611686018427387904)) then some (.tup [.int .u64 0, .bool false]) else
    some (.tup [.int .u64 (bif decide (lo h l b ≥ wr .u64 (b - lo h l b)) then wr .u64 (qo h l b + 1) else qo h l b), .bool true]) := by kernel_rfl
end
theorem rsize_raw (n : Int) : acall Try.prog [] 30 60 [.int .i64 n] [] (fun v _ => bif v.noPtr then some v else none) =
    bif decide (n < 0) then some (.int .u64 (wr .u64 (wr .i64 (0 - n)))) else some (.int .u64 (wr .u64 n)) := by kernel_rfl
def numF : List AV → Option AV
  | [.int .i64 n] => some (.bool (bif decide (n ≥ -4611686018427387904) then decide (n ≤ 4611686018427387904) else false))
  | _ => none
theorem number_ok : PureOk Try.prog 51 anyA numF := by
  refine pure_of (EnvOk.nil _) 40 _ _ _ ?_
  rintro args v - h
  unfold numF at h
  split at h <;> cases h
  exact ⟨rfl, rfl, by kernel_rfl⟩
def aboveF : List AV → Option AV
  | [.agg [.int .u64 h1, .int .u64 l1], .agg [.int .u64 h2, .int .u64 l2]] => some (.bool (bif decide (h1 > h2) then true else bif h1 == h2 then decide (l1 > l2) else false))
  | _ => none
theorem above_ok : PureOk Try.prog 61 anyA aboveF := by
  refine pure_of (EnvOk.nil _) 40 _ _ _ ?_
  rintro args v - h
  unfold aboveF at h
  split at h <;> cases h
  exact ⟨rfl, rfl, by kernel_rfl⟩

end Go.Proofs.Ytcagaaaibhifdaa.Rx

/- The contracts of the inner functions of package fixed and of math/bits, as the interpreter finds them. Conditions: none. -/
namespace Go.Proofs.Ytcagaaaibhifdaa.Fx
open Go Go.Proofs.Ytcagaaaibhifdaa.Ae

abbrev anyArgs : List AV → Bool := fun _ => true

/-! ### size -/
def sz (n : Int) : Int := bif decide (n < 0) then wr .u64 (wr .i64 (0 - n)) else wr .u64 n
def sb (n : Int) : Int := bif decide (n < 0) then 1 else 0
def sizeF (sz sb : Int → Int) : List AV → Option AV
  | [.int .i64 n] => some (.tup [.int .u64 (sz n), .int .u64 (sb n)])
  | _ => none
theorem size_raw (n : Int) : acall Try.prog [] 30 52 [.int .i64 n] [] (fun v _ => bif v.noPtr then some v else none) =
    bif decide (n < 0) then some (.tup [.int .u64 (wr .u64 (wr .i64 (0 - n))), .int .u64 1]) else some (.tup [.int .u64 (wr .u64 n), .int .u64 0]) := by kernel_rfl
theorem size_ok : PureOk Try.prog 52 anyArgs (sizeF sz sb) := by
  refine pure_of (EnvOk.nil _) 30 _ _ _ ?_
  rintro args v - h
  unfold sizeF at h
  split at h <;> cases h
  rename_i n
  refine ⟨rfl, rfl, ?_⟩
  rw [size_raw, sz, sb]
  cases decide (n < 0) <;> rfl

/-! ### Mul64 -/
def mulF (mh : Int → Int → Int) : List AV → Option AV
  | [.int .u64 x, .int .u64 y] => some (.tup [.int .u64 (mh x y), .int .u64 (wr .u64 (x * y))])
  | _ => none
theorem mul_ok : PureOk Try.prog 53 anyArgs (mulF mulHi) := by
  refine pure_of (EnvOk.nil _) 60 _ _ _ ?_
  rintro args v - h
  unfold mulF at h
  split at h <;> cases h
  exact ⟨rfl, rfl, by kernel_rfl⟩

/-! ### Len64 -/
def lzF (lz : Int → Int) : List AV → Option AV
  | [.int .u64 x] => some (.int .i64 (lz x))
  | _ => none
def lenF : List AV → Option AV
  | [.int .u64 x] => some (.int .i64 (lenI x))
  | _ => none
def len1 : List AV → Bool
  | [.int .u64 x] => in64 x
  | _ => false
theorem len_raw (x : Int) : acall Try.prog [] 60 75 [.int .u64 x] [] (fun v _ => bif v.noPtr then some v else none) =
  let c := decide (x ≥ 4294967296)
  let n := bif c then 32 else 0
  let x := bif c then x / 4294967296 else x
  let c := decide (x ≥ 65536)
  let n := bif c then wr .i64 (n + 16) else n
  let x := bif c then x / 65536 else x
  let c := decide (x ≥ 256)
  let n := bif c then wr .i64 (n + 8) else n
  let x := bif c then x / 256 else x
  let i := wr .u8 x
  bif decide (0 ≤ i) && decide (i < 256) then some (.int .i64 (wr .i64 (n + wr .i64 ((lenTab.data.getD i.toNat 0).toNat : Int)))) else none := by kernel_rfl
theorem len_ok : PureOk Try.prog 75 anyArgs lenF := by
  refine pure_of (EnvOk.nil _) 60 _ _ _ ?_
  rintro args v - h
  unfold lenF at h
  split at h <;> cases h
  rename_i x
  refine ⟨rfl, rfl, ?_⟩
  rw [len_raw]
  dsimp only
  have h8 : ∀ z : Int, (decide (0 ≤ wr .u8 z) && decide (wr .u8 z < 256)) = true := fun z => by
    have : wr .u8 z = z % 256 := by simp only [wr]
    rw [this]; simp; omega
  rw [h8]
  rfl
theorem lz_ok (hE : EnvOk Try.prog [(75, .pure anyArgs lenF)]) : PureOk Try.prog 73 anyArgs (lzF lzI) := by
  refine pure_of hE 60 _ _ _ ?_
  rintro args v - h
  unfold lzF at h
  split at h <;> cases h
  exact ⟨rfl, rfl, by kernel_rfl⟩

/-! ### root -/
def envR (mh : Int → Int → Int) : Env := [(53, .pure anyArgs (mulF mh))]
def rootRaw (mh : Int → Int → Int) (high low : Int) : Nat → Int → Int → Int
  | 0, r, _ => r
  | k + 1, r, bit =>
    let t := bor .u64 r bit
    let h := mh t t
    let l := wr .u64 (t * t)
    let c := bif decide (h < high) then true else bif h == high then decide (l ≤ low) else false
    rootRaw mh high low k (bif c then t else r) (bit / 2)
theorem root_raw (mh : Int → Int → Int) (high low : Int) : acall Try.prog (envR mh) 120 55 [.int .u64 high, .int .u64 low] [] (fun v _ => bif v.noPtr then some v else none) = some (.int .u64 (rootRaw mh high low 63 0 4611686018427387904)) := by kernel_rfl

end Go.Proofs.Ytcagaaaibhifdaa.Fx

/- The contract of math/bits.Div64. Conditions: the quotient is a word. -/
namespace Go.Proofs.Ytcagaaaibhifdaa.Fx
open Go Go.Proofs.Ytcagaaaibhifdaa.Ae

/-! ### Div64 -/
def lzC : List AV → Bool
  | [.int .u64 x] => in64 x
  | _ => false
def envD (lz : Int → Int) : Env := [(73, .pure lzC (lzF lz))]
theorem div_raw (lz : Int → Int) (hi lo y : Int) : acall Try.prog (envD lz) 29 70 [.int .u64 hi, .int .u64 lo, .int .u64 y] [] (fun v _ => bif v.noPtr then some v else none) =
    divRaw lz 6 2 hi lo y fun q r => some (.tup [.int .u64 q, .int .u64 r]) := by kernel_rfl

/-- Where the quotient is a word. -/
def divC : List AV → Bool
  | [.int .u64 hi, .int .u64 lo, .int .u64 y] => decide (0 ≤ hi) && decide (hi < y) && decide (y < 18446744073709551616) && in64 lo
  | _ => false
def divF (qt rm : Int → Int → Int → Int) : List AV → Option AV
  | [.int .u64 hi, .int .u64 lo, .int .u64 y] => some (.tup [.int .u64 (qt hi lo y), .int .u64 (rm hi lo y)])
  | _ => none
def qtI (hi lo y : Int) : Int := (hi * 18446744073709551616 + lo) / y
def rmI (hi lo y : Int) : Int := (hi * 18446744073709551616 + lo) % y
theorem div_ok (hE : EnvOk Try.prog (envD lzI)) : PureOk Try.prog 70 divC (divF qtI rmI) := by
  refine pure_of hE 29 _ _ _ ?_
  intro args v hC h
  unfold divF at h
  split at h <;> cases h
  rename_i hi lo y
  simp only [divC, in64, Bool.and_eq_true, decide_eq_true_eq] at hC
  obtain ⟨⟨⟨c1, c2⟩, c3⟩, c4, c5⟩ := hC
  refine ⟨rfl, rfl, ?_⟩
  rw [div_raw, divRaw_eq c1 c2 c3 c4 c5]
  rfl

end Go.Proofs.Ytcagaaaibhifdaa.Fx

/- The contracts of the methods of a flow, as the interpreter finds them. Conditions: none. -/
namespace Go.Proofs.Ytcagaaaibhifdaa.Fx
open Go Go.Proofs.Ytcagaaaibhifdaa.Ae

section
variable (sz sb : Int → Int) (mh : Int → Int → Int) (qt rm : Int → Int → Int → Int)

/-! ### ratio -/
def giveRaw (n : Int) (bad : Bool) : Option (AV × Bool) :=
  bif (bif decide (n > 4611686018427387904) then true else decide (n < -4611686018427387904)) then some (.int .i64 0, true) else some (.int .i64 n, bad)
def ratioRaw (a b c : Int) (bad : Bool) : Option (AV × Bool) :=
  let x := sz a
  let y := sz b
  let z := sz c
  let h := mh x y
  let l := wr .u64 (x * y)
  bif (bif z == 0 then true else decide (h ≥ z)) then some (.int .i64 0, true) else
  bif divC [.int .u64 h, .int .u64 l, .int .u64 z] then
    let n := qt h l z
    let left := rm h l z
    bif decide (n > 4611686018427387904) then some (.int .i64 0, true) else
    let n' := bif decide (left ≥ wr .u64 (z - left)) then wr .u64 (n + 1) else n
    bif bxor .u64 (bxor .u64 (sb a) (sb b)) (sb c) == 1 then giveRaw (wr .i64 (0 - wr .i64 n')) bad else giveRaw (wr .i64 n') bad
  else none
def envQ : Env := [(52, .pure anyArgs (sizeF sz sb)), (53, .pure anyArgs (mulF mh)), (70, .pure divC (divF qt rm)), (47, .text)]
theorem ratio_raw (a b c : Int) (bad : Bool) : acall Try.prog (envQ sz sb mh qt rm) 60 46 [.ptr 0 0, .int .i64 a, .int .i64 b, .int .i64 c] [.cells [.bool bad] 25] (flowK 25) =
    ratioRaw sz sb mh qt rm a b c bad := by kernel_rfl

/-! ### The methods -/
variable (rr : Int → Int → Int → Bool → Int × Bool) (ad : Int → Int → Bool → Int × Bool) (rt : Int → Int → Int) (asu aca : Int → Int → Int → Int)
def int3 (rr : Int → Int → Int → Bool → Int × Bool) : List AV → Option (Bool → AV × Bool)
  | [.int .i64 a, .int .i64 b, .int .i64 c] => some fun bad => (.int .i64 (rr a b c bad).1, (rr a b c bad).2)
  | _ => none
def int2 (ad : Int → Int → Bool → Int × Bool) : List AV → Option (Bool → AV × Bool)
  | [.int .i64 a, .int .i64 b] => some fun bad => (.int .i64 (ad a b bad).1, (ad a b bad).2)
  | _ => none
def int1 (ad : Int → Bool → Int × Bool) : List AV → Option (Bool → AV × Bool)
  | [.int .i64 a] => some fun bad => (.int .i64 (ad a bad).1, (ad a bad).2)
  | _ => none
def rng (n : Int) : Bool := decide (-9223372036854775808 ≤ n) && decide (n < 9223372036854775808)
def ratC : List AV → Bool
  | [.int .i64 a, .int .i64 b, .int .i64 c] => rng a && rng b && rng c
  | _ => false
def rootF (rt : Int → Int → Int) : List AV → Option AV
  | [.int .u64 a, .int .u64 b] => some (.int .u64 (rt a b))
  | _ => none
def addC : List AV → Bool
  | [.int .u64 x, .int .u64 y, .int .u64 c] => decide (0 ≤ x) && decide (0 ≤ y) && decide (0 ≤ c) && decide (c ≤ 1)
  | _ => false
def addF (asu aca : Int → Int → Int → Int) : List AV → Option AV
  | [.int .u64 x, .int .u64 y, .int .u64 c] => some (.tup [.int .u64 (asu x y c), .int .u64 (aca x y c)])
  | _ => none
def envM : Env := [(45, .text), (46, .eff (fun l => ratC l.tail) (flowSpec 25 (int3 rr))), (47, .text), (18, .text),
  (55, .pure anyArgs (rootF rt)), (52, .pure anyArgs (sizeF sz sb)), (53, .pure anyArgs (mulF mh)), (54, .ext addC (addF asu aca)), (21, .eff (fun _ => true) (flowSpec 25 (int2 ad)))]
/-- Is it still well, behind these numbers? -/
def takeB : Bool → List Int → Bool
  | bad, [] => bad
  | bad, n :: l => takeB (bif (bif bad then true else decide (n > 4611686018427387904)) then true else decide (n < -4611686018427387904)) l
def opRaw (bad : Bool) (l : List Int) (k : Bool → Option (AV × Bool)) : Option (AV × Bool) :=
  bif !(!takeB bad l) then some (.int .i64 0, takeB bad l) else k (takeB bad l)
def rrRaw (a b c : Int) (bad : Bool) : Option (AV × Bool) :=
  bif ratC [.int .i64 a, .int .i64 b, .int .i64 c] then some (.int .i64 (rr a b c bad).1, (rr a b c bad).2) else none
theorem mul_raw (a b : Int) (bad : Bool) : acall Try.prog (envM sz sb mh rr ad rt asu aca) 60 22 [.ptr 0 0, .int .i64 a, .int .i64 b] [.cells [.bool bad] 25] (flowK 25) =
    opRaw bad [a, b] (rrRaw rr a b 1099511627776) := by kernel_rfl
theorem div_raw2 (a b : Int) (bad : Bool) : acall Try.prog (envM sz sb mh rr ad rt asu aca) 60 20 [.ptr 0 0, .int .i64 a, .int .i64 b] [.cells [.bool bad] 25] (flowK 25) =
    opRaw bad [a, b] (rrRaw rr a 1099511627776 b) := by kernel_rfl
theorem part_raw (a b c : Int) (bad : Bool) : acall Try.prog (envM sz sb mh rr ad rt asu aca) 60 19 [.ptr 0 0, .int .i64 a, .int .i64 b, .int .i64 c] [.cells [.bool bad] 25] (flowK 25) =
    opRaw bad [a, b, c] (rrRaw rr a b c) := by kernel_rfl
theorem add_raw (a b : Int) (bad : Bool) : acall Try.prog (envM sz sb mh rr ad rt asu aca) 60 21 [.ptr 0 0, .int .i64 a, .int .i64 b] [.cells [.bool bad] 25] (flowK 25) =
    opRaw bad [a, b] fun bad => bif (bif (bif !(!(bif a == 4611686018427387904 then b == 4611686018427387904 else false)) then true else decide (wr .i64 (a + b) > 4611686018427387904)) then true else decide (wr .i64 (a + b) < -4611686018427387904)) then some (.int .i64 0, true) else some (.int .i64 (wr .i64 (a + b)), bad) := by kernel_rfl
def normStep (n hi lo : Int) (k : Int → Int → Option (AV × Bool)) : Option (AV × Bool) :=
  let h := mh (sz n) (sz n)
  let l := wr .u64 (sz n * sz n)
  bif addC [.int .u64 lo, .int .u64 l, .int .u64 0] then
    bif addC [.int .u64 hi, .int .u64 h, .int .u64 (aca lo l 0)] then k (asu hi h (aca lo l 0)) (asu lo l 0) else none
  else none
theorem norm_raw (a b c : Int) (bad : Bool) : acall Try.prog (envM sz sb mh rr ad rt asu aca) 60 32 [.ptr 0 0, .int .i64 a, .int .i64 b, .int .i64 c] [.cells [.bool bad] 25] (flowK 25) =
    opRaw bad [a, b, c] fun bad =>
    normStep sz mh asu aca a 0 0 fun hi lo => normStep sz mh asu aca b hi lo fun hi lo => normStep sz mh asu aca c hi lo fun hi lo =>
    bif (bif (bif !(decide (rt hi lo ≤ 4611686018427387904)) then true else decide (wr .i64 (rt hi lo) > 4611686018427387904)) then true else decide (wr .i64 (rt hi lo) < -4611686018427387904)) then some (.int .i64 0, true) else some (.int .i64 (wr .i64 (rt hi lo)), bad) := by kernel_rfl
theorem sub_raw (a b : Int) (bad : Bool) : acall Try.prog (envM sz sb mh rr ad rt asu aca) 60 34 [.ptr 0 0, .int .i64 a, .int .i64 b] [.cells [.bool bad] 25] (flowK 25) =
    opRaw bad [a, b] fun bad => some (.int .i64 (ad a (wr .i64 (0 - b)) bad).1, (ad a (wr .i64 (0 - b)) bad).2) := by kernel_rfl
theorem sqrt_raw (a : Int) (bad : Bool) : acall Try.prog (envM sz sb mh rr ad rt asu aca) 60 57 [.ptr 0 0, .int .i64 a] [.cells [.bool bad] 25] (flowK 25) =
    bif (bif !(!takeB bad [a]) then true else decide (a < 0)) then some (.int .i64 0, true) else giveRaw (wr .i64 (rt (wr .u64 a / 16777216) (wr .u64 (wr .u64 a * 1099511627776)))) (takeB bad [a]) := by kernel_rfl
theorem mod_raw (a m : Int) (bad : Bool) : acall Try.prog (envM sz sb mh rr ad rt asu aca) 60 65 [.ptr 0 0, .int .i64 a, .int .i64 m] [.cells [.bool bad] 25] (flowK 25) =
    bif (bif !(!takeB bad [a, m]) then true else decide (m ≤ 0)) then some (.int .i64 0, true) else
    bif m == 0 then none else bif m == 0 then none else some (.int .i64 ((wr .i64 (a.tmod m + m)).tmod m), takeB bad [a, m]) := by kernel_rfl
end
end Go.Proofs.Ytcagaaaibhifdaa.Fx

/- The methods of the reference's flow, as the interpreter finds them. Conditions: none. -/
namespace Go.Proofs.Ytcagaaaibhifdaa.Rx
open Go Go.Proofs.Ytcagaaaibhifdaa.Ae Go.Proofs.Ytcagaaaibhifdaa.Fx

section
variable (s : Int → Int) (th tl : Int → Int → Int) (rq : Int → Int → Int → Int) (ro : Int → Int → Int → Bool)
def rsizeF : List AV → Option AV
  | [.int .i64 n] => some (.int .u64 (s n))
  | _ => none
def timesF : List AV → Option AV
  | [.int .u64 a, .int .u64 b] => some (w (th a b) (tl a b))
  | _ => none
def roundedF : List AV → Option AV
  | [.agg [.int .u64 h, .int .u64 l], .int .u64 b] => some (.tup [.int .u64 (rq h l b), .bool (ro h l b)])
  | _ => none
def rgive (q : Int) (below : Bool) (bad : Bool) : Option (AV × Bool) :=
  bif decide (q > 4611686018427387904) then some (.int .i64 0, true) else bif below then some (.int .i64 (wr .i64 (0 - wr .i64 q)), bad) else some (.int .i64 (wr .i64 q), bad)
def rratRaw (a b c : Int) (bad : Bool) : Option (AV × Bool) :=
  let h := th (s a) (s b)
  let l := tl (s a) (s b)
    bif !(ro h l (s c)) then some (.int .i64 0, true) else
    let n := bif decide (a < 0) then wr .i64 (0 + 1) else 0
    let n := bif decide (b < 0) then wr .i64 (n + 1) else n
    let n := bif decide (c < 0) then wr .i64 (n + 1) else n
    rgive (rq h l (s c)) (n.tmod 2 == 1) bad
def envS : Env := [(60, .pure anyA (rsizeF s)), (59, .pure anyA (timesF th tl)), (71, .pure anyA (roundedF rq ro)), (62, .text)]
theorem rrat_raw (a b c : Int) (bad : Bool) : acall Try.prog (envS s th tl rq ro) 60 50 [.ptr 0 0, .int .i64 a, .int .i64 b, .int .i64 c] [.cells [.bool bad] 27] (flowK 27) =
    rratRaw s th tl rq ro a b c bad := by kernel_rfl

variable (ab : Int → Int → Int → Int → Bool) (rr : Int → Int → Int → Bool → Int × Bool) (ad : Int → Int → Bool → Int × Bool)
def abF : List AV → Option AV
  | [.agg [.int .u64 h1, .int .u64 l1], .agg [.int .u64 h2, .int .u64 l2]] => some (.bool (ab h1 l1 h2 l2))
  | _ => none
def envN : Env := [(49, .text), (50, .eff (fun l => ratC l.tail) (flowSpec 27 (int3 rr))), (62, .text),
  (51, .calc numF), (60, .pure anyA (rsizeF s)), (59, .pure anyA (timesF th tl)), (61, .pure anyA (abF ab)), (58, .calc (waF waH)), (29, .eff (fun _ => true) (flowSpec 27 (int2 ad)))]
def rnum (n : Int) : Bool := bif decide (n ≥ -4611686018427387904) then decide (n ≤ 4611686018427387904) else false
def rtakeB : Bool → List Int → Bool
  | bad, [] => bad
  | bad, n :: l => rtakeB (bif !rnum n then true else bad) l
def ropRaw (bad : Bool) (l : List Int) (k : Bool → Option (AV × Bool)) : Option (AV × Bool) :=
  bif !(!rtakeB bad l) then some (.int .i64 0, rtakeB bad l) else k (rtakeB bad l)
theorem rmul_raw (a b : Int) (bad : Bool) : acall Try.prog (envN s th tl ab rr ad) 60 30 [.ptr 0 0, .int .i64 a, .int .i64 b] [.cells [.bool bad] 27] (flowK 27) =
    ropRaw bad [a, b] (rrRaw rr a b 1099511627776) := by kernel_rfl
theorem rdiv_raw (a b : Int) (bad : Bool) : acall Try.prog (envN s th tl ab rr ad) 60 27 [.ptr 0 0, .int .i64 a, .int .i64 b] [.cells [.bool bad] 27] (flowK 27) =
    ropRaw bad [a, b] (rrRaw rr a 1099511627776 b) := by kernel_rfl
theorem rpart_raw (a b c : Int) (bad : Bool) : acall Try.prog (envN s th tl ab rr ad) 60 26 [.ptr 0 0, .int .i64 a, .int .i64 b, .int .i64 c] [.cells [.bool bad] 27] (flowK 27) =
    ropRaw bad [a, b, c] (rrRaw rr a b c) := by kernel_rfl
theorem rsub_raw (a b : Int) (bad : Bool) : acall Try.prog (envN s th tl ab rr ad) 60 37 [.ptr 0 0, .int .i64 a, .int .i64 b] [.cells [.bool bad] 27] (flowK 27) =
    ropRaw bad [a, b] fun bad => some (.int .i64 (ad a (wr .i64 (0 - b)) bad).1, (ad a (wr .i64 (0 - b)) bad).2) := by kernel_rfl
theorem rmod_raw (a m : Int) (bad : Bool) : acall Try.prog (envN s th tl ab rr ad) 60 67 [.ptr 0 0, .int .i64 a, .int .i64 m] [.cells [.bool bad] 27] (flowK 27) =
    ropRaw bad [a, m] fun bad => bif decide (m ≤ 0) then some (.int .i64 0, true) else bif m == 0 then none else some (.int .i64 (bif decide (a.tmod m < 0) then wr .i64 (a.tmod m + m) else a.tmod m), bad) := by kernel_rfl
end
end Go.Proofs.Ytcagaaaibhifdaa.Rx

/- The methods of the program's flow come to what the plain functions say. Conditions: none. -/
namespace Go.Proofs.Ytcagaaaibhifdaa.Fx
open Go Go.Proofs.Ytcagaaaibhifdaa.Ae

theorem sz_eq {n : Int} (h : rng n = true) : sz n = (n.natAbs : Int) ∧ (n.natAbs : Int) ≤ 9223372036854775808 := by
  unfold rng at h
  simp only [Bool.and_eq_true, decide_eq_true_eq] at h
  unfold sz
  by_cases c : n < 0
  · rw [decide_eq_true c]; simp only [bt]
    rw [wr_u64, wr_i64]; omega
  · rw [decide_eq_false c]; simp only [bf]
    rw [wr_u64]; omega
theorem sb_eq (n : Int) : sb n = if n < 0 then 1 else 0 := by
  unfold sb
  by_cases c : n < 0
  · rw [decide_eq_true c, if_pos c]; rfl
  · rw [decide_eq_false c, if_neg c]; rfl

/-- The sign of a product of three. -/
theorem signs (a b c : Int) : (bxor .u64 (bxor .u64 (sb a) (sb b)) (sb c) == 1) = sgn3 a b c := by
  unfold sgn3
  rw [sb_eq, sb_eq, sb_eq]
  by_cases ha : a < 0 <;> by_cases hb : b < 0 <;> by_cases hc : c < 0 <;> simp only [ha, hb, hc, if_true, if_false, decide_true, decide_false] <;> decide

theorem mulHi_low {x y : Int} (hx : 0 ≤ x) (hx1 : x < 18446744073709551616) (hy : 0 ≤ y) (hy1 : y < 18446744073709551616) :
    0 ≤ mulHi x y ∧ 0 ≤ wr .u64 (x * y) ∧ wr .u64 (x * y) < 18446744073709551616 ∧ mulHi x y * 18446744073709551616 + wr .u64 (x * y) = x * y := by
  rw [mulHi_eq hx hx1 hy hy1, wr_u64]
  have := Int.mul_nonneg hx hy
  generalize x * y = p at *
  omega

def ratF (a b c : Int) (bad : Bool) : Int × Bool := resB bad (rat a b c)

theorem give_big {n : Int} (h : n > 4611686018427387904 ∨ n < -4611686018427387904) (bad : Bool) : giveRaw n bad = some (.int .i64 0, true) := by
  unfold giveRaw
  rcases h with h | h
  · rw [decide_eq_true h]; rfl
  · rw [decide_eq_true h]; cases decide (n > 4611686018427387904) <;> rfl
theorem give_in {n : Int} (h : n ≤ 4611686018427387904) (h' : -4611686018427387904 ≤ n) (bad : Bool) : giveRaw n bad = some (.int .i64 n, bad) := by
  unfold giveRaw
  rw [decide_eq_false (by omega), decide_eq_false (by omega)]; rfl

/-- A rounded quotient. -/
theorem round_eq {p z n left : Nat} (hz : 0 < z) (h : z * n + left = p) (hl : left < z) : (2 * p + z) / (2 * z) = if z ≤ 2 * left then n + 1 else n := by
  have e : 2 * p + z = 2 * z * n + (2 * left + z) := by rw [← h, Nat.mul_add, ← Nat.mul_assoc]; omega
  rw [e, Nat.mul_add_div (by omega)]
  split
  · rw [Nat.div_eq_of_lt_le (k := 1)] <;> omega
  · rw [Nat.div_eq_of_lt] <;> omega

theorem ratio_eq {a b c : Int} (ha : rng a = true) (hb : rng b = true) (hc : rng c = true) (bad : Bool) :
    ratioRaw sz sb mulHi qtI rmI a b c bad = some (.int .i64 (ratF a b c bad).1, (ratF a b c bad).2) := by
  obtain ⟨ea, ua⟩ := sz_eq ha
  obtain ⟨eb, ub⟩ := sz_eq hb
  obtain ⟨ec, uc⟩ := sz_eq hc
  unfold ratioRaw
  rw [ea, eb, ec]
  obtain ⟨m1, m2, m3, m4⟩ := mulHi_low (x := (a.natAbs : Int)) (y := (b.natAbs : Int)) (by omega) (by omega) (by omega) (by omega)
  have hp : (a.natAbs : Int) * (b.natAbs : Int) = ((a.natAbs * b.natAbs : Nat) : Int) := by rw [Int.natCast_mul]
  rw [signs]
  dsimp only
  rw [hp] at m2 m3 m4 ⊢
  unfold ratF rat
  have hcz : c = 0 ↔ c.natAbs = 0 := by omega
  generalize sgn3 a b c = sg at *
  generalize a.natAbs * b.natAbs = p at *
  generalize c.natAbs = z at *
  generalize mulHi (a.natAbs : Int) (b.natAbs : Int) = h at *
  generalize wr .u64 (p : Int) = l at *
  by_cases z0 : z = 0
  · rw [if_pos (hcz.2 z0)]
    have : ((z : Int) == 0) = true := by simp; exact z0
    rw [this]; simp only [bt, resB]
  · rw [if_neg (fun e => z0 (hcz.1 e))]
    have e0 : ((z : Int) == 0) = false := by simp; exact z0
    rw [e0]
    simp only [bf]
    by_cases hz : h ≥ (z : Int)
    · rw [decide_eq_true hz]
      have hbig : (2 * p + z) / (2 * z) > 4611686018427387904 := by
        have : 18446744073709551616 ≤ (2 * p + z) / (2 * z) := by
          rw [Nat.le_div_iff_mul_le (by omega)]
          omega
        omega
      rw [if_pos hbig]; simp only [bt, bf, resB]
    · rw [decide_eq_false hz]
      have hC : divC [.int .u64 h, .int .u64 l, .int .u64 (z : Int)] = true := by
        simp only [divC, in64, Bool.and_eq_true, decide_eq_true_eq]; omega
      rw [hC]
      simp only [bt, bf]
      have hq : qtI h l (z : Int) = ((p / z : Nat) : Int) := by unfold qtI; rw [m4]; exact (Int.natCast_ediv _ _).symm
      have hr : rmI h l (z : Int) = ((p % z : Nat) : Int) := by unfold rmI; rw [m4]; exact (Int.natCast_emod _ _).symm
      rw [hq, hr]
      have hdm := Nat.div_add_mod p z
      have hml := Nat.mod_lt p (show z > 0 by omega)
      have hround := round_eq (show 0 < z by omega) hdm hml
      generalize p / z = n at *
      generalize p % z = left at *
      rw [hround]
      by_cases hn : (n : Int) > 4611686018427387904
      · rw [decide_eq_true hn]
        have : (if z ≤ 2 * left then n + 1 else n) > 4611686018427387904 := by split <;> omega
        rw [if_pos this]; simp only [bt, resB]
      · rw [decide_eq_false hn]
        simp only [bf]
        have hw : wr .u64 ((z : Int) - (left : Int)) = (z : Int) - left := wu64_in (by omega) (by omega)
        have hn0 : (n : Int) ≤ 4611686018427387904 := by omega
        rw [hw, wu64_in (n := (n : Int) + 1) (by omega) (by omega)]
        have hn' : (bif decide ((left : Int) ≥ (z : Int) - left) then (n : Int) + 1 else (n : Int)) = ((if z ≤ 2 * left then n + 1 else n : Nat) : Int) := by
          by_cases hh : z ≤ 2 * left
          · rw [decide_eq_true (by omega), if_pos hh]; rfl
          · rw [decide_eq_false (by omega), if_neg hh]; rfl
        rw [hn']
        have hle : (if z ≤ 2 * left then n + 1 else n) ≤ 4611686018427387905 := by split <;> omega
        generalize (if z ≤ 2 * left then n + 1 else n) = r at *
        rw [w64_in (n := (r : Int)) (by omega) (by omega), w64_in (n := 0 - (r : Int)) (by omega) (by omega)]
        by_cases hbig : r > 4611686018427387904
        · rw [if_pos hbig, give_big (n := 0 - (r : Int)) (.inr (by omega)), give_big (n := (r : Int)) (.inl (by omega))]
          cases sg <;> simp only [bt, bf, resB]
        · rw [if_neg hbig, give_in (n := 0 - (r : Int)) (by omega) (by omega), give_in (n := (r : Int)) (by omega) (by omega)]
          cases sg
          · simp only [bf, Bool.false_eq_true, if_false, resB]
          · simp only [bt, if_true, Int.zero_sub, resB]

/-! ### Roots -/
theorem rootRaw_eq {hi lo : Int} (h0 : 0 ≤ hi) (l0 : 0 ≤ lo) (l1 : lo < 18446744073709551616) : ∀ (k r : Nat), k ≤ 63 → (∃ q, r = 2 ^ k * q) → r < 2 ^ 63 →
    rootRaw mulHi hi lo k (r : Int) (((2 ^ k : Nat) : Int) / 2) = (isqB (hi.toNat * 18446744073709551616 + lo.toNat) k r : Int)
  | 0, r, _, _, _ => rfl
  | k + 1, r, hk, ⟨q, hq⟩, hr => by
    have hpk : 2 ^ (k + 1) = 2 * 2 ^ k := by rw [Nat.pow_succ]; omega
    have hbit : ((2 ^ (k + 1) : Nat) : Int) / 2 = ((2 ^ k : Nat) : Int) := by rw [hpk]; omega
    have hpos : 0 < 2 ^ k := Nat.two_pow_pos k
    have hk63 : 2 ^ (k + 1) ≤ 2 ^ 63 := Nat.pow_le_pow_right (by omega) hk
    have h63 : (2 : Nat) ^ 63 = 9223372036854775808 := by kernel_rfl
    -- what is left above
    have hroom : r + 2 ^ (k + 1) ≤ 2 ^ 63 := by
      have e : (2 : Nat) ^ 63 = 2 ^ (k + 1) * 2 ^ (62 - k) := by rw [← Nat.pow_add]; congr 1; omega
      rw [e, hq] at hr ⊢
      have hql := Nat.lt_of_mul_lt_mul_left hr
      have := Nat.mul_le_mul_left (2 ^ (k + 1)) (show q + 1 ≤ 2 ^ (62 - k) from hql)
      rw [Nat.mul_add, Nat.mul_one] at this
      exact this
    rw [hbit]
    unfold rootRaw isqB
    dsimp only
    have ht : bor .u64 (r : Int) ((2 ^ k : Nat) : Int) = ((r + 2 ^ k : Nat) : Int) := by
      rw [bor_eq (by omega) (by omega) (by omega) (by omega), Int.toNat_natCast, Int.toNat_natCast, hq, or_add (by omega)]
    rw [ht]
    have hrec : ((2 ^ k : Nat) : Int) / 2 = ((2 ^ k : Nat) : Int) / 2 := rfl
    generalize hte : r + 2 ^ k = t at *
    obtain ⟨m1, m2, m3, m4⟩ := mulHi_low (x := (t : Int)) (y := (t : Int)) (by omega) (by omega) (by omega) (by omega)
    have hc : (bif decide (mulHi (t : Int) t < hi) then true else bif mulHi (t : Int) t == hi then decide (wr .u64 ((t : Int) * t) ≤ lo) else false) = decide (t * t ≤ hi.toNat * 18446744073709551616 + lo.toNat) := by
      have e : (t : Int) * t = ((t * t : Nat) : Int) := by rw [Int.natCast_mul]
      rw [e] at m2 m3 m4 ⊢
      generalize mulHi (t : Int) t = h at *
      generalize wr .u64 ((t * t : Nat) : Int) = l at *
      generalize t * t = tt at *
      by_cases c1 : h < hi
      · rw [decide_eq_true c1, decide_eq_true (show tt ≤ hi.toNat * 18446744073709551616 + lo.toNat by omega)]; rfl
      · rw [decide_eq_false c1]
        simp only [bf]
        by_cases c2 : h = hi
        · have : (h == hi) = true := by simp; exact c2
          rw [this]
          simp only [bt]
          by_cases c3 : l ≤ lo
          · rw [decide_eq_true c3, decide_eq_true (show tt ≤ hi.toNat * 18446744073709551616 + lo.toNat by omega)]
          · rw [decide_eq_false c3, decide_eq_false (show ¬ tt ≤ hi.toNat * 18446744073709551616 + lo.toNat by omega)]
        · have : (h == hi) = false := by simp; exact c2
          rw [this]
          simp only [bf]
          rw [decide_eq_false (show ¬ tt ≤ hi.toNat * 18446744073709551616 + lo.toNat by omega)]
    rw [hc]
    have hd1 : ∃ q', r = 2 ^ k * q' := ⟨2 * q, by rw [hq, hpk, Nat.mul_comm 2, Nat.mul_assoc]⟩
    have hd2 : ∃ q', t = 2 ^ k * q' := ⟨2 * q + 1, by rw [← hte, Nat.mul_add, Nat.mul_one, hq, hpk, Nat.mul_comm 2, Nat.mul_assoc]⟩
    by_cases c : t * t ≤ hi.toNat * 18446744073709551616 + lo.toNat
    · rw [decide_eq_true c, if_pos c]
      exact rootRaw_eq h0 l0 l1 k t (by omega) hd2 (by omega)
    · rw [decide_eq_false c, if_neg c]
      exact rootRaw_eq h0 l0 l1 k r (by omega) hd1 hr

def rootI (hi lo : Int) : Int := rootRaw mulHi hi lo 63 0 4611686018427387904
theorem rootI_eq {hi lo : Int} (h0 : 0 ≤ hi) (h1 : hi < 4611686018427387904) (l0 : 0 ≤ lo) (l1 : lo < 18446744073709551616) : rootI hi lo = (isq (hi.toNat * 18446744073709551616 + lo.toNat) : Int) := by
  have h := rootRaw_eq h0 l0 l1 63 0 (by omega) ⟨0, by simp⟩ (Nat.two_pow_pos 63)
  have h63 : (2 : Nat) ^ 63 = 9223372036854775808 := by kernel_rfl
  have h128 : (2 : Nat) ^ 128 = 340282366920938463463374607431768211456 := by kernel_rfl
  have e : (((2 ^ 63 : Nat) : Int) / 2) = 4611686018427387904 := by rw [h63]; omega
  rw [e] at h
  unfold rootI
  refine Eq.trans h ?_
  rw [isqB_isq (by rw [h128]; omega) (by simp) (by rw [h63]; omega)]

#print axioms ratio_eq
#print axioms rootI_eq
end Go.Proofs.Ytcagaaaibhifdaa.Fx

/- The reference's words of 128 bits, in plain numbers. Conditions: words are words. -/
namespace Go.Proofs.Ytcagaaaibhifdaa.Rx
open Go Go.Proofs.Ytcagaaaibhifdaa.Ae Go.Proofs.Ytcagaaaibhifdaa.Fx

theorem in64_iff {x : Int} : in64 x = true ↔ 0 ≤ x ∧ x < 18446744073709551616 := by simp [in64]

/-- What a word of 128 bits stands for. -/
theorem wa_val {h1 l1 h2 l2 : Int} (_a1 : 0 ≤ h1) (_a2 : h1 < 18446744073709551616) (a3 : 0 ≤ l1) (a4 : l1 < 18446744073709551616) (_b1 : 0 ≤ h2) (_b2 : h2 < 18446744073709551616) (b3 : 0 ≤ l2) (b4 : l2 < 18446744073709551616) :
    0 ≤ waH h1 l1 h2 l2 ∧ waH h1 l1 h2 l2 < 18446744073709551616 ∧ 0 ≤ wr .u64 (l1 + l2) ∧ wr .u64 (l1 + l2) < 18446744073709551616 ∧
    waH h1 l1 h2 l2 * 18446744073709551616 + wr .u64 (l1 + l2) = (h1 * 18446744073709551616 + l1 + (h2 * 18446744073709551616 + l2)) % 340282366920938463463374607431768211456 := by
  unfold waH
  simp only [wr_u64]
  by_cases c : (l1 + l2) % 18446744073709551616 < l1
  · rw [decide_eq_true c, bt]; omega
  · rw [decide_eq_false c, bf]; omega

theorem mod_step {M s t c b' : Int} : ((s + c * t) % M + (t + t) % M * b') % M = (s + t * (c + 2 * b')) % M := by
  have e1 : s + c * t = M * ((s + c * t) / M) + (s + c * t) % M := (Int.mul_ediv_add_emod _ _).symm
  have e2 : t + t = M * ((t + t) / M) + (t + t) % M := (Int.mul_ediv_add_emod _ _).symm
  generalize (s + c * t) / M = q1 at *
  generalize (s + c * t) % M = r1 at *
  generalize (t + t) / M = q2 at *
  generalize (t + t) % M = r2 at *
  have e3 : s + t * (c + 2 * b') = (r1 + r2 * b') + M * (q1 + q2 * b') := by
    have h1 : t * (c + 2 * b') = c * t + (t + t) * b' := by grind
    rw [h1, ← Int.add_assoc, e1, e2]; grind
  rw [e3, Int.add_mul_emod_self_left]

theorem timesRaw_eq : ∀ (k : Nat) (sh sl th tl b : Int), 0 ≤ sh → sh < 18446744073709551616 → 0 ≤ sl → sl < 18446744073709551616 → 0 ≤ th → th < 18446744073709551616 → 0 ≤ tl → tl < 18446744073709551616 →
    0 ≤ b → b < 18446744073709551616 → b < p2 k → ∃ rh rl, timesRaw waH k sh sl th tl b = some (w rh rl) ∧ 0 ≤ rh ∧ rh < 18446744073709551616 ∧ 0 ≤ rl ∧ rl < 18446744073709551616 ∧
      rh * 18446744073709551616 + rl = (sh * 18446744073709551616 + sl + (th * 18446744073709551616 + tl) * b) % 340282366920938463463374607431768211456
  | 0, sh, sl, th, tl, b, a1, a2, a3, a4, b1, b2, b3, b4, c1, c2, c3 => by
    have : b = 0 := by
      have e : p2 0 = 1 := by kernel_rfl
      rw [e] at c3; omega
    subst this
    refine ⟨sh, sl, ?_, a1, a2, a3, a4, ?_⟩
    · unfold timesRaw
      rw [decide_eq_false (by omega), bf]
    · rw [Int.mul_zero]; omega
  | k + 1, sh, sl, th, tl, b, a1, a2, a3, a4, b1, b2, b3, b4, c1, c2, c3 => by
    unfold timesRaw
    by_cases hb : b > 0
    · rw [decide_eq_true hb, bt]
      dsimp only
      have e2 : p2 (k + 1) = p2 k * 2 := by rw [p2_add]; rfl
      have hd : wr .u64 (b.tdiv 2) = b / 2 := by rw [Int.tdiv_eq_ediv_of_nonneg c1, wu64_in (by omega) (by omega)]
      have hm : b.tmod 2 = b % 2 := Int.tmod_eq_emod_of_nonneg c1
      rw [hd, hm]
      obtain ⟨t1, t2, t3, t4, t5⟩ := wa_val b1 b2 b3 b4 b1 b2 b3 b4
      obtain ⟨s1, s2, s3, s4, s5⟩ := wa_val a1 a2 a3 a4 b1 b2 b3 b4
      have hbs : b = b % 2 + 2 * (b / 2) := by omega
      by_cases hc : b % 2 = 1
      · have e : (b % 2 == 1) = true := by simp; exact hc
        rw [e, bt, bt]
        obtain ⟨rh, rl, r1, r2, r3, r4, r5, r6⟩ := timesRaw_eq k _ _ _ _ (b / 2) s1 s2 s3 s4 t1 t2 t3 t4 (by omega) (by omega) (by omega)
        refine ⟨rh, rl, r1, r2, r3, r4, r5, ?_⟩
        rw [r6, s5, t5]
        have := mod_step (M := 340282366920938463463374607431768211456) (s := sh * 18446744073709551616 + sl) (t := th * 18446744073709551616 + tl) (c := 1) (b' := b / 2)
        rw [Int.one_mul] at this
        rw [this, ← hc, ← hbs]
      · have e : (b % 2 == 1) = false := by simp; omega
        rw [e, bf, bf]
        obtain ⟨rh, rl, r1, r2, r3, r4, r5, r6⟩ := timesRaw_eq k _ _ _ _ (b / 2) a1 a2 a3 a4 t1 t2 t3 t4 (by omega) (by omega) (by omega)
        refine ⟨rh, rl, r1, r2, r3, r4, r5, ?_⟩
        rw [r6, t5]
        have := mod_step (M := 340282366920938463463374607431768211456) (s := sh * 18446744073709551616 + sl) (t := th * 18446744073709551616 + tl) (c := 0) (b' := b / 2)
        rw [Int.zero_mul, Int.add_zero, Int.emod_add_emod] at this
        rw [this]
        have hc0 : b % 2 = 0 := by omega
        rw [← hc0, ← hbs]
    · have : b = 0 := by omega
      subst this
      rw [decide_eq_false (by omega), bf]
      refine ⟨sh, sl, rfl, a1, a2, a3, a4, ?_⟩
      rw [Int.mul_zero]; omega

def timesP (wa : Int → Int → Int → Int → Int) : Nat → Int → Int → Int → Int → Int → Int × Int
  | 0, sh, sl, _, _, _ => (sh, sl)
  | k + 1, sh, sl, th, tl, b =>
    bif decide (b > 0) then
      let c := b.tmod 2 == 1
      timesP wa k (bif c then wa sh sl th tl else sh) (bif c then wr .u64 (sl + tl) else sl) (wa th tl th tl) (wr .u64 (tl + tl)) (wr .u64 (b.tdiv 2))
    else (sh, sl)
theorem timesP_eq {wa : Int → Int → Int → Int → Int} : ∀ (k : Nat) (sh sl th tl b : Int), b < p2 k → b < 18446744073709551616 → timesRaw wa k sh sl th tl b = some (w (timesP wa k sh sl th tl b).1 (timesP wa k sh sl th tl b).2)
  | 0, sh, sl, th, tl, b, h, _ => by
    have e : p2 0 = 1 := by kernel_rfl
    rw [e] at h
    unfold timesRaw timesP
    rw [decide_eq_false (by omega), bf]
  | k + 1, sh, sl, th, tl, b, h, h' => by
    unfold timesRaw timesP
    by_cases hb : b > 0
    · rw [decide_eq_true hb, bt, bt]
      dsimp only
      have e2 : p2 (k + 1) = p2 k * 2 := by rw [p2_add]; rfl
      have hd : wr .u64 (b.tdiv 2) = b / 2 := by rw [Int.tdiv_eq_ediv_of_nonneg (by omega), wu64_in (by omega) (by omega)]
      rw [hd]
      exact timesP_eq k _ _ _ _ _ (by omega) (by omega)
    · rw [decide_eq_false hb, bf, bf]
theorem timesP_all {wa : Int → Int → Int → Int → Int} (sh sl th tl b : Int) : timesRaw wa 65 sh sl th tl b = some (w (timesP wa 65 sh sl th tl b).1 (timesP wa 65 sh sl th tl b).2) := by
  unfold timesRaw timesP
  by_cases hb : b > 0
  · rw [decide_eq_true hb, bt, bt]
    dsimp only
    have hd : wr .u64 (b.tdiv 2) < 18446744073709551616 := by rw [wr_u64]; omega
    exact timesP_eq 64 _ _ _ _ _ (by rw [p2_64]; exact hd) hd
  · rw [decide_eq_false hb, bf, bf]
/-- The words of a product, as the loop finds them. -/
def thI (a b : Int) : Int := (timesP waH 65 0 0 0 a b).1
def tlI (a b : Int) : Int := (timesP waH 65 0 0 0 a b).2
theorem times_eq {a b : Int} (ha : in64 a = true) (hb : in64 b = true) : thI a b = a * b / 18446744073709551616 ∧ tlI a b = a * b % 18446744073709551616 := by
  have ha := in64_iff.1 ha
  have hb := in64_iff.1 hb
  obtain ⟨rh, rl, r1, r2, r3, r4, r5, r6⟩ := timesRaw_eq 65 0 0 0 a b (by omega) (by omega) (by omega) (by omega) (by omega) (by omega) ha.1 ha.2 hb.1 hb.2 (by rw [show 65 = 64 + 1 by rfl, p2_add, p2_64, show p2 1 = 2 by kernel_rfl]; omega)
  rw [timesP_all] at r1
  simp only [w, Option.some.injEq, AV.agg.injEq, List.cons.injEq, AV.int.injEq, true_and, and_true] at r1
  unfold thI tlI
  rw [r1.1, r1.2]
  have hle : a * b ≤ 18446744073709551615 * 18446744073709551615 := Int.mul_le_mul (by omega) (by omega) hb.1 (by omega)
  have h0 := Int.mul_nonneg ha.1 hb.1
  have e : (0 * 18446744073709551616 + 0 + (0 * 18446744073709551616 + a) * b) = a * b := by
    rw [Int.zero_mul, Int.zero_add, Int.zero_add, Int.zero_add]
  rw [e] at r6
  generalize a * b = p at *
  omega

/-! ### Over -/
theorem overRaw_eq {b lo h : Int} (hb : 0 < b) (hb1 : b < 18446744073709551616) (hl0 : 0 ≤ lo) (hl1 : lo < 18446744073709551616) : ∀ (n : Nat) (left q : Int), n ≤ 64 → 0 ≤ left → left < b → 0 ≤ q →
    q * b + left = h * p2 (64 - n) + lo / p2 n → h < b → 0 ≤ h → ((overRaw b lo n left q).2 = (h * 18446744073709551616 + lo) / b ∧ (overRaw b lo n left q).1 = (h * 18446744073709551616 + lo) % b)
  | 0, left, q, _, l0, l1, q0, inv, hh, hh0 => by
    unfold overRaw
    dsimp only
    have e0 : p2 0 = 1 := by kernel_rfl
    rw [Nat.sub_zero, p2_64, e0, Int.ediv_one] at inv
    rw [← inv]
    constructor
    · rw [Int.add_comm, Int.add_mul_ediv_right _ _ (by omega), Int.ediv_eq_zero_of_lt l0 l1, Int.zero_add]
    · rw [Int.add_comm, Int.add_mul_emod_self_right, Int.emod_eq_of_lt l0 l1]
  | n + 1, left, q, hn, l0, l1, q0, inv, hh, hh0 => by
    unfold overRaw
    dsimp only
    have hmin : min n 64 = n := by omega
    rw [hmin]
    have hpn := p2_pos n
    have e2 : p2 (n + 1) = p2 n * 2 := by rw [p2_add]; rfl
    have e3 : p2 (64 - n) = p2 (64 - (n + 1)) * 2 := by rw [show 64 - n = 64 - (n + 1) + 1 by omega, p2_add]; rfl
    -- the bit that comes
    have hz0 : 0 ≤ lo / p2 n := Int.ediv_nonneg hl0 (by omega)
    have hz1 : lo / p2 n < 18446744073709551616 := by
      have := Int.ediv_le_self (p2 n) hl0; omega
    have hbit : band .u64 (lo / p2 n) 1 = lo / p2 n % 2 := by
      rw [band_eq hz0 hz1 (by omega) (by omega)]
      have : ((1 : Int)).toNat = 2 ^ 1 - 1 := by decide
      rw [this, Nat.and_two_pow_sub_one_eq_mod]
      omega
    have hz : lo / p2 (n + 1) = lo / p2 n / 2 := by rw [e2, Int.ediv_ediv_of_nonneg (by omega)]
    rw [hbit]
    have hlow : wr .u64 (left * 2) = left * 2 % 18446744073709551616 := wr_u64 _
    have hor : bor .u64 (left * 2 % 18446744073709551616) (lo / p2 n % 2) = left * 2 % 18446744073709551616 + lo / p2 n % 2 := by
      rw [bor_eq (by omega) (by omega) (by omega) (by omega)]
      have hev : (left * 2 % 18446744073709551616).toNat = 2 ^ 1 * ((left * 2 % 18446744073709551616).toNat / 2) := by omega
      rw [hev, or_add (by omega), ← hev]
      omega
    rw [hlow, hor]
    have hinv2 : q * 2 * b + (left * 2 + lo / p2 n % 2) = h * p2 (64 - n) + lo / p2 n := by
      rw [e3, ← Int.mul_assoc]
      rw [hz] at inv
      have : q * 2 * b = q * b * 2 := Int.mul_right_comm _ _ _
      generalize h * p2 (64 - (n + 1)) = hp at *
      generalize lo / p2 n = z at *
      generalize q * b = qb at *
      omega
    have hbb : 0 ≤ lo / p2 n % 2 ∧ lo / p2 n % 2 ≤ 1 := by omega
    generalize lo / p2 n % 2 = bit at *
    -- the quotient is a word
    have hq2 : q * 2 < 18446744073709551616 := by
      have hle : p2 (64 - n) ≤ 18446744073709551616 := by
        have : p2 (64 - n) * p2 n = 18446744073709551616 := by rw [← p2_add, show 64 - n + n = 64 by omega, p2_64]
        have h1 : 1 ≤ p2 n := by omega
        have := Int.mul_le_mul_of_nonneg_left h1 (Int.le_of_lt (p2_pos (64 - n)))
        omega
      apply Int.lt_of_not_ge
      intro hge
      have hzlt : lo / p2 n < p2 (64 - n) := by
        rw [Int.ediv_lt_iff_lt_mul hpn, ← p2_add, show 64 - n + n = 64 by omega, p2_64]; exact hl1
      have m1 : h * p2 (64 - n) ≤ (b - 1) * p2 (64 - n) := Int.mul_le_mul_of_nonneg_right (by omega) (Int.le_of_lt (p2_pos _))
      rw [Int.sub_mul, Int.one_mul] at m1
      have m2 : p2 (64 - n) * b ≤ q * 2 * b := Int.mul_le_mul_of_nonneg_right (by omega) (by omega)
      rw [Int.mul_comm (p2 (64 - n)) b] at m2
      omega
    have hw2 : wr .u64 (q * 2) = q * 2 := wu64_in (by omega) hq2
    rw [hw2]
    by_cases hc : left * 2 + bit ≥ b
    · have ec : (bif left / 9223372036854775808 == 1 then true else decide (left * 2 % 18446744073709551616 + bit ≥ b)) = true := by
        by_cases ht : left / 9223372036854775808 = 1
        · have : (left / 9223372036854775808 == 1) = true := by simp; exact ht
          rw [this, bt]
        · have : (left / 9223372036854775808 == 1) = false := by simp; exact ht
          rw [this, bf]
          exact decide_eq_true (by omega)
      rw [ec, bt, bt]
      have e5 : wr .u64 (left * 2 % 18446744073709551616 + bit - b) = left * 2 + bit - b := by rw [wr_u64]; omega
      rw [e5]
      have hq3 : wr .u64 (q * 2 + 1) = q * 2 + 1 := wu64_in (by omega) (by omega)
      rw [hq3]
      refine overRaw_eq hb hb1 hl0 hl1 n _ _ (by omega) (by omega) (by omega) (by omega) ?_ hh hh0
      rw [Int.add_mul, Int.one_mul, ← hinv2]; omega
    · have ec : (bif left / 9223372036854775808 == 1 then true else decide (left * 2 % 18446744073709551616 + bit ≥ b)) = false := by
        have : (left / 9223372036854775808 == 1) = false := by simp; omega
        rw [this, bf]
        exact decide_eq_false (by omega)
      rw [ec, bf, bf]
      have e5 : left * 2 % 18446744073709551616 + bit = left * 2 + bit := by omega
      rw [e5]
      refine overRaw_eq hb hb1 hl0 hl1 n _ _ (by omega) (by omega) (by omega) (by omega) ?_ hh hh0
      rw [← hinv2]

#print axioms times_eq
#print axioms overRaw_eq
end Go.Proofs.Ytcagaaaibhifdaa.Rx

/- The reference's sums, roots and lengths, as the interpreter finds them. Conditions: none. -/
namespace Go.Proofs.Ytcagaaaibhifdaa.Rx
open Go Go.Proofs.Ytcagaaaibhifdaa.Ae Go.Proofs.Ytcagaaaibhifdaa.Fx

section
variable (s : Int → Int) (th tl : Int → Int → Int) (ab : Int → Int → Int → Int → Bool) (rr : Int → Int → Int → Bool → Int × Bool) (ad : Int → Int → Bool → Int × Bool)
def raddS (a b : Int) : Int := wr .i64 (wr .i64 (wr .i64 (a.tdiv 2) + wr .i64 (b.tdiv 2)) + wr .i64 ((wr .i64 (a.tmod 2 + b.tmod 2)).tdiv 2))
theorem radd_raw (a b : Int) (bad : Bool) : acall Try.prog (envN s th tl ab rr ad) 60 29 [.ptr 0 0, .int .i64 a, .int .i64 b] [.cells [.bool bad] 27] (flowK 27) =
    ropRaw bad [a, b] fun bad => bif decide (raddS a b > 2305843009213693952) then some (.int .i64 0, true) else bif decide (raddS a b < -2305843009213693952) then some (.int .i64 0, true) else bif !rnum (wr .i64 (a + b)) then some (.int .i64 0, true) else some (.int .i64 (wr .i64 (a + b)), bad) := by kernel_rfl
/-- A search bit by bit. -/
def rroot (h l : Int) : Nat → Int → Int
  | 0, r => r
  | i + 1, r =>
    let t := wr .u64 (r + wr .u64 (1 * p2 (min i 64)))
    rroot h l i (bif !(ab (th t t) (tl t t) h l) then t else r)
theorem rsqrt_raw (a : Int) (bad : Bool) : acall Try.prog (envN s th tl ab rr ad) 90 64 [.ptr 0 0, .int .i64 a] [.cells [.bool bad] 27] (flowK 27) =
    ropRaw bad [a] fun bad => bif decide (a < 0) then some (.int .i64 0, true) else
        rgive (rroot th tl ab (th (wr .u64 a) 1099511627776) (tl (wr .u64 a) 1099511627776) 52 0) false bad := by kernel_rfl
theorem rnorm_raw (a b c : Int) (bad : Bool) : acall Try.prog (envN s th tl ab rr ad) 110 36 [.ptr 0 0, .int .i64 a, .int .i64 b, .int .i64 c] [.cells [.bool bad] 27] (flowK 27) =
    ropRaw bad [a, b, c] fun bad =>
        rgive (rroot th tl ab (waH (waH (th (s a) (s a)) (tl (s a) (s a)) (th (s b) (s b)) (tl (s b) (s b))) (wr .u64 (tl (s a) (s a) + tl (s b) (s b))) (th (s c) (s c)) (tl (s c) (s c)))
          (wr .u64 (wr .u64 (tl (s a) (s a) + tl (s b) (s b)) + tl (s c) (s c))) 63 0) false bad := by kernel_rfl
end
end Go.Proofs.Ytcagaaaibhifdaa.Rx

/- The contracts of the methods of the program's flow, in plain numbers. Conditions: none. -/
namespace Go.Proofs.Ytcagaaaibhifdaa.Fx
open Go Go.Proofs.Ytcagaaaibhifdaa.Ae

theorem EnvOk.t {P : Program} {env : Env} (t : EnvOk P env) {f : FuncId} (h : EnterOk P f) : EnvOk P ((f, .text) :: env) := EnvOk.cons (s := .text) h t
theorem EnvOk.p {P : Program} {env : Env} (t : EnvOk P env) {f : FuncId} (h : EnterOk P f) {C : List AV → Bool} {F : List AV → Option AV} (k : PureOk P f C F) : EnvOk P ((f, .pure C F) :: env) := EnvOk.cons (s := .pure C F) ⟨h, k⟩ t
theorem EnvOk.e {P : Program} {env : Env} (t : EnvOk P env) {f : FuncId} (h : EnterOk P f) {C : List AV → Bool} {F : List AV → List AB → Option (AV × List AB)} (k : EffOk P f C F) : EnvOk P ((f, .eff C F) :: env) := EnvOk.cons (s := .eff C F) ⟨h, k⟩ t
theorem EnvOk.x {P : Program} {env : Env} (t : EnvOk P env) {f : FuncId} {C : List AV → Bool} {F : List AV → Option AV} (k : ExtOk P f C F) : EnvOk P ((f, .ext C F) :: env) := EnvOk.cons (s := .ext C F) k t

theorem en_size : EnterOk Try.prog 52 := enter_of Try.func52 (by kernel_rfl) rfl
theorem en_mul64 : EnterOk Try.prog 53 := enter_of Try.func53 (by kernel_rfl) rfl
theorem en_len : EnterOk Try.prog 75 := enter_of Try.func75 (by kernel_rfl) rfl
theorem en_lz : EnterOk Try.prog 73 := enter_of Try.func73 (by kernel_rfl) rfl
theorem en_div64 : EnterOk Try.prog 70 := enter_of Try.func70 (by kernel_rfl) rfl
theorem en_give : EnterOk Try.prog 47 := enter_of Try.func47 (by kernel_rfl) rfl
theorem en_take : EnterOk Try.prog 45 := enter_of Try.func45 (by kernel_rfl) rfl
theorem en_fail : EnterOk Try.prog 18 := enter_of Try.func18 (by kernel_rfl) rfl
theorem en_root : EnterOk Try.prog 55 := enter_of Try.func55 (by kernel_rfl) rfl
theorem en_ratio : EnterOk Try.prog 46 := enter_of Try.func46 (by kernel_rfl) rfl
theorem en_add : EnterOk Try.prog 21 := enter_of Try.func21 (by kernel_rfl) rfl
theorem en_sub : EnterOk Try.prog 34 := enter_of Try.func34 (by kernel_rfl) rfl
theorem en_mul : EnterOk Try.prog 22 := enter_of Try.func22 (by kernel_rfl) rfl
theorem en_div : EnterOk Try.prog 20 := enter_of Try.func20 (by kernel_rfl) rfl
theorem en_part : EnterOk Try.prog 19 := enter_of Try.func19 (by kernel_rfl) rfl
theorem en_sqrt : EnterOk Try.prog 57 := enter_of Try.func57 (by kernel_rfl) rfl
theorem en_mod : EnterOk Try.prog 65 := enter_of Try.func65 (by kernel_rfl) rfl
theorem en_norm : EnterOk Try.prog 32 := enter_of Try.func32 (by kernel_rfl) rfl

theorem ok_nil : EnvOk Try.prog [] := EnvOk.nil _
theorem lz_con : PureOk Try.prog 73 anyArgs (lzF lzI) := lz_ok (EnvOk.p ok_nil en_len len_ok)
theorem lz_con' : PureOk Try.prog 73 lzC (lzF lzI) := fun args v _ h => lz_con args v rfl h
theorem div_con : PureOk Try.prog 70 divC (divF qtI rmI) := div_ok (EnvOk.p ok_nil en_lz lz_con')

theorem ratio_con : EffOk Try.prog 46 (fun l => ratC l.tail) (flowSpec 25 (int3 ratF)) := by
  have hE : EnvOk Try.prog (envQ sz sb mulHi qtI rmI) :=
    EnvOk.p (EnvOk.p (EnvOk.p (EnvOk.t ok_nil en_give) en_div64 div_con) en_mul64 mul_ok) en_size size_ok
  refine flow_of hE 60 _ _ _ _ ?_
  intro args g hC h b
  unfold int3 at h
  split at h <;> cases h
  simp only [ratC, Bool.and_eq_true] at hC
  rw [ratio_raw, ratio_eq hC.1.1 hC.1.2 hC.2]

theorem root_con : PureOk Try.prog 55 anyArgs (rootF rootI) := by
  refine pure_of (EnvOk.p ok_nil en_mul64 mul_ok : EnvOk Try.prog (envR mulHi)) 120 _ _ _ ?_
  rintro args v - h
  unfold rootF at h
  split at h <;> cases h
  exact ⟨rfl, rfl, root_raw _ _ _⟩

def aduI (x y c : Int) : Int := (x + y + c) % 18446744073709551616
def adcI (x y c : Int) : Int := (x + y + c) / 18446744073709551616
theorem add64_con : ExtOk Try.prog 54 addC (addF aduI adcI) := by
  intro args v hC h m Args hA
  unfold addF at h
  split at h <;> cases h
  rename_i x y c
  simp only [addC, Bool.and_eq_true, decide_eq_true_eq] at hC
  obtain ⟨X, _, e1, hx, h2⟩ := RL_cons.1 hA
  obtain ⟨Y, _, rfl, hy, h3⟩ := RL_cons.1 h2
  obtain ⟨Z, _, rfl, hz, h4⟩ := RL_cons.1 h3
  rw [RL_nil.1 h4] at e1
  simp only [R] at hx hy hz
  have hArgs : Args = #[.int .u64 x, .int .u64 y, .int .u64 c] := Array.toList_inj.1 (by rw [e1, hx, hy, hz])
  refine ⟨.tuple #[.int .u64 (aduI x y c), .int .u64 (adcI x y c)], ?_, fun w => ?_⟩
  · simp only [R]
    exact ⟨_, rfl, RL.cons (R_int _ _ _) (RL.cons (R_int _ _ _) (RL_nil.2 rfl))⟩
  · rw [hArgs]
    have hfind : Extern.find Try.f54 = some add64Entry := by kernel_rfl
    have hnext : Extern.findNext Try.f54 = none := by kernel_rfl
    have hname : (Try.f54.name == "runtime.NumGoroutine") = false := by kernel_rfl
    have hbody : Try.f54.body.isNone = true := by kernel_rfl
    simp only [callFunc, Sem.run_bind, run_program, Result.andThen_ok, Try.func54, hname, hbody, Bool.false_eq_true, if_false, if_true, hnext, hfind]
    have := run_add64 (P := Try.prog) x y c hC.1.1.1 hC.1.1.2 hC.1.2 hC.2 w
    simp only [mark, Sem.run, Result.andThen_ok, this]
    rfl

/-! ### The methods -/
theorem takeB_eq : ∀ (l : List Int) (bad : Bool), takeB bad l = (bad || l.any (fun n => !okn n))
  | [], bad => by simp [takeB]
  | n :: l, bad => by
    unfold takeB
    rw [takeB_eq l]
    have : (bif (bif bad then true else decide (n > 4611686018427387904)) then true else decide (n < -4611686018427387904)) = (bad || !okn n) := by
      unfold okn
      by_cases h1 : n > 4611686018427387904 <;> by_cases h2 : n < -4611686018427387904 <;> cases bad <;> simp [h1, h2] <;> omega
    rw [this, List.any_cons, Bool.or_assoc]

theorem opRaw_bad {bad : Bool} {l : List Int} (h : (bad || l.any (fun n => !okn n)) = true) (k : Bool → Option (AV × Bool)) : opRaw bad l k = some (.int .i64 0, true) := by
  unfold opRaw
  rw [takeB_eq, h]; rfl
theorem opRaw_ok {bad : Bool} {l : List Int} (h : (bad || l.any (fun n => !okn n)) = false) (k : Bool → Option (AV × Bool)) : opRaw bad l k = k false := by
  unfold opRaw
  rw [takeB_eq, h]; rfl
theorem lift_bad {bad : Bool} {l : List Int} (h : (bad || l.any (fun n => !okn n)) = true) (o : Option Int) : lift bad l o = (0, true) := by
  unfold lift; rw [if_pos h]
theorem lift_ok {bad : Bool} {l : List Int} (h : (bad || l.any (fun n => !okn n)) = false) (o : Option Int) : lift bad l o = resB false o := by
  unfold lift; rw [if_neg (by simp [h])]

theorem okn_iff {n : Int} : okn n = true ↔ -4611686018427387904 ≤ n ∧ n ≤ 4611686018427387904 := by simp [okn]
theorem rng_of {n : Int} (h : okn n = true) : rng n = true := by
  have := okn_iff.1 h
  simp [rng]; omega
theorem rng_one : rng 1099511627776 = true := by decide

/-- The pair that a method's answer is. -/
def av (p : Int × Bool) : Option (AV × Bool) := some (.int .i64 p.1, p.2)

theorem rrRaw_eq {a b c : Int} (ha : rng a = true) (hb : rng b = true) (hc : rng c = true) : rrRaw ratF a b c false = av (resB false (rat a b c)) := by
  unfold rrRaw
  have hC : ratC [.int .i64 a, .int .i64 b, .int .i64 c] = true := by simp only [ratC, ha, hb, hc, Bool.and_self]
  rw [hC, bt]
  rfl

theorem all_ok2 {bad : Bool} {a b : Int} (h : (bad || [a, b].any (fun n => !okn n)) = false) : bad = false ∧ okn a = true ∧ okn b = true := by
  simp at h; exact h
theorem all_ok3 {bad : Bool} {a b c : Int} (h : (bad || [a, b, c].any (fun n => !okn n)) = false) : bad = false ∧ okn a = true ∧ okn b = true ∧ okn c = true := by
  simp at h; exact h
theorem all_ok1 {bad : Bool} {a : Int} (h : (bad || [a].any (fun n => !okn n)) = false) : bad = false ∧ okn a = true := by
  simp at h; exact h

theorem mul_plain (a b : Int) (bad : Bool) : opRaw bad [a, b] (rrRaw ratF a b 1099511627776) = av (mul a b bad) := by
  unfold mul
  cases h : (bad || [a, b].any (fun n => !okn n)) with
  | true => rw [opRaw_bad h, lift_bad h]; rfl
  | false =>
    obtain ⟨_, h1, h2⟩ := all_ok2 h
    rw [opRaw_ok h, lift_ok h, rrRaw_eq (rng_of h1) (rng_of h2) rng_one]
theorem div_plain (a b : Int) (bad : Bool) : opRaw bad [a, b] (rrRaw ratF a 1099511627776 b) = av (div a b bad) := by
  unfold div
  cases h : (bad || [a, b].any (fun n => !okn n)) with
  | true => rw [opRaw_bad h, lift_bad h]; rfl
  | false =>
    obtain ⟨_, h1, h2⟩ := all_ok2 h
    rw [opRaw_ok h, lift_ok h, rrRaw_eq (rng_of h1) rng_one (rng_of h2)]
theorem part_plain (a b c : Int) (bad : Bool) : opRaw bad [a, b, c] (rrRaw ratF a b c) = av (part a b c bad) := by
  unfold part
  cases h : (bad || [a, b, c].any (fun n => !okn n)) with
  | true => rw [opRaw_bad h, lift_bad h]; rfl
  | false =>
    obtain ⟨_, h1, h2, h3⟩ := all_ok3 h
    rw [opRaw_ok h, lift_ok h, rrRaw_eq (rng_of h1) (rng_of h2) (rng_of h3)]
/-- Does a sum not fit? -/
def addBig (a b : Int) : Bool := bif (bif !(!(bif a == 4611686018427387904 then b == 4611686018427387904 else false)) then true else decide (wr .i64 (a + b) > 4611686018427387904)) then true else decide (wr .i64 (a + b) < -4611686018427387904)
theorem addBig_no {a b : Int} (h1 : -4611686018427387904 ≤ a + b) (h2 : a + b ≤ 4611686018427387904) : addBig a b = false := by
  unfold addBig
  rw [w64_in (by omega) (by omega), decide_eq_false (show ¬ a + b > 4611686018427387904 by omega), decide_eq_false (show ¬ a + b < -4611686018427387904 by omega)]
  by_cases ea : a = 4611686018427387904
  · have e : (b == 4611686018427387904) = false := by simp; omega
    rw [e]; cases (a == 4611686018427387904) <;> rfl
  · have e : (a == 4611686018427387904) = false := by simp; exact ea
    rw [e]; rfl
theorem addBig_yes {a b : Int} (ha : -4611686018427387904 ≤ a ∧ a ≤ 4611686018427387904) (hb : -4611686018427387904 ≤ b ∧ b ≤ 4611686018427387904) (h : ¬ (-4611686018427387904 ≤ a + b ∧ a + b ≤ 4611686018427387904)) : addBig a b = true := by
  unfold addBig
  by_cases ea : a = 4611686018427387904 ∧ b = 4611686018427387904
  · obtain ⟨rfl, rfl⟩ := ea
    have e : ((4611686018427387904 : Int) == 4611686018427387904) = true := by simp
    rw [e]; simp only [bt, Bool.not_true, Bool.not_false]
  · rw [w64_in (n := a + b) (by omega) (by omega)]
    by_cases hgt : a + b > 4611686018427387904
    · rw [decide_eq_true hgt]; cases (bif a == 4611686018427387904 then b == 4611686018427387904 else false) <;> simp only [bt, bf, Bool.not_true, Bool.not_false]
    · rw [decide_eq_true (show a + b < -4611686018427387904 by omega)]
      cases (bif !(!(bif a == 4611686018427387904 then b == 4611686018427387904 else false)) then true else decide (a + b > 4611686018427387904)) <;> simp only [bt, bf]
theorem add_plain (a b : Int) (bad : Bool) : (opRaw bad [a, b] fun bad => bif (bif (bif !(!(bif a == 4611686018427387904 then b == 4611686018427387904 else false)) then true else decide (wr .i64 (a + b) > 4611686018427387904)) then true else decide (wr .i64 (a + b) < -4611686018427387904)) then some (.int .i64 0, true) else some (.int .i64 (wr .i64 (a + b)), bad)) = av (add a b bad) := by
  unfold add
  cases h : (bad || [a, b].any (fun n => !okn n)) with
  | true => rw [opRaw_bad h, lift_bad h]; rfl
  | false =>
    obtain ⟨_, h1, h2⟩ := all_ok2 h
    rw [opRaw_ok h, lift_ok h]
    have i1 := okn_iff.1 h1
    have i2 := okn_iff.1 h2
    change (bif addBig a b then some (AV.int .i64 0, true) else some (AV.int .i64 (wr .i64 (a + b)), false)) = _
    by_cases hs : okn (a + b) = true
    · have i3 := okn_iff.1 hs
      rw [if_pos hs, addBig_no i3.1 i3.2, bf, w64_in (by omega) (by omega)]; rfl
    · rw [if_neg hs, addBig_yes i1 i2 (fun e => hs (okn_iff.2 e)), bt]; rfl
theorem sub_plain (a b : Int) (bad : Bool) : (opRaw bad [a, b] fun bad => some (.int .i64 (add a (wr .i64 (0 - b)) bad).1, (add a (wr .i64 (0 - b)) bad).2)) = av (sub a b bad) := by
  unfold sub
  cases h : (bad || [a, b].any (fun n => !okn n)) with
  | true => rw [opRaw_bad h, lift_bad h]; rfl
  | false =>
    obtain ⟨_, h1, h2⟩ := all_ok2 h
    rw [opRaw_ok h, lift_ok h]
    have i1 := okn_iff.1 h1
    have i2 := okn_iff.1 h2
    have hb : wr .i64 (0 - b) = -b := by rw [w64_in (by omega) (by omega)]; omega
    have h3 : okn (-b) = true := okn_iff.2 (by omega)
    rw [hb]
    unfold add
    rw [lift_ok (l := [a, -b]) (by simp [h1, h3])]
    rfl
theorem sqrt_plain (a : Int) (bad : Bool) : (bif (bif !(!takeB bad [a]) then true else decide (a < 0)) then some (.int .i64 0, true) else giveRaw (wr .i64 (rootI (wr .u64 a / 16777216) (wr .u64 (wr .u64 a * 1099511627776)))) (takeB bad [a])) = av (sqrt a bad) := by
  unfold sqrt
  rw [takeB_eq]
  cases h : (bad || [a].any (fun n => !okn n)) with
  | true => rw [lift_bad h]; rfl
  | false =>
    obtain ⟨_, h1⟩ := all_ok1 h
    rw [lift_ok h]
    have i1 := okn_iff.1 h1
    by_cases hn : a < 0
    · rw [decide_eq_true hn, if_pos hn]; rfl
    · rw [decide_eq_false hn, if_neg hn]
      simp only [Bool.not_false, Bool.not_true, bt, bf]
      rw [wu64_in (n := a) (by omega) (by omega), wr_u64]
      rw [rootI_eq (by omega) (by omega) (by omega) (by omega)]
      have hN : (a / 16777216).toNat * 18446744073709551616 + (a * 1099511627776 % 18446744073709551616).toNat = a.toNat * 1099511627776 := by omega
      rw [hN]
      have hr := (isq_ok (N := a.toNat * 1099511627776) (by
        have : (2 : Nat) ^ 128 = 340282366920938463463374607431768211456 := by kernel_rfl
        rw [this]; omega)).1
      have hle : isq (a.toNat * 1099511627776) ≤ 4611686018427387904 := by
        apply Nat.le_of_not_lt
        intro hlt
        have := Nat.mul_self_le_mul_self (show 4611686018427387904 ≤ isq (a.toNat * 1099511627776) by omega)
        omega
      generalize isq (a.toNat * 1099511627776) = r at *
      rw [w64_in (by omega) (by omega), give_in (by omega) (by omega)]
      rfl
theorem mod_plain (a m : Int) (bad : Bool) : (bif (bif !(!takeB bad [a, m]) then true else decide (m ≤ 0)) then some (.int .i64 0, true) else
    bif m == 0 then none else bif m == 0 then none else some (.int .i64 ((wr .i64 (a.tmod m + m)).tmod m), takeB bad [a, m])) = av (mod a m bad) := by
  unfold mod
  rw [takeB_eq]
  cases h : (bad || [a, m].any (fun n => !okn n)) with
  | true => rw [lift_bad h]; rfl
  | false =>
    obtain ⟨_, h1, h2⟩ := all_ok2 h
    rw [lift_ok h]
    have i1 := okn_iff.1 h1
    have i2 := okn_iff.1 h2
    by_cases hn : m ≤ 0
    · rw [decide_eq_true hn, if_pos hn]; rfl
    · rw [decide_eq_false hn, if_neg hn]
      have e0 : (m == 0) = false := by simp; omega
      rw [e0]
      simp only [Bool.not_false, Bool.not_true, bt, bf]
      have hm : 0 < m := by omega
      have t1 : -m < a.tmod m ∧ a.tmod m < m := ⟨by have := Int.tmod_lt_of_pos (-a) hm; rw [Int.neg_tmod] at this; omega, Int.tmod_lt_of_pos a hm⟩
      rw [w64_in (by omega) (by omega), Int.tmod_eq_emod_of_nonneg (by omega)]
      have e1 : (a.tmod m + m) % m = a % m := by
        rw [Int.add_emod_right]
        have := Int.tmod_add_mul_tdiv a m
        conv => rhs; rw [← this]
        rw [Int.add_mul_emod_self_left]
      rw [e1]; rfl
theorem normStep_eq {n hi lo : Int} (hn : rng n = true) (h0 : 0 ≤ hi) (l0 : 0 ≤ lo) (l1 : lo < 18446744073709551616) (k : Int → Int → Option (AV × Bool)) (hh : hi < 9223372036854775808) :
    ∃ hi' lo', normStep sz mulHi aduI adcI n hi lo k = k hi' lo' ∧ 0 ≤ hi' ∧ 0 ≤ lo' ∧ lo' < 18446744073709551616 ∧ hi' * 18446744073709551616 + lo' = hi * 18446744073709551616 + lo + (n.natAbs * n.natAbs : Nat) := by
  obtain ⟨e, u⟩ := sz_eq hn
  obtain ⟨m1, m2, m3, m4⟩ := mulHi_low (x := (n.natAbs : Int)) (y := (n.natAbs : Int)) (by omega) (by omega) (by omega) (by omega)
  have hsq : (n.natAbs : Int) * n.natAbs ≤ 85070591730234615865843651857942052864 := by
    have := Int.mul_le_mul u u (by omega) (by omega)
    omega
  have hp : (n.natAbs : Int) * (n.natAbs : Int) = ((n.natAbs * n.natAbs : Nat) : Int) := by rw [Int.natCast_mul]
  unfold normStep
  dsimp only
  rw [e]
  rw [hp] at m2 m3 m4 hsq ⊢
  generalize n.natAbs * n.natAbs = p at *
  generalize mulHi (n.natAbs : Int) (n.natAbs : Int) = h at *
  generalize wr .u64 (p : Int) = l at *
  have c1 : addC [.int .u64 lo, .int .u64 l, .int .u64 0] = true := by
    simp only [addC, Bool.and_eq_true, decide_eq_true_eq]; omega
  have hc : 0 ≤ adcI lo l 0 ∧ adcI lo l 0 ≤ 1 := by unfold adcI; omega
  have c2 : addC [.int .u64 hi, .int .u64 h, .int .u64 (adcI lo l 0)] = true := by
    simp only [addC, Bool.and_eq_true, decide_eq_true_eq]; omega
  rw [c1, c2]
  simp only [bt]
  refine ⟨_, _, rfl, ?_, ?_, ?_, ?_⟩ <;> simp only [aduI, adcI] <;> omega
def normK (hi lo : Int) (bad : Bool) : Option (AV × Bool) :=
  bif (bif (bif !(decide (rootI hi lo ≤ 4611686018427387904)) then true else decide (wr .i64 (rootI hi lo) > 4611686018427387904)) then true else decide (wr .i64 (rootI hi lo) < -4611686018427387904)) then some (.int .i64 0, true) else some (.int .i64 (wr .i64 (rootI hi lo)), bad)
theorem normK_eq {hi lo : Int} {r : Nat} (h : rootI hi lo = (r : Int)) (hr : r ≤ 9223372036854775807) (bad : Bool) : normK hi lo bad = if r > 4611686018427387904 then some (.int .i64 0, true) else some (.int .i64 (r : Int), bad) := by
  unfold normK
  rw [h, w64_in (by omega) (by omega)]
  by_cases hb : r > 4611686018427387904
  · rw [if_pos hb, decide_eq_false (show ¬ (r : Int) ≤ 4611686018427387904 by omega)]; simp only [Bool.not_false, bt]
  · rw [if_neg hb, decide_eq_true (show (r : Int) ≤ 4611686018427387904 by omega), decide_eq_false (show ¬ (r : Int) > 4611686018427387904 by omega), decide_eq_false (show ¬ (r : Int) < -4611686018427387904 by omega)]
    simp only [Bool.not_true, bf]
theorem norm_end (r : Nat) : (if r > 4611686018427387904 then some (AV.int .i64 0, true) else some (AV.int .i64 (r : Int), false)) = av (resB false (upTo r)) := by
  unfold upTo
  by_cases hb : r > 4611686018427387904
  · rw [if_pos hb, if_pos hb]; rfl
  · rw [if_neg hb, if_neg hb]; rfl
theorem norm_plain (a b c : Int) (bad : Bool) : (opRaw bad [a, b, c] fun bad =>
    normStep sz mulHi aduI adcI a 0 0 fun hi lo => normStep sz mulHi aduI adcI b hi lo fun hi lo => normStep sz mulHi aduI adcI c hi lo fun hi lo => normK hi lo bad) = av (norm a b c bad) := by
  unfold norm
  cases h : (bad || [a, b, c].any (fun n => !okn n)) with
  | true => rw [opRaw_bad h, lift_bad h]; rfl
  | false =>
    obtain ⟨_, h1, h2, h3⟩ := all_ok3 h
    rw [opRaw_ok h, lift_ok h]
    have sq : ∀ n : Int, okn n = true → n.natAbs * n.natAbs ≤ 21267647932558653966460912964485513216 := fun n hn => by
      have i := okn_iff.1 hn
      have := Nat.mul_le_mul (show n.natAbs ≤ 4611686018427387904 by omega) (show n.natAbs ≤ 4611686018427387904 by omega)
      omega
    have s1 := sq a h1
    have s2 := sq b h2
    have s3 := sq c h3
    obtain ⟨x1, y1, e1, p1, q1, r1, t1⟩ := normStep_eq (n := a) (hi := 0) (lo := 0) (rng_of h1) (by omega) (by omega) (by omega) (fun hi lo => normStep sz mulHi aduI adcI b hi lo fun hi lo => normStep sz mulHi aduI adcI c hi lo fun hi lo => normK hi lo false) (by omega)
    obtain ⟨x2, y2, e2, p2, q2, r2, t2⟩ := normStep_eq (n := b) (hi := x1) (lo := y1) (rng_of h2) p1 q1 r1 (fun hi lo => normStep sz mulHi aduI adcI c hi lo fun hi lo => normK hi lo false) (by omega)
    obtain ⟨x3, y3, e3, p3, q3, r3, t3⟩ := normStep_eq (n := c) (hi := x2) (lo := y2) (rng_of h3) p2 q2 r2 (fun hi lo => normK hi lo false) (by omega)
    refine Eq.trans (e1.trans (e2.trans e3)) ?_
    have hroot := rootI_eq p3 (by omega) q3 r3
    have hN : x3.toNat * 18446744073709551616 + y3.toNat = a.natAbs * a.natAbs + b.natAbs * b.natAbs + c.natAbs * c.natAbs := by omega
    rw [hN] at hroot
    have hr := (isq_ok (N := a.natAbs * a.natAbs + b.natAbs * b.natAbs + c.natAbs * c.natAbs) (by
      have : (2 : Nat) ^ 128 = 340282366920938463463374607431768211456 := by kernel_rfl
      rw [this]; omega)).1
    have hle : isq (a.natAbs * a.natAbs + b.natAbs * b.natAbs + c.natAbs * c.natAbs) ≤ 9223372036854775807 := by
      apply Nat.le_of_not_lt
      intro hlt
      have := Nat.mul_self_le_mul_self (show 9223372036854775808 ≤ isq (a.natAbs * a.natAbs + b.natAbs * b.natAbs + c.natAbs * c.natAbs) by omega)
      omega
    exact (normK_eq hroot hle false).trans (norm_end _)

/-! ### The contracts -/
theorem int2_some {f : Int → Int → Bool → Int × Bool} {args : List AV} {g : Bool → AV × Bool} (h : int2 f args = some g) : ∃ a b, args = [.int .i64 a, .int .i64 b] ∧ ∀ bad, some (g bad) = av (f a b bad) := by
  unfold int2 at h
  split at h <;> cases h
  exact ⟨_, _, rfl, fun _ => rfl⟩
theorem int3_some {f : Int → Int → Int → Bool → Int × Bool} {args : List AV} {g : Bool → AV × Bool} (h : int3 f args = some g) : ∃ a b c, args = [.int .i64 a, .int .i64 b, .int .i64 c] ∧ ∀ bad, some (g bad) = av (f a b c bad) := by
  unfold int3 at h
  split at h <;> cases h
  exact ⟨_, _, _, rfl, fun _ => rfl⟩
theorem int1_some {f : Int → Bool → Int × Bool} {args : List AV} {g : Bool → AV × Bool} (h : int1 f args = some g) : ∃ a, args = [.int .i64 a] ∧ ∀ bad, some (g bad) = av (f a bad) := by
  unfold int1 at h
  split at h <;> cases h
  exact ⟨_, rfl, fun _ => rfl⟩

/-- A method's contract. -/
abbrev Meth (f : FuncId) (F : List AV → Option (Bool → AV × Bool)) : Prop := EffOk Try.prog f (fun _ => true) (flowSpec 25 F)

theorem base_ok {ad : Int → Int → Bool → Int × Bool} (hA : Meth 21 (int2 ad)) : EnvOk Try.prog (envM sz sb mulHi ratF ad rootI aduI adcI) :=
  EnvOk.t (EnvOk.e (EnvOk.t (EnvOk.t (EnvOk.p (EnvOk.p (EnvOk.p (EnvOk.x (EnvOk.e ok_nil en_add hA) add64_con) en_mul64 mul_ok) en_size size_ok) en_root root_con) en_fail) en_give) en_ratio ratio_con) en_take

/-- The part of the list that the sum's own text is read with. -/
def envA : Env := [(45, .text), (47, .text)]
theorem add_raw' (a b : Int) (bad : Bool) : acall Try.prog envA 60 21 [.ptr 0 0, .int .i64 a, .int .i64 b] [.cells [.bool bad] 25] (flowK 25) =
    opRaw bad [a, b] fun bad => bif (bif (bif !(!(bif a == 4611686018427387904 then b == 4611686018427387904 else false)) then true else decide (wr .i64 (a + b) > 4611686018427387904)) then true else decide (wr .i64 (a + b) < -4611686018427387904)) then some (.int .i64 0, true) else some (.int .i64 (wr .i64 (a + b)), bad) := by kernel_rfl
theorem add_con : Meth 21 (int2 add) := by
  have hE : EnvOk Try.prog envA := EnvOk.t (EnvOk.t ok_nil en_give) en_take
  refine flow_of hE 60 _ _ (fun _ => true) _ ?_
  intro args g _ h bad
  obtain ⟨a, b, rfl, hg⟩ := int2_some h
  rw [add_raw', add_plain, hg]
theorem sub_con : Meth 34 (int2 sub) := by
  refine flow_of (base_ok add_con) 60 _ _ (fun _ => true) _ ?_
  intro args g _ h bad
  obtain ⟨a, b, rfl, hg⟩ := int2_some h
  rw [sub_raw, sub_plain, hg]
theorem mul_con : Meth 22 (int2 mul) := by
  refine flow_of (base_ok add_con) 60 _ _ (fun _ => true) _ ?_
  intro args g _ h bad
  obtain ⟨a, b, rfl, hg⟩ := int2_some h
  rw [mul_raw, mul_plain, hg]
theorem div_meth : Meth 20 (int2 div) := by
  refine flow_of (base_ok add_con) 60 _ _ (fun _ => true) _ ?_
  intro args g _ h bad
  obtain ⟨a, b, rfl, hg⟩ := int2_some h
  rw [div_raw2, div_plain, hg]
theorem mod_con : Meth 65 (int2 mod) := by
  refine flow_of (base_ok add_con) 60 _ _ (fun _ => true) _ ?_
  intro args g _ h bad
  obtain ⟨a, b, rfl, hg⟩ := int2_some h
  rw [mod_raw, mod_plain, hg]
theorem part_con : Meth 19 (int3 part) := by
  refine flow_of (base_ok add_con) 60 _ _ (fun _ => true) _ ?_
  intro args g _ h bad
  obtain ⟨a, b, c, rfl, hg⟩ := int3_some h
  rw [part_raw, part_plain, hg]
theorem norm_con : Meth 32 (int3 norm) := by
  refine flow_of (base_ok add_con) 60 _ _ (fun _ => true) _ ?_
  intro args g _ h bad
  obtain ⟨a, b, c, rfl, hg⟩ := int3_some h
  rw [norm_raw]
  refine Eq.trans (norm_plain a b c bad) (hg bad).symm
theorem sqrt_con : Meth 57 (int1 sqrt) := by
  refine flow_of (base_ok add_con) 60 _ _ (fun _ => true) _ ?_
  intro args g _ h bad
  obtain ⟨a, rfl, hg⟩ := int1_some h
  rw [sqrt_raw, sqrt_plain, hg]

#print axioms norm_con
end Go.Proofs.Ytcagaaaibhifdaa.Fx

/- The contracts of the reference's ratio. Conditions: none. -/
namespace Go.Proofs.Ytcagaaaibhifdaa.Rx
open Go Go.Proofs.Ytcagaaaibhifdaa.Ae Go.Proofs.Ytcagaaaibhifdaa.Fx

theorem en_add : EnterOk Try.prog 58 := enter_of Try.func58 (by kernel_rfl) rfl
theorem en_times : EnterOk Try.prog 59 := enter_of Try.func59 (by kernel_rfl) rfl
theorem en_over : EnterOk Try.prog 74 := enter_of Try.func74 (by kernel_rfl) rfl
theorem en_rounded : EnterOk Try.prog 71 := enter_of Try.func71 (by kernel_rfl) rfl
theorem en_size : EnterOk Try.prog 60 := enter_of Try.func60 (by kernel_rfl) rfl
theorem en_number : EnterOk Try.prog 51 := enter_of Try.func51 (by kernel_rfl) rfl
theorem en_above : EnterOk Try.prog 61 := enter_of Try.func61 (by kernel_rfl) rfl
theorem en_rgive : EnterOk Try.prog 62 := enter_of Try.func62 (by kernel_rfl) rfl
theorem en_rtake : EnterOk Try.prog 49 := enter_of Try.func49 (by kernel_rfl) rfl
theorem en_rratio : EnterOk Try.prog 50 := enter_of Try.func50 (by kernel_rfl) rfl
theorem en_rAdd : EnterOk Try.prog 29 := enter_of Try.func29 (by kernel_rfl) rfl

theorem _root_.Go.Proofs.Ytcagaaaibhifdaa.Ae.EnvOk.c {P : Program} {env : Env} (t : EnvOk P env) {f : FuncId} (h : EnterOk P f) {F : List AV → Option AV} (k : PureOk P f (fun _ => true) F) : EnvOk P ((f, .calc F) :: env) := EnvOk.cons (s := .calc F) ⟨h, k⟩ t

theorem rsize_con : PureOk Try.prog 60 anyA (rsizeF sz) := by
  refine pure_of ok_nil 30 _ _ _ ?_
  rintro args v - h
  unfold rsizeF at h
  split at h <;> cases h
  rename_i n
  refine ⟨rfl, rfl, ?_⟩
  rw [rsize_raw, sz]
  cases decide (n < 0) <;> rfl
theorem times_con : PureOk Try.prog 59 anyA (timesF thI tlI) := by
  have hE : EnvOk Try.prog (envT waH) := EnvOk.c ok_nil en_add wa_ok
  refine pure_of hE 75 _ _ _ ?_
  rintro args v - h
  unfold timesF at h
  split at h <;> cases h
  refine ⟨rfl, rfl, ?_⟩
  rw [times_raw, timesP_all]
  rfl
def ovBad (h b : Int) : Bool := bif b == 0 then true else decide (h ≥ b)
def okI (h _l b : Int) : Bool := !(ovBad h b)
def qoI (h l b : Int) : Int := bif ovBad h b then 0 else (overRaw b l 64 h 0).2
def loI (h l b : Int) : Int := bif ovBad h b then 0 else (overRaw b l 64 h 0).1
theorem over_con : PureOk Try.prog 74 anyA (overF okI qoI loI) := by
  refine pure_of ok_nil 90 _ _ _ ?_
  rintro args v - hh
  unfold overF at hh
  split at hh <;> cases hh
  rename_i h l b
  refine ⟨rfl, rfl, ?_⟩
  refine Eq.trans (over_raw h l b) ?_
  unfold okI qoI loI
  change (bif ovBad h b then _ else _) = _
  cases ovBad h b <;> rfl
def rdBad (h l b : Int) : Bool := bif !(okI h l b) then true else decide (qoI h l b > 4611686018427387904)
def roI (h l b : Int) : Bool := !(rdBad h l b)
def rqI (h l b : Int) : Int := bif rdBad h l b then 0 else bif decide (loI h l b ≥ wr .u64 (b - loI h l b)) then wr .u64 (qoI h l b + 1) else qoI h l b
theorem rounded_con : PureOk Try.prog 71 anyA (roundedF rqI roI) := by
  refine pure_of (EnvOk.p ok_nil en_over over_con : EnvOk Try.prog (envO okI qoI loI)) 40 _ _ _ ?_
  rintro args v - hh
  unfold roundedF at hh
  split at hh <;> cases hh
  rename_i h l b
  refine ⟨rfl, rfl, ?_⟩
  refine Eq.trans (rounded_raw okI qoI loI h l b) ?_
  unfold roI rqI
  change (bif rdBad h l b then _ else _) = _
  cases rdBad h l b <;> rfl

theorem rsigns (a b c : Int) : (Int.tmod (bif decide (c < 0) then wr .i64 ((bif decide (b < 0) then wr .i64 ((bif decide (a < 0) then wr .i64 (0 + 1) else 0) + 1) else bif decide (a < 0) then wr .i64 (0 + 1) else 0) + 1) else bif decide (b < 0) then wr .i64 ((bif decide (a < 0) then wr .i64 (0 + 1) else 0) + 1) else bif decide (a < 0) then wr .i64 (0 + 1) else 0) 2 == 1) = sgn3 a b c := by
  unfold sgn3
  cases decide (a < 0) <;> cases decide (b < 0) <;> cases decide (c < 0) <;> kernel_rfl

theorem rgive_big {q : Int} (h : q > 4611686018427387904) (below bad : Bool) : rgive q below bad = some (.int .i64 0, true) := by
  unfold rgive
  rw [decide_eq_true h, bt]
theorem rgive_in {q : Int} (h : 0 ≤ q) (h' : q ≤ 4611686018427387904) (below bad : Bool) : rgive q below bad = some (.int .i64 (if below then -q else q), bad) := by
  unfold rgive
  rw [decide_eq_false (by omega), bf, w64_in (n := q) (by omega) (by omega)]
  cases below
  · rw [bf, if_neg (by simp)]
  · rw [bt, if_pos rfl, w64_in (by omega) (by omega), Int.zero_sub]

theorem rratio_eq {a b c : Int} (ha : rng a = true) (hb : rng b = true) (hc : rng c = true) (bad : Bool) :
    rratRaw sz thI tlI rqI roI a b c bad = some (.int .i64 (ratF a b c bad).1, (ratF a b c bad).2) := by
  obtain ⟨ea, ua⟩ := sz_eq ha
  obtain ⟨eb, ub⟩ := sz_eq hb
  obtain ⟨ec, uc⟩ := sz_eq hc
  unfold rratRaw
  rw [ea, eb, ec]
  obtain ⟨t1, t2⟩ := times_eq (a := (a.natAbs : Int)) (b := (b.natAbs : Int)) (in64_iff.2 (by omega)) (in64_iff.2 (by omega))
  have hp : (a.natAbs : Int) * (b.natAbs : Int) = ((a.natAbs * b.natAbs : Nat) : Int) := by rw [Int.natCast_mul]
  dsimp only
  rw [rsigns, t1, t2, hp]
  unfold ratF rat
  have hcz : c = 0 ↔ c.natAbs = 0 := by omega
  generalize sgn3 a b c = sg at *
  generalize a.natAbs * b.natAbs = p at *
  generalize c.natAbs = z at *
  generalize hh : (p : Int) / 18446744073709551616 = h at *
  generalize hl : (p : Int) % 18446744073709551616 = l at *
  unfold roI rqI rdBad okI
  by_cases z0 : z = 0
  · rw [if_pos (hcz.2 z0)]
    have : ovBad h (z : Int) = true := by unfold ovBad; rw [show ((z : Int) == 0) = true by simp; exact z0, bt]
    rw [this]; rfl
  · rw [if_neg (fun e => z0 (hcz.1 e))]
    have e0 : ((z : Int) == 0) = false := by simp; exact z0
    by_cases hz : h ≥ (z : Int)
    · have : ovBad h (z : Int) = true := by unfold ovBad; rw [e0, bf]; exact decide_eq_true hz
      rw [this]
      have hbig : (2 * p + z) / (2 * z) > 4611686018427387904 := by
        have : 18446744073709551616 ≤ (2 * p + z) / (2 * z) := by
          rw [Nat.le_div_iff_mul_le (by omega)]
          omega
        omega
      rw [if_pos hbig]; simp only [Bool.not_true, Bool.not_false, bt, resB]
    · have hov : ovBad h (z : Int) = false := by unfold ovBad; rw [e0, bf]; exact decide_eq_false hz
      obtain ⟨o1, o2⟩ := overRaw_eq (b := (z : Int)) (lo := l) (h := h) (by omega) (by omega) (by omega) (by omega) 64 h 0 (Nat.le_refl _) (by omega) (by omega) (by omega)
        (by
          have e1 : p2 (64 - 64) = 1 := by kernel_rfl
          have e2 : l / p2 64 = 0 := by rw [p2_64]; omega
          rw [e1, e2]; omega) (by omega) (by omega)
      have hpp : h * 18446744073709551616 + l = (p : Int) := by omega
      rw [hpp] at o1 o2
      have hq : qoI h l (z : Int) = ((p / z : Nat) : Int) := by unfold qoI; rw [hov, bf, o1]; exact (Int.natCast_ediv _ _).symm
      have hr : loI h l (z : Int) = ((p % z : Nat) : Int) := by unfold loI; rw [hov, bf, o2]; exact (Int.natCast_emod _ _).symm
      rw [hov, hq, hr]
      simp only [Bool.not_false, Bool.not_true, bf]
      have hdm := Nat.div_add_mod p z
      have hml := Nat.mod_lt p (show z > 0 by omega)
      have hround := round_eq (show 0 < z by omega) hdm hml
      generalize p / z = n at *
      generalize p % z = left at *
      rw [hround]
      by_cases hn : (n : Int) > 4611686018427387904
      · rw [decide_eq_true hn]
        have : (if z ≤ 2 * left then n + 1 else n) > 4611686018427387904 := by split <;> omega
        rw [if_pos this]; simp only [Bool.not_true, Bool.not_false, bt, resB]
      · rw [decide_eq_false hn]
        simp only [Bool.not_false, Bool.not_true, bf]
        have hw : wr .u64 ((z : Int) - (left : Int)) = (z : Int) - left := wu64_in (by omega) (by omega)
        have hn0 : (n : Int) ≤ 4611686018427387904 := by omega
        rw [hw, wu64_in (n := (n : Int) + 1) (by omega) (by omega)]
        have hn' : (bif decide ((left : Int) ≥ (z : Int) - left) then (n : Int) + 1 else (n : Int)) = ((if z ≤ 2 * left then n + 1 else n : Nat) : Int) := by
          by_cases hh : z ≤ 2 * left
          · rw [decide_eq_true (by omega), if_pos hh]; rfl
          · rw [decide_eq_false (by omega), if_neg hh]; rfl
        rw [hn']
        generalize (if z ≤ 2 * left then n + 1 else n) = r at *
        by_cases hbig : r > 4611686018427387904
        · rw [if_pos hbig, rgive_big (by omega)]; simp only [resB]
        · rw [if_neg hbig, rgive_in (by omega) (by omega)]
          cases sg
          · simp only [Bool.false_eq_true, if_false, resB]
          · simp only [if_true, resB]

abbrev RMeth (f : FuncId) (F : List AV → Option (Bool → AV × Bool)) : Prop := EffOk Try.prog f (fun _ => true) (flowSpec 27 F)
theorem rratio_con : EffOk Try.prog 50 (fun l => ratC l.tail) (flowSpec 27 (int3 ratF)) := by
  have hE : EnvOk Try.prog (envS sz thI tlI rqI roI) :=
    EnvOk.p (EnvOk.p (EnvOk.p (EnvOk.t ok_nil en_rgive) en_rounded rounded_con) en_times times_con) en_size rsize_con
  refine flow_of hE 60 _ _ _ _ ?_
  intro args g hC h b
  unfold int3 at h
  split at h <;> cases h
  simp only [ratC, Bool.and_eq_true] at hC
  rw [rrat_raw, rratio_eq hC.1.1 hC.1.2 hC.2]
#print axioms rratio_con
end Go.Proofs.Ytcagaaaibhifdaa.Rx
