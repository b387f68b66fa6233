/- A sensor's reading: the program's and the reference's functions are the same plain one. Conditions: none. -/
import Derived.Test.YtkdlliedpjnobaaSe1
namespace Go.Proofs.Ytkdlliedpjnobaa.Se
open Go Go.Proofs.Ytkdlliedpjnobaa.Ae Go.Proofs.Ytkdlliedpjnobaa.Fx Go.Proofs.Ytkdlliedpjnobaa.Lx Go.Proofs.Ytkdlliedpjnobaa.Tx Go.Proofs.Ytkdlliedpjnobaa.Ve Go.Proofs.Ytkdlliedpjnobaa.Te Go.Proofs.Ytkdlliedpjnobaa.Rx

/-! ### The rest of the raw forms -/
section
variable (pa nr : Op3) (un : V3 → Bool → V3 × Bool) (wd cn sg : Int → Int → Int)
theorem readL_no (k : Int) (s : ByteArray) : acall Try.prog (envSR pa nr un wd) 200 26 [.agg [.intF .i64 k [] [0] [1, 2, 3], .str s]] [] pK = none5 := by kernel_rfl
theorem readH_no (k : Int) (s : ByteArray) : acall Try.prog (envSR pa nr un wd) 200 26 [.agg [.intF .i64 k [4] [] [1, 2, 3], .str s]] [] pK = none5 := by kernel_rfl
def cnC : List AV → Bool
  | [.strG _ n _, .int .i64 i] => decide (0 ≤ i) && decide (i + 1 < (n : Int)) && decide (n < 1000)
  | _ => false
def cnF (cn : Int → Int → Int) : List AV → Option AV
  | [.strG _ _ g, .int .i64 i] => some (I (cn (g i.toNat) (g (i + 1).toNat)))
  | _ => none
def renvSR : Env := [(51, .text), (54, .pure cnC (cnF cn)), (52, .pure cnC (cnF sg)), (38, m3 64 pa), (53, .flow 64 (nrmF nr)), (55, .flow 64 (dirF un))]
def rtA (t b : Int) : Int := wr .i64 (wr .i64 (t * 256) + wr .i64 b)
def rtick (g : Nat → Int) : Int := rtA (rtA (rtA (rtA (rtA (rtA 0 (g 0)) (g 1)) (g 2)) (g 3)) (g 4)) (g 5)
def rokT (t : Int) : Bool := bif decide (t ≥ 0) then decide (t ≤ 157766400000) else false
def far (n : Int) : Bool := bif decide (n > 30000) then true else decide (n < -30000)
theorem rread1_raw (s : ByteArray) (g : Nat → Int) : acall Try.prog (renvSR pa nr un cn sg) 200 27 [.agg [I 1, .strG s 12 g]] [] pK =
    let t := rtick g
    let n0 := sg (g 6) (g 7)
    let n1 := sg (g 8) (g 9)
    let n2 := sg (g 10) (g 11)
    bif !(rokT t) then none5 else bif far n0 then none5 else bif far n1 then none5 else bif far n2 then none5 else
      rdT ⟨1, t, ⟨wr .i64 (n0 * 33554432), wr .i64 (n1 * 33554432), wr .i64 (n2 * 33554432)⟩⟩ true := by kernel_rfl
theorem rread3_raw (s : ByteArray) (g : Nat → Int) : acall Try.prog (renvSR pa nr un cn sg) 200 27 [.agg [I 3, .strG s 12 g]] [] pK =
    let t := rtick g
    let a := pa 1099511627776 (sg (g 6) (g 7)) 100 false
    let b := pa 1099511627776 (sg (g 8) (g 9)) 100 a.2
    let c := pa 1099511627776 (sg (g 10) (g 11)) 100 b.2
    let n := (nr a.1 b.1 c.1 c.2).1
    bif !(rokT t) then none5 else bif (bif decide (n < 1099511627776) then true else decide (n > 131941395333120)) then none5 else rdT ⟨3, t, ⟨a.1, b.1, c.1⟩⟩ true := by kernel_rfl
def rlt2 (lit : Bool) (a b : Int) : Bool := bif (bif lit then true else decide (a ≥ 2000)) then true else decide (b ≥ 2000)
def rdf (a b : Int) : Int := wr .i64 (wr .i64 (a - b) * 16777216)
theorem rread2_raw (s : ByteArray) (g : Nat → Int) : acall Try.prog (renvSR pa nr un cn sg) 200 27 [.agg [I 2, .strG s 18 g]] [] pK =
    let t := rtick g
    let a0 := cn (g 6) (g 7)
    let b0 := cn (g 8) (g 9)
    let a1 := cn (g 10) (g 11)
    let b1 := cn (g 12) (g 13)
    let a2 := cn (g 14) (g 15)
    let b2 := cn (g 16) (g 17)
    let u := un ⟨rdf a0 b0, rdf a1 b1, rdf a2 b2⟩ false
    bif !(rokT t) then none5 else bif (bif !(rlt2 (rlt2 (rlt2 false a0 b0) a1 b1) a2 b2) then true else u.2) then none5 else rdT ⟨2, t, u.1⟩ true := by kernel_rfl
theorem rread1_no (s : ByteArray) (g : Nat → Int) : acall Try.prog (renvSR pa nr un cn sg) 200 27 [.agg [I 1, .strF s 0 g [12]]] [] pK = none5 := by kernel_rfl
theorem rread3_no (s : ByteArray) (g : Nat → Int) : acall Try.prog (renvSR pa nr un cn sg) 200 27 [.agg [I 3, .strF s 0 g [12]]] [] pK = none5 := by kernel_rfl
theorem rread2_no (s : ByteArray) (g : Nat → Int) : acall Try.prog (renvSR pa nr un cn sg) 200 27 [.agg [I 2, .strF s 0 g [18]]] [] pK = none5 := by kernel_rfl
theorem rreadL_no (k : Int) (s : ByteArray) : acall Try.prog (renvSR pa nr un cn sg) 200 27 [.agg [.intF .i64 k [] [0] [1, 2, 3], .str s]] [] pK = none5 := by kernel_rfl
theorem rreadH_no (k : Int) (s : ByteArray) : acall Try.prog (renvSR pa nr un cn sg) 200 27 [.agg [.intF .i64 k [4] [] [1, 2, 3], .str s]] [] pK = none5 := by kernel_rfl
end

/-! ### Two bytes, six bytes -/
theorem word_con : PureOk Try.prog 48 wdC (wdF wdI) := by
  refine pure_of ok_nil 40 _ _ _ ?_
  rintro args v hC h
  unfold wdF at h
  split at h <;> cases h
  rename_i s n g
  simp only [wdC, decide_eq_true_eq] at hC
  refine ⟨rfl, rfl, (word_raw s n g).trans ?_⟩
  rw [decide_eq_true (show 0 < (n : Int) by omega), decide_eq_true hC]
  rfl
theorem count_con : PureOk Try.prog 54 cnC (cnF cntI) := by
  refine pure_of ok_nil 40 _ _ _ ?_
  rintro args v hC h
  unfold cnF at h
  split at h <;> cases h
  rename_i s n g i
  simp only [cnC, Bool.and_eq_true, decide_eq_true_eq] at hC
  refine ⟨rfl, rfl, (count_raw s n g i).trans ?_⟩
  rw [w64_in (n := i + 1) (by omega) (by omega), decide_eq_true (show 0 ≤ i by omega), decide_eq_true (show i < (n : Int) by omega), decide_eq_true (show 0 ≤ i + 1 by omega), decide_eq_true (show i + 1 < (n : Int) by omega)]
  rfl
theorem signed_con : PureOk Try.prog 52 cnC (cnF sgI) := by
  refine pure_of (EnvOk.t ok_nil (enter_of Try.func54 (by kernel_rfl) rfl)) 40 _ _ _ ?_
  rintro args v hC h
  unfold cnF at h
  split at h <;> cases h
  rename_i s n g i
  simp only [cnC, Bool.and_eq_true, decide_eq_true_eq] at hC
  refine ⟨rfl, rfl, (signed_raw s n g i).trans ?_⟩
  rw [w64_in (n := i + 1) (by omega) (by omega), decide_eq_true (show 0 ≤ i by omega), decide_eq_true (show i < (n : Int) by omega), decide_eq_true (show 0 ≤ i + 1 by omega), decide_eq_true (show i + 1 < (n : Int) by omega)]
  simp only [Bool.and_self, cond_true]
  unfold sgI cntI
  generalize wr .i64 (wr .i64 (wr .i64 (g i.toNat) * 256) + wr .i64 (g (i + 1).toNat)) = c
  cases decide (c ≥ 32768)
  · rw [bf, bf]
  · rw [bt, bt]
abbrev By (n : Int) : Prop := 0 ≤ n ∧ n < 256
theorem wdI_eq {a b : Int} (ha : By a) (hb : By b) : wdI a b = a * 256 + b := by
  unfold wdI
  have e0 : p2 (min (Int.toNat 8) IntKind.u16.bits) = 256 := by decide
  have e1 : wr .u16 a = a := by show a % 65536 = a; omega
  have e2 : wr .u16 b = b := by show b % 65536 = b; omega
  have e3 : wr .u16 (a * 256) = a * 256 := by show a * 256 % 65536 = a * 256; omega
  rw [e0, e1, e2, e3, bor16_lo ha hb]
theorem i16_eq {a b : Int} (ha : By a) (hb : By b) : wr .i64 (wr .i16 (wdI a b)) = Te.sg a b := by
  rw [wdI_eq ha hb]
  unfold Te.sg
  have e4 : wr .i16 (a * 256 + b) = (a * 256 + b + 32768) % 65536 - 32768 := rfl
  rw [e4, w64_in (by omega) (by omega)]
  split <;> omega
theorem cntI_eq {a b : Int} (ha : By a) (hb : By b) : cntI a b = a * 256 + b := by
  unfold cntI
  rw [w64_in (n := a) (by omega) (by omega), w64_in (n := a * 256) (by omega) (by omega), w64_in (n := b) (by omega) (by omega), w64_in (n := a * 256 + b) (by omega) (by omega)]
theorem sgI_eq {a b : Int} (ha : By a) (hb : By b) : sgI a b = Te.sg a b := by
  unfold sgI Te.sg
  rw [cntI_eq ha hb]
  by_cases h : a * 256 + b ≥ 32768
  · rw [decide_eq_true h, bt, if_pos h, w64_in (by omega) (by omega)]
  · rw [decide_eq_false h, bf, if_neg h]
theorem tkA_eq {t b : Int} (ht : 0 ≤ t) (ht1 : t < 36028797018963968) (hb : By b) : tkA t b = t * 256 + b := by
  unfold tkA
  have e0 : p2 (min (Int.toNat 8) IntKind.i64.bits) = 256 := by decide
  rw [e0, w64_in (n := t * 256) (by omega) (by omega), w64_in (n := b) (by omega) (by omega), bor64_lo ht ht1 hb]
theorem rtA_eq {t b : Int} (ht : 0 ≤ t) (ht1 : t < 36028797018963968) (hb : By b) : rtA t b = t * 256 + b := by
  unfold rtA
  rw [w64_in (n := t * 256) (by omega) (by omega), w64_in (n := b) (by omega) (by omega), w64_in (by omega) (by omega)]
def tickP (g : Nat → Int) : Int := ((((g 0 * 256 + g 1) * 256 + g 2) * 256 + g 3) * 256 + g 4) * 256 + g 5
theorem tick_eq {g : Nat → Int} (hg : B g) : tick g = tickP g := by
  have h0 := hg 0; have h1 := hg 1; have h2 := hg 2; have h3 := hg 3; have h4 := hg 4; have h5 := hg 5
  unfold tick tickP
  rw [tkA_eq (t := 0) (by omega) (by omega) h0, tkA_eq (by omega) (by omega) h1, tkA_eq (by omega) (by omega) h2, tkA_eq (by omega) (by omega) h3, tkA_eq (by omega) (by omega) h4, tkA_eq (by omega) (by omega) h5]
  simp only [Int.zero_mul, Int.zero_add]
theorem rtick_eq {g : Nat → Int} (hg : B g) : rtick g = tickP g := by
  have h0 := hg 0; have h1 := hg 1; have h2 := hg 2; have h3 := hg 3; have h4 := hg 4; have h5 := hg 5
  unfold rtick tickP
  rw [rtA_eq (t := 0) (by omega) (by omega) h0, rtA_eq (by omega) (by omega) h1, rtA_eq (by omega) (by omega) h2, rtA_eq (by omega) (by omega) h3, rtA_eq (by omega) (by omega) h4, rtA_eq (by omega) (by omega) h5]
  simp only [Int.zero_mul, Int.zero_add]

/-! ### The plain function -/
def okP (t : Int) : Bool := decide (0 ≤ t ∧ t ≤ 157766400000)
def in3 (n : Int) : Bool := decide (-30000 ≤ n ∧ n ≤ 30000)
def lit (a b : Int) : Bool := decide (2000 ≤ a ∨ 2000 ≤ b)
def u2 (g : Nat → Int) (i : Nat) : Int := g i * 256 + g (i + 1)
def s2 (g : Nat → Int) (i : Nat) : Int := Te.sg (g i) (g (i + 1))
def cut (c : Bool) (r : Rdg) : Rdg × Bool := if c = true then (r, true) else (Rdg.zero, false)
def rd1 (g : Nat → Int) : Rdg × Bool := cut (okP (tickP g) && in3 (s2 g 6) && in3 (s2 g 8) && in3 (s2 g 10)) ⟨1, tickP g, ⟨s2 g 6 * 33554432, s2 g 8 * 33554432, s2 g 10 * 33554432⟩⟩
def fld (g : Nat → Int) : V3 × Bool :=
  let a := Fx.part 1099511627776 (s2 g 6) 100 false
  let b := Fx.part 1099511627776 (s2 g 8) 100 a.2
  let c := Fx.part 1099511627776 (s2 g 10) 100 b.2
  (⟨a.1, b.1, c.1⟩, c.2)
def rd3 (g : Nat → Int) : Rdg × Bool :=
  let v := fld g
  let n := (norm v.1.x v.1.y v.1.z v.2).1
  cut (okP (tickP g) && decide (1099511627776 ≤ n ∧ n ≤ 131941395333120)) ⟨3, tickP g, v.1⟩
def sunV (g : Nat → Int) : V3 := ⟨(u2 g 6 - u2 g 8) * 16777216, (u2 g 10 - u2 g 12) * 16777216, (u2 g 14 - u2 g 16) * 16777216⟩
def rd2 (g : Nat → Int) : Rdg × Bool :=
  let u := unit (sunV g) false
  cut (okP (tickP g) && (lit (u2 g 6) (u2 g 8) || lit (u2 g 10) (u2 g 12) || lit (u2 g 14) (u2 g 16)) && !u.2) ⟨2, tickP g, u.1⟩
def readS (k : Int) (s : ByteArray) : Rdg × Bool :=
  if k = 1 ∧ s.size = 12 then rd1 (gOf s) else if k = 3 ∧ s.size = 12 then rd3 (gOf s) else if k = 2 ∧ s.size = 18 then rd2 (gOf s) else (Rdg.zero, false)
theorem cut_eq {c c' : Bool} (h : c = c') (r : Rdg) : (bif !c then none5 else rdT r true) = rdT (cut c' r).1 (cut c' r).2 := by
  subst h; cases c <;> rfl
theorem cut_eq2 {a b c : Bool} (h : (a && !b) = c) (r : Rdg) : (bif !a then none5 else bif b then none5 else rdT r true) = rdT (cut c r).1 (cut c r).2 := by
  subst h; cases a <;> cases b <;> rfl
theorem okT_eq (t : Int) : okT t = okP t := by
  unfold okT okP
  exact (an_eq _ _).trans (dand _ _)
theorem rokT_eq (t : Int) : rokT t = okP t := by
  unfold rokT okP
  simp only [ge_iff_le]
  exact (an_eq _ _).trans (dand _ _)
theorem gy_eq (ok : Bool) (n : Int) : gy ok n = (ok && in3 n) := by
  unfold gy in3
  have : (bif (bif ok then decide (n ≤ 30000) else false) then decide (n ≥ -30000) else false) = (ok && (decide (n ≤ 30000) && decide (n ≥ -30000))) := by cases ok <;> cases decide (n ≤ 30000) <;> rfl
  rw [this, dand]
  congr 1
  exact decide_eq_decide.2 ⟨fun h => ⟨h.2, h.1⟩, fun h => ⟨h.2, h.1⟩⟩
theorem far_eq (n : Int) : far n = !(in3 n) := by
  unfold far in3
  have : (bif decide (n > 30000) then true else decide (n < -30000)) = (decide (n > 30000) || decide (n < -30000)) := by cases decide (n > 30000) <;> rfl
  rw [this]
  by_cases h : -30000 ≤ n ∧ n ≤ 30000
  · rw [decide_eq_true h, decide_eq_false (show ¬ n > 30000 by omega), decide_eq_false (show ¬ n < -30000 by omega)]; rfl
  · rw [decide_eq_false h]
    by_cases h2 : n > 30000
    · rw [decide_eq_true h2]; rfl
    · rw [decide_eq_true (show n < -30000 by omega)]; simp
theorem sg_in {a b : Int} (ha : By a) (hb : By b) : -32768 ≤ Te.sg a b ∧ Te.sg a b ≤ 32767 := by unfold Te.sg; split <;> omega
theorem shl25_eq {n : Int} (h : -32768 ≤ n ∧ n ≤ 32767) : shl25 n = n * 33554432 := by
  unfold shl25
  have e0 : p2 (min (Int.toNat 25) IntKind.i64.bits) = 33554432 := by decide
  rw [e0, w64_in (by omega) (by omega)]
theorem lt2_eq (l : Bool) (a b : Int) : lt2 l a b = (l || lit a b) := by
  unfold lt2 lit
  cases l
  · simp only [cond_false, Bool.false_or]
    refine decide_eq_decide.2 ?_
    split <;> omega
  · rfl
theorem rlt2_eq (l : Bool) (a b : Int) : rlt2 l a b = (l || lit a b) := by
  unfold rlt2 lit
  cases l
  · simp only [cond_false, Bool.false_or]
    by_cases h : a ≥ 2000
    · rw [decide_eq_true h, bt, decide_eq_true (.inl h)]
    · rw [decide_eq_false h, bf]
      exact decide_eq_decide.2 ⟨fun h => .inr h, fun h => h.resolve_left (by omega)⟩
  · rfl
theorem df_eq {a b : Int} (ha : 0 ≤ a ∧ a < 65536) (hb : 0 ≤ b ∧ b < 65536) : df a b = (a - b) * 16777216 := by
  unfold df
  have e0 : p2 (min (Int.toNat 24) IntKind.i64.bits) = 16777216 := by decide
  rw [e0, w64_in (n := a) (by omega) (by omega), w64_in (n := b) (by omega) (by omega), w64_in (n := a - b) (by omega) (by omega), w64_in (by omega) (by omega)]
theorem rdf_eq {a b : Int} (ha : 0 ≤ a ∧ a < 65536) (hb : 0 ≤ b ∧ b < 65536) : rdf a b = (a - b) * 16777216 := by
  unfold rdf
  rw [w64_in (n := a - b) (by omega) (by omega), w64_in (by omega) (by omega)]
theorem u2_in {g : Nat → Int} (hg : B g) (i : Nat) : 0 ≤ u2 g i ∧ u2 g i < 65536 := by
  have := hg i; have := hg (i + 1); unfold u2; omega
theorem s2_in {g : Nat → Int} (hg : B g) (i : Nat) : -32768 ≤ s2 g i ∧ s2 g i ≤ 32767 := sg_in (hg i) (hg (i + 1))
#print axioms df_eq
end Go.Proofs.Ytkdlliedpjnobaa.Se
