/- The functions of package sensor and of its reference, as the interpreter finds them. Conditions: none. -/
import Derived.Test.YtdojnnlhaiennaaGreatKi
import Derived.Test.YtdojnnlhaiennaaGreatKd
import Derived.Test.YtdojnnlhaiennaaGreatKg
namespace Go.Proofs.YtdojnnlhaiennaaGreat.Se
open Go Go.Proofs.YtdojnnlhaiennaaGreat.Ae Go.Proofs.YtdojnnlhaiennaaGreat.Fx Go.Proofs.YtdojnnlhaiennaaGreat.Lx Go.Proofs.YtdojnnlhaiennaaGreat.Tx Go.Proofs.YtdojnnlhaiennaaGreat.Ve Go.Proofs.YtdojnnlhaiennaaGreat.Te

/-- A reading: kind, tick, three numbers. -/
structure Rdg where
  k : Int
  t : Int
  v : V3
def Rdg.zero : Rdg := ⟨0, 0, V3.zero⟩
def Rdg.av (r : Rdg) : AV := .agg [I r.k, I r.t, I r.v.x, I r.v.y, I r.v.z]
def rdT (r : Rdg) (b : Bool) : Option AV := some (.tup [r.av, .bool b])
def none5 : Option AV := rdT Rdg.zero false

/-! ### Two bytes -/
def wdI (a b : Int) : Int := bor .u16 (wr .u16 (wr .u16 a * p2 (min (Int.toNat 8) IntKind.u16.bits))) (wr .u16 b)
def wdC : List AV → Bool
  | [.strG _ n _] => decide (1 < (n : Int))
  | _ => false
def wdF (wd : Int → Int → Int) : List AV → Option AV
  | [.strG _ _ g] => some (.int .u16 (wd (g 0) (g 1)))
  | _ => none
theorem ltN_eq (i : Int) (n : Nat) : ltN i n = (decide (0 ≤ i) && decide (i < (n : Int))) := by
  by_cases h : 0 ≤ i ∧ i < (n : Int)
  · rw [ltN_of h.1 h.2, decide_eq_true h.1, decide_eq_true h.2]; rfl
  · have h1 : ltN i n = false := by
      cases hb : ltN i n with
      | false => rfl
      | true => exact absurd (ltN_ok hb) h
    rw [h1]
    by_cases h0 : 0 ≤ i
    · rw [decide_eq_true h0, decide_eq_false (fun h2 => h ⟨h0, h2⟩)]; rfl
    · rw [decide_eq_false h0]; rfl
theorem word_raw' (s : ByteArray) (n : Nat) (g : Nat → Int) : acall Tryz.prog [] 40 113 [.strG s n g] [] pK =
    bif ltN (0) n then (bif ltN (1) n then some (.int .u16 (wdI (g 0) (g 1))) else none) else none := by kernel_rfl
theorem word_raw (s : ByteArray) (n : Nat) (g : Nat → Int) : acall Tryz.prog [] 40 113 [.strG s n g] [] pK =
    bif decide (0 ≤ 0) && decide (0 < (n : Int)) then (bif decide (0 ≤ 1) && decide (1 < (n : Int)) then some (.int .u16 (wdI (g 0) (g 1))) else none) else none := by
  rw [word_raw', ltN_eq, ltN_eq]
  rfl
def cntI (a b : Int) : Int := wr .i64 (wr .i64 (wr .i64 a * 256) + wr .i64 b)
def sgI (a b : Int) : Int := bif decide (cntI a b ≥ 32768) then wr .i64 (cntI a b - 65536) else cntI a b
theorem count_raw' (s : ByteArray) (n : Nat) (g : Nat → Int) (i : Int) : acall Tryz.prog [] 40 107 [.strG s n g, I i] [] pK =
    bif ltN (i) n then
      bif ltN (wr .i64 (i + 1)) n then some (I (wr .i64 (wr .i64 (wr .i64 (g i.toNat) * 256) + wr .i64 (g (wr .i64 (i + 1)).toNat)))) else none
    else none := by kernel_rfl
theorem count_raw (s : ByteArray) (n : Nat) (g : Nat → Int) (i : Int) : acall Tryz.prog [] 40 107 [.strG s n g, I i] [] pK =
    bif decide (0 ≤ i) && decide (i < (n : Int)) then
      bif decide (0 ≤ wr .i64 (i + 1)) && decide (wr .i64 (i + 1) < (n : Int)) then some (I (wr .i64 (wr .i64 (wr .i64 (g i.toNat) * 256) + wr .i64 (g (wr .i64 (i + 1)).toNat)))) else none
    else none := by
  simp only [← ltN_eq]
  exact count_raw' _ _ _ _
theorem signed_raw' (s : ByteArray) (n : Nat) (g : Nat → Int) (i : Int) : acall Tryz.prog [(107, .text)] 40 106 [.strG s n g, I i] [] pK =
    bif ltN (i) n then
      bif ltN (wr .i64 (i + 1)) n then
        let c := wr .i64 (wr .i64 (wr .i64 (g i.toNat) * 256) + wr .i64 (g (wr .i64 (i + 1)).toNat))
        bif decide (c ≥ 32768) then some (I (wr .i64 (c - 65536))) else some (I c)
      else none
    else none := by kernel_rfl
theorem signed_raw (s : ByteArray) (n : Nat) (g : Nat → Int) (i : Int) : acall Tryz.prog [(107, .text)] 40 106 [.strG s n g, I i] [] pK =
    bif decide (0 ≤ i) && decide (i < (n : Int)) then
      bif decide (0 ≤ wr .i64 (i + 1)) && decide (wr .i64 (i + 1) < (n : Int)) then
        let c := wr .i64 (wr .i64 (wr .i64 (g i.toNat) * 256) + wr .i64 (g (wr .i64 (i + 1)).toNat))
        bif decide (c ≥ 32768) then some (I (wr .i64 (c - 65536))) else some (I c)
      else none
    else none := by
  simp only [← ltN_eq]
  exact signed_raw' _ _ _ _

/-! ### Reading -/
section
variable (pa nr : Op3) (un : V3 → Bool → V3 × Bool) (wd cn sg : Int → Int → Int)
def envSR : Env := [(112, .text), (113, .pure wdC (wdF wd)), (30, .text), (74, m3 112 pa), (77, .flow 112 (nrmF nr)), (114, .flow 112 (dirF un))]
def tkA (t b : Int) : Int := bor .i64 (wr .i64 (t * p2 (min (Int.toNat 8) IntKind.i64.bits))) (wr .i64 b)
def tick (g : Nat → Int) : Int := tkA (tkA (tkA (tkA (tkA (tkA 0 (g 0)) (g 1)) (g 2)) (g 3)) (g 4)) (g 5)
def okT (t : Int) : Bool := bif decide (0 ≤ t) then decide (t ≤ 157766400000) else false
def gy (ok : Bool) (n : Int) : Bool := bif (bif ok then decide (n ≤ 30000) else false) then decide (n ≥ -30000) else false
def shl25 (n : Int) : Int := wr .i64 (n * p2 (min (Int.toNat 25) IntKind.i64.bits))
theorem read1_raw (s : ByteArray) (g : Nat → Int) : acall Tryz.prog (envSR pa nr un wd) 200 69 [.agg [I 1, .strG s 12 g]] [] pK =
    let t := tick g
    let n0 := wr .i64 (wr .i16 (wd (g 6) (g 7)))
    let n1 := wr .i64 (wr .i16 (wd (g 8) (g 9)))
    let n2 := wr .i64 (wr .i16 (wd (g 10) (g 11)))
    bif !(gy (gy (gy (okT t) n0) n1) n2) then none5 else rdT ⟨1, t, ⟨shl25 n0, shl25 n1, shl25 n2⟩⟩ true := by kernel_rfl
theorem read3_raw (s : ByteArray) (g : Nat → Int) : acall Tryz.prog (envSR pa nr un wd) 200 69 [.agg [I 3, .strG s 12 g]] [] pK =
    let t := tick g
    let n0 := wr .i64 (wr .i16 (wd (g 6) (g 7)))
    let n1 := wr .i64 (wr .i16 (wd (g 8) (g 9)))
    let n2 := wr .i64 (wr .i16 (wd (g 10) (g 11)))
    let a := pa 1099511627776 n0 100 false
    let b := pa 1099511627776 n1 100 a.2
    let c := pa 1099511627776 n2 100 b.2
    let n := (nr a.1 b.1 c.1 c.2).1
    bif !(an (an (okT t) (decide (n ≥ 1099511627776))) (decide (n ≤ 131941395333120))) then none5 else rdT ⟨3, t, ⟨a.1, b.1, c.1⟩⟩ true := by kernel_rfl
def lt2 (lit : Bool) (a b : Int) : Bool := bif lit then true else decide ((if b > a then b else a) ≥ 2000)
def df (a b : Int) : Int := wr .i64 (wr .i64 (wr .i64 a - wr .i64 b) * p2 (min (Int.toNat 24) IntKind.i64.bits))
theorem read2_raw (s : ByteArray) (g : Nat → Int) : acall Tryz.prog (envSR pa nr un wd) 200 69 [.agg [I 2, .strG s 18 g]] [] pK =
    let t := tick g
    let a0 := wd (g 6) (g 7)
    let b0 := wd (g 8) (g 9)
    let a1 := wd (g 10) (g 11)
    let b1 := wd (g 12) (g 13)
    let a2 := wd (g 14) (g 15)
    let b2 := wd (g 16) (g 17)
    let u := un ⟨df a0 b0, df a1 b1, df a2 b2⟩ false
    bif !(an (an (okT t) (lt2 (lt2 (lt2 false a0 b0) a1 b1) a2 b2)) (!u.2)) then none5 else rdT ⟨2, t, u.1⟩ true := by kernel_rfl
theorem read1_no (s : ByteArray) (g : Nat → Int) : acall Tryz.prog (envSR pa nr un wd) 200 69 [.agg [I 1, .strF s 0 g [12]]] [] pK = none5 := by kernel_rfl
theorem read3_no (s : ByteArray) (g : Nat → Int) : acall Tryz.prog (envSR pa nr un wd) 200 69 [.agg [I 3, .strF s 0 g [12]]] [] pK = none5 := by kernel_rfl
theorem read2_no (s : ByteArray) (g : Nat → Int) : acall Tryz.prog (envSR pa nr un wd) 200 69 [.agg [I 2, .strF s 0 g [18]]] [] pK = none5 := by kernel_rfl
end
end Go.Proofs.YtdojnnlhaiennaaGreat.Se

/- A sensor's reading: the program's and the reference's functions are the same plain one. Conditions: none. -/
namespace Go.Proofs.YtdojnnlhaiennaaGreat.Se
open Go Go.Proofs.YtdojnnlhaiennaaGreat.Ae Go.Proofs.YtdojnnlhaiennaaGreat.Fx Go.Proofs.YtdojnnlhaiennaaGreat.Lx Go.Proofs.YtdojnnlhaiennaaGreat.Tx Go.Proofs.YtdojnnlhaiennaaGreat.Ve Go.Proofs.YtdojnnlhaiennaaGreat.Te Go.Proofs.YtdojnnlhaiennaaGreat.Rx

/-! ### The rest of the raw forms -/
section
variable (pa nr : Op3) (un : V3 → Bool → V3 × Bool) (wd cn sg : Int → Int → Int)
theorem readL_no (k : Int) (s : ByteArray) : acall Tryz.prog (envSR pa nr un wd) 200 69 [.agg [.intF .i64 k [] [0] [1, 2, 3], .str s]] [] pK = none5 := by kernel_rfl
theorem readH_no (k : Int) (s : ByteArray) : acall Tryz.prog (envSR pa nr un wd) 200 69 [.agg [.intF .i64 k [4] [] [1, 2, 3], .str s]] [] pK = none5 := by kernel_rfl
def cnC : List AV → Bool
  | [.strG _ n _, .int .i64 i] => decide (0 ≤ i) && decide (i + 1 < (n : Int)) && decide (n < 1000)
  | _ => false
def cnF (cn : Int → Int → Int) : List AV → Option AV
  | [.strG _ _ g, .int .i64 i] => some (I (cn (g i.toNat) (g (i + 1).toNat)))
  | _ => none
def renvSR : Env := [(66, .text), (107, .pure cnC (cnF cn)), (106, .pure cnC (cnF sg)), (16, m3 74 pa), (21, .flow 74 (nrmF nr)), (105, .flow 74 (dirF un))]
def rtA (t b : Int) : Int := wr .i64 (wr .i64 (t * 256) + wr .i64 b)
def rtick (g : Nat → Int) : Int := rtA (rtA (rtA (rtA (rtA (rtA 0 (g 0)) (g 1)) (g 2)) (g 3)) (g 4)) (g 5)
def rokT (t : Int) : Bool := bif decide (t ≥ 0) then decide (t ≤ 157766400000) else false
def far (n : Int) : Bool := bif decide (n > 30000) then true else decide (n < -30000)
theorem rread1_raw (s : ByteArray) (g : Nat → Int) : acall Tryz.prog (renvSR pa nr un cn sg) 200 58 [.agg [I 1, .strG s 12 g]] [] pK =
    let t := rtick g
    let n0 := sg (g 6) (g 7)
    let n1 := sg (g 8) (g 9)
    let n2 := sg (g 10) (g 11)
    bif !(rokT t) then none5 else bif far n0 then none5 else bif far n1 then none5 else bif far n2 then none5 else
      rdT ⟨1, t, ⟨wr .i64 (n0 * 33554432), wr .i64 (n1 * 33554432), wr .i64 (n2 * 33554432)⟩⟩ true := by kernel_rfl
theorem rread3_raw (s : ByteArray) (g : Nat → Int) : acall Tryz.prog (renvSR pa nr un cn sg) 200 58 [.agg [I 3, .strG s 12 g]] [] pK =
    let t := rtick g
    let a := pa 1099511627776 (sg (g 6) (g 7)) 100 false
    let b := pa 1099511627776 (sg (g 8) (g 9)) 100 a.2
    let c := pa 1099511627776 (sg (g 10) (g 11)) 100 b.2
    let n := (nr a.1 b.1 c.1 c.2).1
    bif !(rokT t) then none5 else bif (bif decide (n < 1099511627776) then true else decide (n > 131941395333120)) then none5 else rdT ⟨3, t, ⟨a.1, b.1, c.1⟩⟩ true := by kernel_rfl
def rlt2 (lit : Bool) (a b : Int) : Bool := bif (bif lit then true else decide (a ≥ 2000)) then true else decide (b ≥ 2000)
def rdf (a b : Int) : Int := wr .i64 (wr .i64 (a - b) * 16777216)
theorem rread2_raw (s : ByteArray) (g : Nat → Int) : acall Tryz.prog (renvSR pa nr un cn sg) 200 58 [.agg [I 2, .strG s 18 g]] [] pK =
    let t := rtick g
    let a0 := cn (g 6) (g 7)
    let b0 := cn (g 8) (g 9)
    let a1 := cn (g 10) (g 11)
    let b1 := cn (g 12) (g 13)
    let a2 := cn (g 14) (g 15)
    let b2 := cn (g 16) (g 17)
    let u := un ⟨rdf a0 b0, rdf a1 b1, rdf a2 b2⟩ false
    bif !(rokT t) then none5 else bif (bif !(rlt2 (rlt2 (rlt2 false a0 b0) a1 b1) a2 b2) then true else u.2) then none5 else rdT ⟨2, t, u.1⟩ true := by kernel_rfl
theorem rread1_no (s : ByteArray) (g : Nat → Int) : acall Tryz.prog (renvSR pa nr un cn sg) 200 58 [.agg [I 1, .strF s 0 g [12]]] [] pK = none5 := by kernel_rfl
theorem rread3_no (s : ByteArray) (g : Nat → Int) : acall Tryz.prog (renvSR pa nr un cn sg) 200 58 [.agg [I 3, .strF s 0 g [12]]] [] pK = none5 := by kernel_rfl
theorem rread2_no (s : ByteArray) (g : Nat → Int) : acall Tryz.prog (renvSR pa nr un cn sg) 200 58 [.agg [I 2, .strF s 0 g [18]]] [] pK = none5 := by kernel_rfl
theorem rreadL_no (k : Int) (s : ByteArray) : acall Tryz.prog (renvSR pa nr un cn sg) 200 58 [.agg [.intF .i64 k [] [0] [1, 2, 3], .str s]] [] pK = none5 := by kernel_rfl
theorem rreadH_no (k : Int) (s : ByteArray) : acall Tryz.prog (renvSR pa nr un cn sg) 200 58 [.agg [.intF .i64 k [4] [] [1, 2, 3], .str s]] [] pK = none5 := by kernel_rfl
end

/-! ### Two bytes, six bytes -/
theorem word_con : PureOk Tryz.prog 113 wdC (wdF wdI) := by
  refine pure_of ok_nil 40 _ _ _ ?_
  rintro args v hC h
  unfold wdF at h
  split at h <;> cases h
  rename_i s n g
  simp only [wdC, decide_eq_true_eq] at hC
  refine ⟨rfl, rfl, (word_raw s n g).trans ?_⟩
  rw [decide_eq_true (show 0 < (n : Int) by omega), decide_eq_true hC]
  rfl
theorem count_con : PureOk Tryz.prog 107 cnC (cnF cntI) := by
  refine pure_of ok_nil 40 _ _ _ ?_
  rintro args v hC h
  unfold cnF at h
  split at h <;> cases h
  rename_i s n g i
  simp only [cnC, Bool.and_eq_true, decide_eq_true_eq] at hC
  refine ⟨rfl, rfl, (count_raw s n g i).trans ?_⟩
  rw [w64_in (n := i + 1) (by omega) (by omega), decide_eq_true (show 0 ≤ i by omega), decide_eq_true (show i < (n : Int) by omega), decide_eq_true (show 0 ≤ i + 1 by omega), decide_eq_true (show i + 1 < (n : Int) by omega)]
  rfl
theorem signed_con : PureOk Tryz.prog 106 cnC (cnF sgI) := by
  refine pure_of (EnvOk.t ok_nil (enter_of Tryz.func107 (by kernel_rfl) rfl)) 40 _ _ _ ?_
  rintro args v hC h
  unfold cnF at h
  split at h <;> cases h
  rename_i s n g i
  simp only [cnC, Bool.and_eq_true, decide_eq_true_eq] at hC
  refine ⟨rfl, rfl, (signed_raw s n g i).trans ?_⟩
  rw [w64_in (n := i + 1) (by omega) (by omega), decide_eq_true (show 0 ≤ i by omega), decide_eq_true (show i < (n : Int) by omega), decide_eq_true (show 0 ≤ i + 1 by omega), decide_eq_true (show i + 1 < (n : Int) by omega)]
  simp only [Bool.and_self, cond_true]
  unfold sgI cntI
  generalize wr .i64 (wr .i64 (wr .i64 (g i.toNat) * 256) + wr .i64 (g (i + 1).toNat)) = c
  cases decide (c ≥ 32768)
  · rw [bf, bf]
  · rw [bt, bt]
abbrev By (n : Int) : Prop := 0 ≤ n ∧ n < 256
theorem wdI_eq {a b : Int} (ha : By a) (hb : By b) : wdI a b = a * 256 + b := by
  unfold wdI
  have e0 : p2 (min (Int.toNat 8) IntKind.u16.bits) = 256 := by decide
  have e1 : wr .u16 a = a := by show a % 65536 = a; omega
  have e2 : wr .u16 b = b := by show b % 65536 = b; omega
  have e3 : wr .u16 (a * 256) = a * 256 := by show a * 256 % 65536 = a * 256; omega
  rw [e0, e1, e2, e3, bor16_lo ha hb]
theorem i16_eq {a b : Int} (ha : By a) (hb : By b) : wr .i64 (wr .i16 (wdI a b)) = Te.sg a b := by
  rw [wdI_eq ha hb]
  unfold Te.sg
  have e4 : wr .i16 (a * 256 + b) = (a * 256 + b + 32768) % 65536 - 32768 := rfl
  rw [e4, w64_in (by omega) (by omega)]
  split <;> omega
theorem cntI_eq {a b : Int} (ha : By a) (hb : By b) : cntI a b = a * 256 + b := by
  unfold cntI
  rw [w64_in (n := a) (by omega) (by omega), w64_in (n := a * 256) (by omega) (by omega), w64_in (n := b) (by omega) (by omega), w64_in (n := a * 256 + b) (by omega) (by omega)]
theorem sgI_eq {a b : Int} (ha : By a) (hb : By b) : sgI a b = Te.sg a b := by
  unfold sgI Te.sg
  rw [cntI_eq ha hb]
  by_cases h : a * 256 + b ≥ 32768
  · rw [decide_eq_true h, bt, if_pos h, w64_in (by omega) (by omega)]
  · rw [decide_eq_false h, bf, if_neg h]
theorem tkA_eq {t b : Int} (ht : 0 ≤ t) (ht1 : t < 36028797018963968) (hb : By b) : tkA t b = t * 256 + b := by
  unfold tkA
  have e0 : p2 (min (Int.toNat 8) IntKind.i64.bits) = 256 := by decide
  rw [e0, w64_in (n := t * 256) (by omega) (by omega), w64_in (n := b) (by omega) (by omega), bor64_lo ht ht1 hb]
theorem rtA_eq {t b : Int} (ht : 0 ≤ t) (ht1 : t < 36028797018963968) (hb : By b) : rtA t b = t * 256 + b := by
  unfold rtA
  rw [w64_in (n := t * 256) (by omega) (by omega), w64_in (n := b) (by omega) (by omega), w64_in (by omega) (by omega)]
def tickP (g : Nat → Int) : Int := ((((g 0 * 256 + g 1) * 256 + g 2) * 256 + g 3) * 256 + g 4) * 256 + g 5
theorem tick_eq {g : Nat → Int} (hg : B g) : tick g = tickP g := by
  have h0 := hg 0; have h1 := hg 1; have h2 := hg 2; have h3 := hg 3; have h4 := hg 4; have h5 := hg 5
  unfold tick tickP
  rw [tkA_eq (t := 0) (by omega) (by omega) h0, tkA_eq (by omega) (by omega) h1, tkA_eq (by omega) (by omega) h2, tkA_eq (by omega) (by omega) h3, tkA_eq (by omega) (by omega) h4, tkA_eq (by omega) (by omega) h5]
  simp only [Int.zero_mul, Int.zero_add]
theorem rtick_eq {g : Nat → Int} (hg : B g) : rtick g = tickP g := by
  have h0 := hg 0; have h1 := hg 1; have h2 := hg 2; have h3 := hg 3; have h4 := hg 4; have h5 := hg 5
  unfold rtick tickP
  rw [rtA_eq (t := 0) (by omega) (by omega) h0, rtA_eq (by omega) (by omega) h1, rtA_eq (by omega) (by omega) h2, rtA_eq (by omega) (by omega) h3, rtA_eq (by omega) (by omega) h4, rtA_eq (by omega) (by omega) h5]
  simp only [Int.zero_mul, Int.zero_add]

/-! ### The plain function -/
def okP (t : Int) : Bool := decide (0 ≤ t ∧ t ≤ 157766400000)
def in3 (n : Int) : Bool := decide (-30000 ≤ n ∧ n ≤ 30000)
def lit (a b : Int) : Bool := decide (2000 ≤ a ∨ 2000 ≤ b)
def u2 (g : Nat → Int) (i : Nat) : Int := g i * 256 + g (i + 1)
def s2 (g : Nat → Int) (i : Nat) : Int := Te.sg (g i) (g (i + 1))
def cut (c : Bool) (r : Rdg) : Rdg × Bool := if c = true then (r, true) else (Rdg.zero, false)
def rd1 (g : Nat → Int) : Rdg × Bool := cut (okP (tickP g) && in3 (s2 g 6) && in3 (s2 g 8) && in3 (s2 g 10)) ⟨1, tickP g, ⟨s2 g 6 * 33554432, s2 g 8 * 33554432, s2 g 10 * 33554432⟩⟩
def fld (g : Nat → Int) : V3 × Bool :=
  let a := Fx.part 1099511627776 (s2 g 6) 100 false
  let b := Fx.part 1099511627776 (s2 g 8) 100 a.2
  let c := Fx.part 1099511627776 (s2 g 10) 100 b.2
  (⟨a.1, b.1, c.1⟩, c.2)
def rd3 (g : Nat → Int) : Rdg × Bool :=
  let v := fld g
  let n := (norm v.1.x v.1.y v.1.z v.2).1
  cut (okP (tickP g) && decide (1099511627776 ≤ n ∧ n ≤ 131941395333120)) ⟨3, tickP g, v.1⟩
def sunV (g : Nat → Int) : V3 := ⟨(u2 g 6 - u2 g 8) * 16777216, (u2 g 10 - u2 g 12) * 16777216, (u2 g 14 - u2 g 16) * 16777216⟩
def rd2 (g : Nat → Int) : Rdg × Bool :=
  let u := unit (sunV g) false
  cut (okP (tickP g) && (lit (u2 g 6) (u2 g 8) || lit (u2 g 10) (u2 g 12) || lit (u2 g 14) (u2 g 16)) && !u.2) ⟨2, tickP g, u.1⟩
def readS (k : Int) (s : ByteArray) : Rdg × Bool :=
  if k = 1 ∧ s.size = 12 then rd1 (gOf s) else if k = 3 ∧ s.size = 12 then rd3 (gOf s) else if k = 2 ∧ s.size = 18 then rd2 (gOf s) else (Rdg.zero, false)
theorem cut_eq {c c' : Bool} (h : c = c') (r : Rdg) : (bif !c then none5 else rdT r true) = rdT (cut c' r).1 (cut c' r).2 := by
  subst h; cases c <;> rfl
theorem cut_eq2 {a b c : Bool} (h : (a && !b) = c) (r : Rdg) : (bif !a then none5 else bif b then none5 else rdT r true) = rdT (cut c r).1 (cut c r).2 := by
  subst h; cases a <;> cases b <;> rfl
theorem okT_eq (t : Int) : okT t = okP t := by
  unfold okT okP
  exact (an_eq _ _).trans (dand _ _)
theorem rokT_eq (t : Int) : rokT t = okP t := by
  unfold rokT okP
  simp only [ge_iff_le]
  exact (an_eq _ _).trans (dand _ _)
theorem gy_eq (ok : Bool) (n : Int) : gy ok n = (ok && in3 n) := by
  unfold gy in3
  have : (bif (bif ok then decide (n ≤ 30000) else false) then decide (n ≥ -30000) else false) = (ok && (decide (n ≤ 30000) && decide (n ≥ -30000))) := by cases ok <;> cases decide (n ≤ 30000) <;> rfl
  rw [this, dand]
  congr 1
  exact decide_eq_decide.2 ⟨fun h => ⟨h.2, h.1⟩, fun h => ⟨h.2, h.1⟩⟩
theorem far_eq (n : Int) : far n = !(in3 n) := by
  unfold far in3
  have : (bif decide (n > 30000) then true else decide (n < -30000)) = (decide (n > 30000) || decide (n < -30000)) := by cases decide (n > 30000) <;> rfl
  rw [this]
  by_cases h : -30000 ≤ n ∧ n ≤ 30000
  · rw [decide_eq_true h, decide_eq_false (show ¬ n > 30000 by omega), decide_eq_false (show ¬ n < -30000 by omega)]; rfl
  · rw [decide_eq_false h]
    by_cases h2 : n > 30000
    · rw [decide_eq_true h2]; rfl
    · rw [decide_eq_true (show n < -30000 by omega)]; simp
theorem sg_in {a b : Int} (ha : By a) (hb : By b) : -32768 ≤ Te.sg a b ∧ Te.sg a b ≤ 32767 := by unfold Te.sg; split <;> omega
theorem shl25_eq {n : Int} (h : -32768 ≤ n ∧ n ≤ 32767) : shl25 n = n * 33554432 := by
  unfold shl25
  have e0 : p2 (min (Int.toNat 25) IntKind.i64.bits) = 33554432 := by decide
  rw [e0, w64_in (by omega) (by omega)]
theorem lt2_eq (l : Bool) (a b : Int) : lt2 l a b = (l || lit a b) := by
  unfold lt2 lit
  cases l
  · simp only [cond_false, Bool.false_or]
    refine decide_eq_decide.2 ?_
    split <;> omega
  · rfl
theorem rlt2_eq (l : Bool) (a b : Int) : rlt2 l a b = (l || lit a b) := by
  unfold rlt2 lit
  cases l
  · simp only [cond_false, Bool.false_or]
    by_cases h : a ≥ 2000
    · rw [decide_eq_true h, bt, decide_eq_true (.inl h)]
    · rw [decide_eq_false h, bf]
      exact decide_eq_decide.2 ⟨fun h => .inr h, fun h => h.resolve_left (by omega)⟩
  · rfl
theorem df_eq {a b : Int} (ha : 0 ≤ a ∧ a < 65536) (hb : 0 ≤ b ∧ b < 65536) : df a b = (a - b) * 16777216 := by
  unfold df
  have e0 : p2 (min (Int.toNat 24) IntKind.i64.bits) = 16777216 := by decide
  rw [e0, w64_in (n := a) (by omega) (by omega), w64_in (n := b) (by omega) (by omega), w64_in (n := a - b) (by omega) (by omega), w64_in (by omega) (by omega)]
theorem rdf_eq {a b : Int} (ha : 0 ≤ a ∧ a < 65536) (hb : 0 ≤ b ∧ b < 65536) : rdf a b = (a - b) * 16777216 := by
  unfold rdf
  rw [w64_in (n := a - b) (by omega) (by omega), w64_in (by omega) (by omega)]
theorem u2_in {g : Nat → Int} (hg : B g) (i : Nat) : 0 ≤ u2 g i ∧ u2 g i < 65536 := by
  have := hg i; have := hg (i + 1); unfold u2; omega
theorem s2_in {g : Nat → Int} (hg : B g) (i : Nat) : -32768 ≤ s2 g i ∧ s2 g i ≤ 32767 := sg_in (hg i) (hg (i + 1))
end Go.Proofs.YtdojnnlhaiennaaGreat.Se

/- A sensor's reading: the contracts. Conditions: none. -/
namespace Go.Proofs.YtdojnnlhaiennaaGreat.Se
open Go Go.Proofs.YtdojnnlhaiennaaGreat.Ae Go.Proofs.YtdojnnlhaiennaaGreat.Fx Go.Proofs.YtdojnnlhaiennaaGreat.Lx Go.Proofs.YtdojnnlhaiennaaGreat.Tx Go.Proofs.YtdojnnlhaiennaaGreat.Ve Go.Proofs.YtdojnnlhaiennaaGreat.Te Go.Proofs.YtdojnnlhaiennaaGreat.Rx

def rdOut (r : Rdg × Bool) : AV := .tup [r.1.av, .bool r.2]
def sreadF (rd : Int → ByteArray → Rdg × Bool) : List AV → Option AV
  | [.agg [.int .i64 k, .str s]] => some (rdOut (rd k s))
  | _ => none
theorem sreadF_some {rd : Int → ByteArray → Rdg × Bool} {args : List AV} {v : AV} (h : sreadF rd args = some v) : ∃ k s, args = [.agg [I k, .str s]] ∧ v = rdOut (rd k s) := by
  unfold sreadF at h
  split at h <;> cases h
  exact ⟨_, _, rfl, rfl⟩
theorem R_intF (m : List Nat) (k : Int) (lo hi ex : List Int) (h : (∀ l ∈ lo, l ≤ k) ∧ ∀ l ∈ hi, k ≤ l) (hex : ∀ c ∈ ex, k ≠ c) {V : Value} (hv : R m (I k) V) : R m (.intF .i64 k lo hi ex) V := by
  simp only [R] at hv ⊢
  exact ⟨hv, h, hex⟩
theorem RL_kind {m : List Nat} {k : Int} {s : AV} {a : AV} (h : ∀ V, R m (I k) V → R m a V) {Vs : List Value} (hv : RL m [.agg [I k, s]] Vs) : RL m [.agg [a, s]] Vs := by
  obtain ⟨V, Vs', rfl, h1, h2⟩ := RL_cons.1 hv
  refine RL.cons ?_ h2
  simp only [R] at h1 ⊢
  obtain ⟨Ws, rfl, h3⟩ := h1
  obtain ⟨W1, Ws1, rfl, h4, h5⟩ := RL_cons.1 h3
  exact ⟨_, rfl, RL.cons (h _ h4) h5⟩
/-- A function of a frame that agrees with the plain one at all its kinds. -/
theorem sread_of {f : FuncId} {env : Env} (hE : EnvOk Tryz.prog env)
    (h1 : ∀ s, s.size = 12 → acall Tryz.prog env 200 f [.agg [I 1, .strG s 12 (gOf s)]] [] pK = rdT (rd1 (gOf s)).1 (rd1 (gOf s)).2)
    (h3 : ∀ s, s.size = 12 → acall Tryz.prog env 200 f [.agg [I 3, .strG s 12 (gOf s)]] [] pK = rdT (rd3 (gOf s)).1 (rd3 (gOf s)).2)
    (h2 : ∀ s, s.size = 18 → acall Tryz.prog env 200 f [.agg [I 2, .strG s 18 (gOf s)]] [] pK = rdT (rd2 (gOf s)).1 (rd2 (gOf s)).2)
    (n1 : ∀ s g, acall Tryz.prog env 200 f [.agg [I 1, .strF s 0 g [12]]] [] pK = none5)
    (n3 : ∀ s g, acall Tryz.prog env 200 f [.agg [I 3, .strF s 0 g [12]]] [] pK = none5)
    (n2 : ∀ s g, acall Tryz.prog env 200 f [.agg [I 2, .strF s 0 g [18]]] [] pK = none5)
    (lo : ∀ k s, acall Tryz.prog env 200 f [.agg [.intF .i64 k [] [0] [1, 2, 3], .str s]] [] pK = none5)
    (hi : ∀ k s, acall Tryz.prog env 200 f [.agg [.intF .i64 k [4] [] [1, 2, 3], .str s]] [] pK = none5) : PureOk Tryz.prog f anyArgs (sreadF readS) := by
  refine pure_of' hE 200 _ _ _ ?_
  rintro args v - h
  obtain ⟨k, s, rfl, rfl⟩ := sreadF_some h
  have G : ∀ n, s.size = n → ∀ m Vs, RL m [.agg [I k, .str s]] Vs → RL m [.agg [I k, .strG s n (gOf s)]] Vs := fun n hn m Vs hv => RL_frame (fun V hV => by rw [← hn]; exact R_strG m s hV) hv
  have F : ∀ n : Int, (s.size : Int) ≠ n → ∀ m Vs, RL m [.agg [I k, .str s]] Vs → RL m [.agg [I k, .strF s 0 (gOf s) [n]]] Vs := fun n hn m Vs hv => RL_frame (fun V hV => R_strF m s 0 [n] (by omega) (by simpa using hn) hV) hv
  have z : ¬ (k = 1 ∧ s.size = 12) → ¬ (k = 3 ∧ s.size = 12) → ¬ (k = 2 ∧ s.size = 18) → none5 = some (rdOut (readS k s)) := fun a b c => by unfold readS; rw [if_neg a, if_neg b, if_neg c]; rfl
  refine ⟨rfl, ?_⟩
  by_cases k1 : k = 1
  · subst k1
    by_cases hs : s.size = 12
    · refine ⟨[.agg [I 1, .strG s 12 (gOf s)]], rfl, G 12 hs, (h1 s hs).trans ?_⟩
      unfold readS; rw [if_pos ⟨rfl, hs⟩]; rfl
    · exact ⟨[.agg [I 1, .strF s 0 (gOf s) [12]]], rfl, F 12 (by omega), (n1 s _).trans (z (by omega) (by omega) (by omega))⟩
  by_cases k3 : k = 3
  · subst k3
    by_cases hs : s.size = 12
    · refine ⟨[.agg [I 3, .strG s 12 (gOf s)]], rfl, G 12 hs, (h3 s hs).trans ?_⟩
      unfold readS; rw [if_neg (by omega), if_pos ⟨rfl, hs⟩]; rfl
    · exact ⟨[.agg [I 3, .strF s 0 (gOf s) [12]]], rfl, F 12 (by omega), (n3 s _).trans (z (by omega) (by omega) (by omega))⟩
  by_cases k2 : k = 2
  · subst k2
    by_cases hs : s.size = 18
    · refine ⟨[.agg [I 2, .strG s 18 (gOf s)]], rfl, G 18 hs, (h2 s hs).trans ?_⟩
      unfold readS; rw [if_neg (by omega), if_neg (by omega), if_pos ⟨rfl, hs⟩]; rfl
    · exact ⟨[.agg [I 2, .strF s 0 (gOf s) [18]]], rfl, F 18 (by omega), (n2 s _).trans (z (by omega) (by omega) (by omega))⟩
  have e : ∀ c ∈ [(1 : Int), 2, 3], k ≠ c := by simp; omega
  rcases (show k ≤ 0 ∨ 4 ≤ k by omega) with l | l
  · exact ⟨[.agg [.intF .i64 k [] [0] [1, 2, 3], .str s]], rfl, fun m Vs hv => RL_kind (fun V hV => R_intF m k _ _ _ ⟨by simp, by simpa using l⟩ e hV) hv, (lo k s).trans (z (by omega) (by omega) (by omega))⟩
  · exact ⟨[.agg [.intF .i64 k [4] [] [1, 2, 3], .str s]], rfl, fun m Vs hv => RL_kind (fun V hV => R_intF m k _ _ _ ⟨by simpa using l, by simp⟩ e hV) hv, (hi k s).trans (z (by omega) (by omega) (by omega))⟩

/-! ### The two functions -/
theorem in_wd {g : Nat → Int} (hg : B g) (i j : Nat) (e : j = i + 1) : wr .i64 (wr .i16 (wdI (g i) (g j))) = s2 g i := by subst e; exact i16_eq (hg i) (hg _)
theorem in_sg {g : Nat → Int} (hg : B g) (i j : Nat) (e : j = i + 1) : sgI (g i) (g j) = s2 g i := by subst e; exact sgI_eq (hg i) (hg _)
theorem in_uw {g : Nat → Int} (hg : B g) (i j : Nat) (e : j = i + 1) : wdI (g i) (g j) = u2 g i := by subst e; exact wdI_eq (hg i) (hg _)
theorem in_cn {g : Nat → Int} (hg : B g) (i j : Nat) (e : j = i + 1) : cntI (g i) (g j) = u2 g i := by subst e; exact cntI_eq (hg i) (hg _)
theorem sread_con : PureOk Tryz.prog 69 anyArgs (sreadF readS) := by
  have hE : EnvOk Tryz.prog (envSR Fx.part norm unit wdI) := EnvOk.t (EnvOk.p (EnvOk.t (EnvOk.f (EnvOk.f (EnvOk.f ok_nil en_vUnit unit_con) en_vNorm vnorm_con) (enter_of Tryz.func74 (by kernel_rfl) rfl) part_con) (enter_of Tryz.func30 (by kernel_rfl) rfl)) (enter_of Tryz.func113 (by kernel_rfl) rfl) word_con) (enter_of Tryz.func112 (by kernel_rfl) rfl)
  refine sread_of hE (fun s hs => ?_) (fun s hs => ?_) (fun s hs => ?_) (read1_no _ _ _ _) (read3_no _ _ _ _) (read2_no _ _ _ _) (readL_no _ _ _ _) (readH_no _ _ _ _)
  · have hg := gOf_B s
    refine (read1_raw Fx.part norm unit wdI s (gOf s)).trans ?_
    dsimp only
    rw [tick_eq hg, in_wd hg 6 7 rfl, in_wd hg 8 9 rfl, in_wd hg 10 11 rfl, shl25_eq (s2_in hg 6), shl25_eq (s2_in hg 8), shl25_eq (s2_in hg 10), gy_eq, gy_eq, gy_eq, okT_eq]
    exact cut_eq rfl _
  · have hg := gOf_B s
    refine (read3_raw Fx.part norm unit wdI s (gOf s)).trans ?_
    dsimp only
    rw [tick_eq hg, in_wd hg 6 7 rfl, in_wd hg 8 9 rfl, in_wd hg 10 11 rfl, okT_eq, an_eq, an_eq]
    refine cut_eq ?_ _
    rw [Bool.and_assoc, dand]
    rfl
  · have hg := gOf_B s
    refine (read2_raw Fx.part norm unit wdI s (gOf s)).trans ?_
    dsimp only
    rw [tick_eq hg, in_uw hg 6 7 rfl, in_uw hg 8 9 rfl, in_uw hg 10 11 rfl, in_uw hg 12 13 rfl, in_uw hg 14 15 rfl, in_uw hg 16 17 rfl, df_eq (u2_in hg 6) (u2_in hg 8), df_eq (u2_in hg 10) (u2_in hg 12), df_eq (u2_in hg 14) (u2_in hg 16), okT_eq, an_eq, an_eq, lt2_eq, lt2_eq, lt2_eq, Bool.false_or]
    exact cut_eq rfl _
theorem rread_con : PureOk Tryz.prog 58 anyArgs (sreadF readS) := by
  have hE : EnvOk Tryz.prog (renvSR Fx.part norm unit cntI sgI) := EnvOk.t (EnvOk.p (EnvOk.p (EnvOk.f (EnvOk.f (EnvOk.f ok_nil en_vrUnit runit_con) en_vrNorm rvnorm_con) en_rPart rpart_con) (enter_of Tryz.func106 (by kernel_rfl) rfl) signed_con) (enter_of Tryz.func107 (by kernel_rfl) rfl) count_con) (enter_of Tryz.func66 (by kernel_rfl) rfl)
  refine sread_of hE (fun s hs => ?_) (fun s hs => ?_) (fun s hs => ?_) (rread1_no _ _ _ _ _) (rread3_no _ _ _ _ _) (rread2_no _ _ _ _ _) (rreadL_no _ _ _ _ _) (rreadH_no _ _ _ _ _)
  · have hg := gOf_B s
    refine (rread1_raw Fx.part norm unit cntI sgI s (gOf s)).trans ?_
    dsimp only
    have h6 := s2_in hg 6; have h8 := s2_in hg 8; have h10 := s2_in hg 10
    rw [rtick_eq hg, in_sg hg 6 7 rfl, in_sg hg 8 9 rfl, in_sg hg 10 11 rfl, w64_in (by omega) (by omega), w64_in (by omega) (by omega), w64_in (by omega) (by omega), far_eq, far_eq, far_eq, rokT_eq]
    unfold rd1 cut
    cases okP (tickP (gOf s)) <;> cases in3 (s2 (gOf s) 6) <;> cases in3 (s2 (gOf s) 8) <;> cases in3 (s2 (gOf s) 10) <;> rfl
  · have hg := gOf_B s
    refine (rread3_raw Fx.part norm unit cntI sgI s (gOf s)).trans ?_
    dsimp only
    rw [rtick_eq hg, in_sg hg 6 7 rfl, in_sg hg 8 9 rfl, in_sg hg 10 11 rfl, rokT_eq]
    refine cut_eq2 ?_ _
    show _ = (okP (tickP (gOf s)) && decide (1099511627776 ≤ (norm (fld (gOf s)).1.x (fld (gOf s)).1.y (fld (gOf s)).1.z (fld (gOf s)).2).1 ∧ (norm (fld (gOf s)).1.x (fld (gOf s)).1.y (fld (gOf s)).1.z (fld (gOf s)).2).1 ≤ 131941395333120))
    congr 1
    show (!(bif decide ((norm (fld (gOf s)).1.x (fld (gOf s)).1.y (fld (gOf s)).1.z (fld (gOf s)).2).1 < 1099511627776) then true else decide ((norm (fld (gOf s)).1.x (fld (gOf s)).1.y (fld (gOf s)).1.z (fld (gOf s)).2).1 > 131941395333120))) = _
    generalize (norm (fld (gOf s)).1.x (fld (gOf s)).1.y (fld (gOf s)).1.z (fld (gOf s)).2).1 = n
    by_cases h : n < 1099511627776
    · rw [decide_eq_true h, bt, decide_eq_false (show ¬ (1099511627776 ≤ n ∧ n ≤ 131941395333120) by omega)]; rfl
    · rw [decide_eq_false h, bf]
      by_cases h2 : n > 131941395333120
      · rw [decide_eq_true h2, decide_eq_false (show ¬ (1099511627776 ≤ n ∧ n ≤ 131941395333120) by omega)]; rfl
      · rw [decide_eq_false h2, decide_eq_true (show 1099511627776 ≤ n ∧ n ≤ 131941395333120 by omega)]; rfl
  · have hg := gOf_B s
    refine (rread2_raw Fx.part norm unit cntI sgI s (gOf s)).trans ?_
    dsimp only
    rw [rtick_eq hg, in_cn hg 6 7 rfl, in_cn hg 8 9 rfl, in_cn hg 10 11 rfl, in_cn hg 12 13 rfl, in_cn hg 14 15 rfl, in_cn hg 16 17 rfl, rdf_eq (u2_in hg 6) (u2_in hg 8), rdf_eq (u2_in hg 10) (u2_in hg 12), rdf_eq (u2_in hg 14) (u2_in hg 16), rokT_eq, rlt2_eq, rlt2_eq, rlt2_eq, Bool.false_or]
    refine cut_eq2 ?_ _
    show (okP (tickP (gOf s)) && !(bif !(lit (u2 (gOf s) 6) (u2 (gOf s) 8) || lit (u2 (gOf s) 10) (u2 (gOf s) 12) || lit (u2 (gOf s) 14) (u2 (gOf s) 16)) then true else (unit (sunV (gOf s)) false).2)) = _
    cases okP (tickP (gOf s)) <;> cases (lit (u2 (gOf s) 6) (u2 (gOf s) 8) || lit (u2 (gOf s) 10) (u2 (gOf s) 12) || lit (u2 (gOf s) 14) (u2 (gOf s) 16)) <;> cases (unit (sunV (gOf s)) false).2 <;> rfl
end Go.Proofs.YtdojnnlhaiennaaGreat.Se

/- A sensor's frame, and what is fresh: the program's and the reference's functions are the same plain ones. Conditions: none. -/
namespace Go.Proofs.YtdojnnlhaiennaaGreat.Se
open Go Go.Proofs.YtdojnnlhaiennaaGreat.Ae Go.Proofs.YtdojnnlhaiennaaGreat.Fx Go.Proofs.YtdojnnlhaiennaaGreat.Lx Go.Proofs.YtdojnnlhaiennaaGreat.Tx Go.Proofs.YtdojnnlhaiennaaGreat.Ve Go.Proofs.YtdojnnlhaiennaaGreat.Te Go.Proofs.YtdojnnlhaiennaaGreat.Rx

/-- Six counts. -/
structure Six where
  (c0 c1 c2 c3 c4 c5 : Int)
def Six.av (c : Six) : AV := .agg [I c.c0, I c.c1, I c.c2, I c.c3, I c.c4, I c.c5]
def noFr : Option AV := some (Fr.av ⟨0, ⟨#[]⟩, false⟩)
def aFr (k : Int) (l : List Int) : Option AV := some (Fr.av ⟨k, strOf l, true⟩)
def tb (t : Int) : List Int := [wr .u8 (t / p2 40), wr .u8 (t / p2 32), wr .u8 (t / p2 24), wr .u8 (t / p2 16), wr .u8 (t / p2 8), wr .u8 (t / p2 0)]
def two (c : Int) : List Int := [wr .u8 (c / p2 8), wr .u8 c]
def s16 (c : Int) : Bool := c != wr .i64 (wr .i16 c)
def no16 (c : Int) : Bool := bif decide (c < 0) then true else decide (c > 65535)
def w3 (k t c0 c1 c2 : Int) : Option AV := bif !(okT t) then noFr else bif s16 c0 then noFr else bif s16 c1 then noFr else bif s16 c2 then noFr else aFr k (tb t ++ two c0 ++ two c1 ++ two c2)
def rc (c : Int) : Int := bif decide (c < 0) then wr .i64 (c + 65536) else c
def rtwo (c : Int) : List Int := [wr .u8 (wr .i64 ((rc c).tdiv 256)), wr .u8 ((rc c).tmod 256)]
/-! ### The plain function -/
def i16 (c : Int) : Bool := decide (-32768 ≤ c ∧ c ≤ 32767)
def i17 (c : Int) : Bool := decide (0 ≤ c ∧ c ≤ 65535)
theorem rng_eq (c lo hi : Int) : (bif decide (c < lo) then true else decide (c > hi)) = !(decide (lo ≤ c ∧ c ≤ hi)) := by
  by_cases h : c < lo
  · rw [decide_eq_true h, bt, decide_eq_false (by omega)]; rfl
  · rw [decide_eq_false h, bf]
    by_cases h2 : c > hi
    · rw [decide_eq_true h2, decide_eq_false (by omega)]; rfl
    · rw [decide_eq_false h2, decide_eq_true (by omega)]; rfl
theorem no16_eq (c : Int) : no16 c = !(i17 c) := rng_eq c 0 65535
theorem rtwo_eq {c : Int} (h : -32768 ≤ c ∧ c ≤ 65535) : rtwo c = two c := by
  unfold rtwo two
  have e8 : p2 8 = 256 := by decide
  have hc : 0 ≤ rc c ∧ rc c ≤ 65535 ∧ rc c % 65536 = c % 65536 := by
    unfold rc
    by_cases hn : c < 0
    · rw [decide_eq_true hn, bt, w64_in (by omega) (by omega)]; omega
    · rw [decide_eq_false hn, bf]; omega
  generalize rc c = d at *
  have e1 : d.tdiv 256 = d / 256 := Int.tdiv_eq_ediv_of_nonneg hc.1
  have e2 : d.tmod 256 = d % 256 := Int.tmod_eq_emod_of_nonneg hc.1
  rw [e1, e2, e8, w64_in (by omega) (by omega), u8_eq, u8_eq, u8_eq, u8_eq]
  have e3 : d / 256 % 256 = c / 256 % 256 := by omega
  have e4 : d % 256 % 256 = c % 256 := by omega
  rw [e3, e4]
/-! ### Fresh -/
def freshP (t n : Int) : Bool := bif decide (t ≤ n) then decide (wr .u64 (wr .u64 n - wr .u64 t) ≤ 500) else false
theorem fresh_raw (k t a b c n : Int) : acall Tryz.prog [] 60 70 [.agg [I k, I t, I a, I b, I c], I n] [] pK = some (.bool (freshP t n)) := by kernel_rfl
def freshF : List AV → Option AV
  | [.agg [.int .i64 _, .int .i64 t, .int .i64 _, .int .i64 _, .int .i64 _], .int .i64 n] => some (.bool (freshP t n))
  | _ => none
theorem freshF_some {args : List AV} {v : AV} (h : freshF args = some v) : ∃ k t a b c n, args = [.agg [I k, I t, I a, I b, I c], I n] ∧ v = .bool (freshP t n) := by
  unfold freshF at h
  split at h <;> cases h
  exact ⟨_, _, _, _, _, _, rfl, rfl⟩
theorem fresh_con : PureOk Tryz.prog 70 anyArgs freshF := by
  refine pure_of ok_nil 60 _ _ _ ?_
  rintro args v - h
  obtain ⟨k, t, a, b, c, n, rfl, rfl⟩ := freshF_some h
  exact ⟨rfl, rfl, fresh_raw k t a b c n⟩
end Go.Proofs.YtdojnnlhaiennaaGreat.Se

/- Which elements are right: the program's and the reference's answers are the same. Conditions: none. -/
namespace Go.Proofs.YtdojnnlhaiennaaGreat.Orb
open Go Go.Proofs.YtdojnnlhaiennaaGreat.Ae Go.Proofs.YtdojnnlhaiennaaGreat.Fx Go.Proofs.YtdojnnlhaiennaaGreat.Lx Go.Proofs.YtdojnnlhaiennaaGreat.Tx Go.Proofs.YtdojnnlhaiennaaGreat.Te Go.Proofs.YtdojnnlhaiennaaGreat.Rx Go.Proofs.YtdojnnlhaiennaaGreat.Row

structure El where
  (a e i node peri m t : Int)
def El.av (o : El) : List AV := [I o.a, I o.e, I o.i, I o.node, I o.peri, I o.m, I o.t]
def chkS : List Bool → Option AV → Option AV
  | [], k => k
  | b :: l, k => bif b then some (.bool false) else chkS l k
def farA (n : Int) : Bool := oor (decide (n < -6908435304716)) (decide (n > 6908435304716))
def inA (n : Int) : Bool := an (decide (n ≥ -6908435304716)) (decide (n ≤ 6908435304716))
section
variable (mu : Op2)
theorem oright_raw (o : El) : acall Tryz.prog [(30, .text), (127, m2 112 mu)] 60 122 [.agg o.av] [] pK =
    let m1 := mu o.a (wr .i64 (1099511627776 - o.e)) false
    let m2 := mu o.a (wr .i64 (1099511627776 + o.e)) m1.2
    chkS [farA o.node, farA o.peri, farA o.m, decide (o.e < 0), decide (o.e > 109951162777), decide (o.i < 0), decide (o.i > 3454217652358), !(ckT o.t)]
      (bif decide (m1.1 ≥ 7232738120604) then (bif decide (m2.1 ≤ 9211859050600) then some (.bool !m2.2) else some (.bool false)) else some (.bool false)) := by kernel_rfl
theorem roright_raw (o : El) : acall Tryz.prog [(66, .text), (65, .text), (47, m2 74 mu)] 60 28 [.agg o.av] [] pK =
    let m1 := mu o.a (wr .i64 (1099511627776 - o.e)) false
    let m2 := mu o.a (wr .i64 (1099511627776 + o.e)) m1.2
    chkS [decide (o.e < 0), decide (o.e > 109951162777), decide (o.i < 0), decide (o.i > 3454217652358), !(inA o.node), !(inA o.peri), !(inA o.m), !(an (decide (o.t ≥ 0)) (decide (o.t ≤ 157766400000)))]
      (some (.bool (an (an (!m2.2) (decide (m1.1 ≥ 7232738120604))) (decide (m2.1 ≤ 9211859050600))))) := by kernel_rfl
end
def El.zero : El := ⟨0, 0, 0, 0, 0, 0, 0⟩
def elF (f : El → Bool) : List AV → Option AV
  | [.agg [.int .i64 a, .int .i64 e, .int .i64 i, .int .i64 n, .int .i64 p, .int .i64 m, .int .i64 t]] => some (.bool (f ⟨a, e, i, n, p, m, t⟩))
  | _ => none
/-! ### Which elements are right -/
def rightO (o : El) : Bool :=
  let m1 := mul o.a (wr .i64 (1099511627776 - o.e)) false
  let m2 := mul o.a (wr .i64 (1099511627776 + o.e)) m1.2
  !(farA o.node) && !(farA o.peri) && !(farA o.m) && !(decide (o.e < 0)) && !(decide (o.e > 109951162777)) && !(decide (o.i < 0)) && !(decide (o.i > 3454217652358)) && ckT o.t && decide (m1.1 ≥ 7232738120604) && decide (m2.1 ≤ 9211859050600) && !m2.2
theorem chkS_eq : ∀ (l : List Bool) (b : Bool), chkS l (some (.bool b)) = some (.bool (l.all (fun x => !x) && b))
  | [], b => by simp [chkS]
  | x :: l, b => by
    simp only [chkS]
    rw [chkS_eq l]
    cases x <;> simp
theorem inA_eq (n : Int) : inA n = !(farA n) := by
  unfold inA farA
  rw [an_eq, oor_eq']
  by_cases h1 : n < -6908435304716 <;> by_cases h2 : n > 6908435304716 <;> simp [h1, h2] <;> omega
where oor_eq' (a b : Bool) : oor a b = (a || b) := by cases a <;> rfl
theorem rightRaw_eq (o : El) (m1 m2 : Int × Bool) :
    chkS [farA o.node, farA o.peri, farA o.m, decide (o.e < 0), decide (o.e > 109951162777), decide (o.i < 0), decide (o.i > 3454217652358), !(ckT o.t)]
      (bif decide (m1.1 ≥ 7232738120604) then (bif decide (m2.1 ≤ 9211859050600) then some (.bool !m2.2) else some (.bool false)) else some (.bool false)) =
    some (.bool (!(farA o.node) && !(farA o.peri) && !(farA o.m) && !(decide (o.e < 0)) && !(decide (o.e > 109951162777)) && !(decide (o.i < 0)) && !(decide (o.i > 3454217652358)) && ckT o.t && decide (m1.1 ≥ 7232738120604) && decide (m2.1 ≤ 9211859050600) && !m2.2)) := by
  have e : (bif decide (m1.1 ≥ 7232738120604) then (bif decide (m2.1 ≤ 9211859050600) then some (AV.bool !m2.2) else some (.bool false)) else some (.bool false)) = some (.bool (decide (m1.1 ≥ 7232738120604) && (decide (m2.1 ≤ 9211859050600) && !m2.2))) := by
    cases decide (m1.1 ≥ 7232738120604) <;> cases decide (m2.1 ≤ 9211859050600) <;> rfl
  rw [e, chkS_eq]
  simp only [List.all_cons, List.all_nil, Bool.not_not, Bool.and_true, Bool.and_assoc]
theorem rrightRaw_eq (o : El) (m1 m2 : Int × Bool) :
    chkS [decide (o.e < 0), decide (o.e > 109951162777), decide (o.i < 0), decide (o.i > 3454217652358), !(inA o.node), !(inA o.peri), !(inA o.m), !(an (decide (o.t ≥ 0)) (decide (o.t ≤ 157766400000)))]
      (some (.bool (an (an (!m2.2) (decide (m1.1 ≥ 7232738120604))) (decide (m2.1 ≤ 9211859050600))))) =
    some (.bool (!(farA o.node) && !(farA o.peri) && !(farA o.m) && !(decide (o.e < 0)) && !(decide (o.e > 109951162777)) && !(decide (o.i < 0)) && !(decide (o.i > 3454217652358)) && ckT o.t && decide (m1.1 ≥ 7232738120604) && decide (m2.1 ≤ 9211859050600) && !m2.2)) := by
  rw [chkS_eq]
  simp only [List.all_cons, List.all_nil, Bool.not_not, Bool.and_true, inA_eq, an_eq]
  have ec : ckT o.t = (decide (o.t ≥ 0) && decide (o.t ≤ 157766400000)) := by unfold ckT; rw [an_eq]
  rw [ec]
  congr 2
  generalize farA o.node = b0
  generalize farA o.peri = b1
  generalize farA o.m = b2
  generalize decide (o.e < 0) = b3
  generalize decide (o.e > 109951162777) = b4
  generalize decide (o.i < 0) = b5
  generalize decide (o.i > 3454217652358) = b6
  generalize decide (o.t ≥ 0) = b7
  generalize decide (o.t ≤ 157766400000) = b8
  generalize decide (m1.1 ≥ 7232738120604) = b9
  generalize decide (m2.1 ≤ 9211859050600) = b10
  generalize m2.2 = b11
  ac_rfl
theorem elF_some {f : El → Bool} {args : List AV} {v : AV} (h : elF f args = some v) : ∃ o : El, args = [.agg o.av] ∧ v = .bool (f o) := by
  unfold elF at h
  split at h <;> cases h
  rename_i a e i n p m t
  exact ⟨⟨a, e, i, n, p, m, t⟩, rfl, rfl⟩
theorem oright_con : PureOk Tryz.prog 122 anyArgs (elF rightO) := by
  have hE : EnvOk Tryz.prog [(30, .text), (127, m2 112 mul)] := EnvOk.t (EnvOk.f ok_nil Fx.en_mul mul_con) (enter_of Tryz.func30 (by kernel_rfl) rfl)
  refine pure_of hE 60 _ _ _ ?_
  rintro args v - h
  obtain ⟨o, rfl, rfl⟩ := elF_some h
  exact ⟨rfl, rfl, (oright_raw mul o).trans (rightRaw_eq o _ _)⟩
theorem roright_con : PureOk Tryz.prog 28 anyArgs (elF rightO) := by
  have hE : EnvOk Tryz.prog [(66, .text), (65, .text), (47, m2 74 mul)] := EnvOk.t (EnvOk.t (EnvOk.f ok_nil en_rMul rmul_con) (enter_of Tryz.func65 (by kernel_rfl) rfl)) (enter_of Tryz.func66 (by kernel_rfl) rfl)
  refine pure_of hE 60 _ _ _ ?_
  rintro args v - h
  obtain ⟨o, rfl, rfl⟩ := elF_some h
  exact ⟨rfl, rfl, (roright_raw mul o).trans (rrightRaw_eq o _ _)⟩

end Go.Proofs.YtdojnnlhaiennaaGreat.Orb

/- The functions of package telem and of its reference, as the interpreter finds them. Conditions: none. -/
namespace Go.Proofs.YtdojnnlhaiennaaGreat.Te
open Go Go.Proofs.YtdojnnlhaiennaaGreat.Ae Go.Proofs.YtdojnnlhaiennaaGreat.Fx Go.Proofs.YtdojnnlhaiennaaGreat.Lx Go.Proofs.YtdojnnlhaiennaaGreat.Tx


/-- What is told: tick, mode, faults, ack, err, rejects, attitude, dipole. -/
structure Tell where
  (t m f a e r q0 q1 q2 q3 d0 d1 d2 : Int)
def Tell.av (x : Tell) : List AV := [I x.t, I x.m, I x.f, I x.a, I x.e, I x.r, I x.q0, I x.q1, I x.q2, I x.q3, I x.d0, I x.d1, I x.d2]
def Tell.zero : Tell := ⟨0, 0, 0, 0, 0, 0, 0, 0, 0, 0, 0, 0, 0⟩

def no16 (n : Int) : Bool := n != wr .i64 (wr .i16 n)
def no8 (n : Int) : Bool := n != wr .i64 (wr .u8 n)
def chk : List Bool → Option AV → Option AV
  | [], k => k
  | b :: l, k => bif b then some (.bool false) else chk l k
def lastB (x : Tell) : Bool := an (an (an (an (an (ckT x.t) (decide (x.m ≥ 0))) (decide (x.m ≤ 3))) (decide (x.f ≥ 0))) (decide (x.f ≤ 15))) (x.r == wr .i64 (wr .u16 x.r))
theorem right_raw (x : Tell) : acall Tryz.prog [(162, .text), (30, .text)] 60 163 [.agg x.av] [] pK =
    chk [no16 x.q0, no16 x.q1, no16 x.q2, no16 x.q3, no16 x.d0, no16 x.d1, no16 x.d2, no8 x.a, no8 x.e] (some (.bool (lastB x))) := by kernel_rfl

section
variable (pa : Op3) (rt : Tell → Bool)
def rightF (rt : Tell → Bool) : List AV → Option AV
  | [.agg [.int .i64 t, .int .i64 m, .int .i64 f, .int .i64 a, .int .i64 e, .int .i64 r, .int .i64 q0, .int .i64 q1, .int .i64 q2, .int .i64 q3, .int .i64 d0, .int .i64 d1, .int .i64 d2]] => some (.bool (rt ⟨t, m, f, a, e, r, q0, q1, q2, q3, d0, d1, d2⟩))
  | _ => none
structure Seven where
  (p0 p1 p2 p3 e0 e1 e2 : Int)
  bad : Bool
def seven (q0 q1 q2 q3 m0 m1 m2 : Int) : Seven :=
  let p0 := pa q0 1 67108864 false
  let p1 := pa q1 1 67108864 p0.2
  let p2 := pa q2 1 67108864 p1.2
  let p3 := pa q3 1 67108864 p2.2
  let e0 := pa m0 10000 1099511627776 p3.2
  let e1 := pa m1 10000 1099511627776 e0.2
  let e2 := pa m2 10000 1099511627776 e1.2
  ⟨p0.1, p1.1, p2.1, p3.1, e0.1, e1.1, e2.1, e2.2⟩
def Seven.tup (s : Seven) : AV := .tup [.agg [I s.p0, I s.p1, I s.p2, I s.p3], .agg [I s.e0, I s.e1, I s.e2]]
def Seven.none : AV := .tup [.agg [I 0, I 0, I 0, I 0], .agg [I 0, I 0, I 0]]
def countsRaw (s : Seven) : Option AV :=
  bif s.bad then some Seven.none else bif !(rt ⟨0, 0, 0, 0, 0, 0, s.p0, s.p1, s.p2, s.p3, s.e0, s.e1, s.e2⟩) then some Seven.none else some s.tup
def envC : Env := [(162, .text), (163, .pure anyArgs (rightF rt)), (74, m3 112 pa)]
theorem counts_raw (q0 q1 q2 q3 m0 m1 m2 : Int) : acall Tryz.prog (envC pa rt) 60 90 [.agg [I q0, I q1, I q2, I q3], .agg [I m0, I m1, I m2]] [] pK = countsRaw rt (seven pa q0 q1 q2 q3 m0 m1 m2) := by kernel_rfl
end
end Go.Proofs.YtdojnnlhaiennaaGreat.Te

/- Frames of what is told, written and read, as the interpreter finds them. Conditions: none. -/
namespace Go.Proofs.YtdojnnlhaiennaaGreat.Te
open Go Go.Proofs.YtdojnnlhaiennaaGreat.Ae Go.Proofs.YtdojnnlhaiennaaGreat.Fx Go.Proofs.YtdojnnlhaiennaaGreat.Lx Go.Proofs.YtdojnnlhaiennaaGreat.Tx

def noFrame : AV := .tup [.agg [I 0, .str ⟨#[]⟩], .bool false]
section
variable (rt : Tell → Bool)
def two (n : Int) : List Int := [wr .u8 (n / p2 8), wr .u8 n]
def wBytes (x : Tell) : List Int := [wr .u8 (x.t / p2 40), wr .u8 (x.t / p2 32), wr .u8 (x.t / p2 24), wr .u8 (x.t / p2 16), wr .u8 (x.t / p2 8), wr .u8 (x.t / p2 0),
  wr .u8 x.m, wr .u8 x.f, wr .u8 x.a, wr .u8 x.e, wr .u8 (x.r / p2 8), wr .u8 x.r] ++ two x.q0 ++ two x.q1 ++ two x.q2 ++ two x.q3 ++ two x.d0 ++ two x.d1 ++ two x.d2
def envR : Env := [(162, .text), (163, .pure anyArgs (rightF rt))]
theorem write_raw (x : Tell) : acall Tryz.prog (envR rt) 80 91 [.agg x.av] [] pK =
    bif !(rt x) then some noFrame else some (.tup [.agg [I 32, .str (strOf (wBytes x))], .bool true]) := by kernel_rfl

def rtwo (n : Int) : List Int :=
  let n' := bif decide (n < 0) then wr .i64 (n + 65536) else n
  [wr .u8 (wr .i64 (n'.tdiv 256)), wr .u8 (n'.tmod 256)]
/-! ### Reading -/
def noTell : AV := .tup [.agg Tell.zero.av, .bool false]
def tk (t b : Int) : Int := bor .i64 (wr .i64 (t * p2 8)) (wr .i64 b)
end
end Go.Proofs.YtdojnnlhaiennaaGreat.Te

/- The reference of package telem, as the interpreter finds it; the laws' shapes. Conditions: none. -/
namespace Go.Proofs.YtdojnnlhaiennaaGreat.Te
open Go Go.Proofs.YtdojnnlhaiennaaGreat.Ae Go.Proofs.YtdojnnlhaiennaaGreat.Fx Go.Proofs.YtdojnnlhaiennaaGreat.Lx Go.Proofs.YtdojnnlhaiennaaGreat.Tx Go.Proofs.YtdojnnlhaiennaaGreat.Row

def inn (n a b : Int) : Bool := an (decide (n ≥ a)) (decide (n ≤ b))
def chain : List Bool → Bool → Option AV
  | [], k => some (.bool k)
  | b :: l, k => bif b then chain l k else some (.bool false)
def rck (t : Int) : Bool := an (decide (t ≥ 0)) (decide (t ≤ 157766400000))
theorem rright_raw (x : Tell) : acall Tryz.prog [(170, .text), (66, .text)] 80 109 [.agg x.av] [] pK =
    chain [rck x.t, inn x.m 0 3, inn x.f 0 15, inn x.a 0 255, inn x.e 0 255, inn x.r 0 65535, inn x.q0 (-32768) 32767, inn x.q1 (-32768) 32767, inn x.q2 (-32768) 32767, inn x.q3 (-32768) 32767, inn x.d0 (-32768) 32767, inn x.d1 (-32768) 32767] (inn x.d2 (-32768) 32767) := by kernel_rfl

theorem ltN_eq (i : Int) (n : Nat) : ltN i n = (decide (0 ≤ i) && decide (i < (n : Int))) := by
  by_cases h : 0 ≤ i ∧ i < (n : Int)
  · rw [ltN_of h.1 h.2, decide_eq_true h.1, decide_eq_true h.2]; rfl
  · have h1 : ltN i n = false := by
      cases hb : ltN i n with
      | false => rfl
      | true => exact absurd (ltN_ok hb) h
    rw [h1]
    by_cases h0 : 0 ≤ i
    · rw [decide_eq_true h0, decide_eq_false (fun h2 => h ⟨h0, h2⟩)]; rfl
    · rw [decide_eq_false h0]; rfl
theorem rcount_raw' (s : ByteArray) (n : Nat) (g : Nat → Int) (i : Int) : acall Tryz.prog [] 40 108 [.strG s n g, I i] [] pK =
    bif ltN (i) n then
      bif ltN (wr .i64 (i + 1)) n then
        let c := wr .i64 (wr .i64 (wr .i64 (g i.toNat) * 256) + wr .i64 (g (wr .i64 (i + 1)).toNat))
        bif decide (c ≥ 32768) then some (I (wr .i64 (c - 65536))) else some (I c)
      else none
    else none := by kernel_rfl
theorem rcount_raw (s : ByteArray) (n : Nat) (g : Nat → Int) (i : Int) : acall Tryz.prog [] 40 108 [.strG s n g, I i] [] pK =
    bif decide (0 ≤ i) && decide (i < (n : Int)) then
      bif decide (0 ≤ wr .i64 (i + 1)) && decide (wr .i64 (i + 1) < (n : Int)) then
        let c := wr .i64 (wr .i64 (wr .i64 (g i.toNat) * 256) + wr .i64 (g (wr .i64 (i + 1)).toNat))
        bif decide (c ≥ 32768) then some (I (wr .i64 (c - 65536))) else some (I c)
      else none
    else none := by
  simp only [← ltN_eq]
  exact rcount_raw' _ _ _ _
section
variable (rt : Tell → Bool) (cn : Int → Int → Int)
def cntC : List AV → Bool
  | [.strG _ n _, .int .i64 i] => decide (0 ≤ i) && decide (i + 1 < (n : Int)) && decide (n < 1000)
  | _ => false
def cntF (cn : Int → Int → Int) : List AV → Option AV
  | [.strG _ _ g, .int .i64 i] => some (I (cn (g i.toNat) (g (i + 1).toNat)))
  | _ => none
def renvD : Env := [(108, .pure cntC (cntF cn)), (109, .pure anyArgs (rightF rt))]
def rtk (t b : Int) : Int := wr .i64 (wr .i64 (t * 256) + wr .i64 b)
def rrdTell (g : Nat → Int) : Tell :=
  ⟨rtk (rtk (rtk (rtk (rtk (rtk 0 (g 0)) (g 1)) (g 2)) (g 3)) (g 4)) (g 5), wr .i64 (g 6), wr .i64 (g 7), wr .i64 (g 8), wr .i64 (g 9), wr .i64 (wr .i64 (wr .i64 (g 10) * 256) + wr .i64 (g 11)),
    cn (g 12) (g 13), cn (g 14) (g 15), cn (g 16) (g 17), cn (g 18) (g 19), cn (g 20) (g 21), cn (g 22) (g 23), cn (g 24) (g 25)⟩
theorem rread_raw (k : Int) (s : ByteArray) (g : Nat → Int) : acall Tryz.prog (renvD rt cn) 80 64 [.agg [I k, .strG s 26 g]] [] pK =
    bif oor (k != 32) false then some noTell else bif !(rt (rrdTell cn g)) then some noTell else some (.tup [.agg (rrdTell cn g).av, .bool true]) := by kernel_rfl
theorem rread_no (k : Int) (s : ByteArray) (g : Nat → Int) : acall Tryz.prog (renvD rt cn) 80 64 [.agg [I k, .strF s 0 g [26]]] [] pK = bif oor (k != 32) true then some noTell else none := by kernel_rfl
end

/-! ### The laws -/
structure Rd where
  t : Tell
  ok : Bool
def Rd.av (x : Rd) : AV := .tup [.agg x.t.av, .bool x.ok]
section
variable (wf : Tell → Fr) (rd : Int → ByteArray → Rd)
def writeF : List AV → Option AV
  | [.agg [.int .i64 t, .int .i64 m, .int .i64 f, .int .i64 a, .int .i64 e, .int .i64 r, .int .i64 q0, .int .i64 q1, .int .i64 q2, .int .i64 q3, .int .i64 d0, .int .i64 d1, .int .i64 d2]] => some (wf ⟨t, m, f, a, e, r, q0, q1, q2, q3, d0, d1, d2⟩).av
  | _ => none
def readF : List AV → Option AV
  | [.agg [.int .i64 k, .str s]] => some (rd k s).av
  | _ => none
end
section
variable (wf rwf : Tell → Fr) (rd rrd : Int → ByteArray → Rd)
end
end Go.Proofs.YtdojnnlhaiennaaGreat.Te

/- What is told, as plain numbers: the program's and the reference's functions are the same ones. Conditions: none. -/
namespace Go.Proofs.YtdojnnlhaiennaaGreat.Te
open Go Go.Proofs.YtdojnnlhaiennaaGreat.Ae Go.Proofs.YtdojnnlhaiennaaGreat.Fx Go.Proofs.YtdojnnlhaiennaaGreat.Lx Go.Proofs.YtdojnnlhaiennaaGreat.Tx Go.Proofs.YtdojnnlhaiennaaGreat.Row Go.Proofs.YtdojnnlhaiennaaGreat.Rx

/-! ### Which may be told -/
def i16 (n : Int) : Bool := decide (-32768 ≤ n ∧ n ≤ 32767)
def rightP (x : Tell) : Bool := decide (0 ≤ x.t ∧ x.t ≤ 157766400000) && decide (0 ≤ x.m ∧ x.m ≤ 3) && decide (0 ≤ x.f ∧ x.f ≤ 15) && decide (0 ≤ x.a ∧ x.a ≤ 255) && decide (0 ≤ x.e ∧ x.e ≤ 255) && decide (0 ≤ x.r ∧ x.r ≤ 65535) &&
  i16 x.q0 && i16 x.q1 && i16 x.q2 && i16 x.q3 && i16 x.d0 && i16 x.d1 && i16 x.d2

theorem no16_eq (n : Int) : no16 n = !(i16 n) := by
  unfold no16 i16
  have e : wr .i64 (wr .i16 n) = (n + 32768) % 65536 - 32768 := by
    have : wr .i16 n = (n + 32768) % 65536 - 32768 := rfl
    rw [this]; exact w64_in (by omega) (by omega)
  rw [e]
  by_cases h : -32768 ≤ n ∧ n ≤ 32767
  · have : (n + 32768) % 65536 - 32768 = n := by omega
    rw [this, decide_eq_true h]; simp
  · have : n ≠ (n + 32768) % 65536 - 32768 := by omega
    rw [decide_eq_false h]; simpa using this
theorem no8_eq (n : Int) : no8 n = !(decide (0 ≤ n ∧ n ≤ 255)) := by
  unfold no8
  have e : wr .i64 (wr .u8 n) = n % 256 := by
    have : wr .u8 n = n % 256 := rfl
    rw [this]; exact w64_in (by omega) (by omega)
  rw [e]
  by_cases h : 0 ≤ n ∧ n ≤ 255
  · have : n % 256 = n := by omega
    rw [this, decide_eq_true h]; simp
  · have : n ≠ n % 256 := by omega
    rw [decide_eq_false h]; simpa using this
theorem lastB_eq (x : Tell) : lastB x = (decide (0 ≤ x.t ∧ x.t ≤ 157766400000) && decide (0 ≤ x.m ∧ x.m ≤ 3) && decide (0 ≤ x.f ∧ x.f ≤ 15) && decide (0 ≤ x.r ∧ x.r ≤ 65535)) := by
  unfold lastB ckT
  simp only [an_eq]
  have e : (x.r == wr .i64 (wr .u16 x.r)) = decide (0 ≤ x.r ∧ x.r ≤ 65535) := by
    have e : wr .i64 (wr .u16 x.r) = x.r % 65536 := by
      have : wr .u16 x.r = x.r % 65536 := rfl
      rw [this]; exact w64_in (by omega) (by omega)
    rw [e]
    by_cases h : 0 ≤ x.r ∧ x.r ≤ 65535
    · have : x.r % 65536 = x.r := by omega
      rw [this, decide_eq_true h]; simp
    · have : x.r ≠ x.r % 65536 := by omega
      rw [decide_eq_false h]; simpa using this
  rw [e]
  simp only [ge_iff_le, dand, and_assoc]
theorem chk_eq : ∀ (l : List Bool) (b : Bool), chk l (some (.bool b)) = some (.bool (l.all (fun x => !x) && b))
  | [], b => by simp [chk]
  | x :: l, b => by
    simp only [chk]
    rw [chk_eq l]
    cases x <;> simp
theorem chain_eq : ∀ (l : List Bool) (b : Bool), chain l b = some (.bool (l.all (fun x => x) && b))
  | [], b => by simp [chain]
  | x :: l, b => by
    simp only [chain]
    rw [chain_eq l]
    cases x <;> simp
theorem right_con : PureOk Tryz.prog 163 anyArgs (rightF rightP) := by
  have hE : EnvOk Tryz.prog [(162, .text), (30, .text)] := EnvOk.t (EnvOk.t ok_nil (enter_of Tryz.func30 (by kernel_rfl) rfl)) (enter_of Tryz.func162 (by kernel_rfl) rfl)
  refine pure_of hE 60 _ _ _ ?_
  rintro args v - h
  unfold rightF at h
  split at h <;> cases h
  rename_i t m f a e r q0 q1 q2 q3 d0 d1 d2
  refine ⟨rfl, rfl, (right_raw ⟨t, m, f, a, e, r, q0, q1, q2, q3, d0, d1, d2⟩).trans ?_⟩
  rw [chk_eq, lastB_eq]
  simp only [no16_eq, no8_eq, List.all_cons, List.all_nil, Bool.not_not, rightP, Bool.and_true]
  congr 2
  generalize i16 q0 = b0
  generalize i16 q1 = b1
  generalize i16 q2 = b2
  generalize i16 q3 = b3
  generalize i16 d0 = b4
  generalize i16 d1 = b5
  generalize i16 d2 = b6
  generalize decide (0 ≤ t ∧ t ≤ 157766400000) = c0
  generalize decide (0 ≤ m ∧ m ≤ 3) = c1
  generalize decide (0 ≤ f ∧ f ≤ 15) = c2
  generalize decide (0 ≤ a ∧ a ≤ 255) = c3
  generalize decide (0 ≤ e ∧ e ≤ 255) = c4
  generalize decide (0 ≤ r ∧ r ≤ 65535) = c5
  ac_rfl
theorem inn_eq (n a b : Int) : inn n a b = decide (a ≤ n ∧ n ≤ b) := by
  unfold inn; rw [an_eq]; simp only [ge_iff_le, dand]
theorem rright_con : PureOk Tryz.prog 109 anyArgs (rightF rightP) := by
  have hE : EnvOk Tryz.prog [(170, .text), (66, .text)] := EnvOk.t (EnvOk.t ok_nil (enter_of Tryz.func66 (by kernel_rfl) rfl)) (enter_of Tryz.func170 (by kernel_rfl) rfl)
  refine pure_of hE 80 _ _ _ ?_
  rintro args v - h
  unfold rightF at h
  split at h <;> cases h
  rename_i t m f a e r q0 q1 q2 q3 d0 d1 d2
  refine ⟨rfl, rfl, (rright_raw ⟨t, m, f, a, e, r, q0, q1, q2, q3, d0, d1, d2⟩).trans ?_⟩
  rw [chain_eq]
  simp only [inn_eq, rck, an_eq, ge_iff_le, dand, List.all_cons, List.all_nil, rightP, i16, Bool.and_true, and_assoc]

/-! ### Writing -/
def writeP (x : Tell) : Fr := if rightP x then ⟨32, strOf (wBytes x), true⟩ else ⟨0, ⟨#[]⟩, false⟩
theorem writeRaw_eq (x : Tell) : (bif !(rightP x) then some noFrame else some (.tup [.agg [I 32, .str (strOf (wBytes x))], .bool true])) = some (writeP x).av := by
  unfold writeP
  cases rightP x
  · simp only [Bool.not_false, cond_true, Bool.false_eq_true, if_false]; rfl
  · simp only [Bool.not_true, cond_false, if_true]; rfl
theorem rtwo_eq {n : Int} (h : -32768 ≤ n ∧ n ≤ 65535) : rtwo n = two n := by
  unfold rtwo two
  dsimp only
  rw [p2_8, w64_in (n := n + 65536) (by omega) (by omega)]
  by_cases hn : n < 0
  · rw [decide_eq_true hn, bt]
    have h1 : (n + 65536).tdiv 256 = (n + 65536) / 256 := Int.tdiv_eq_ediv_of_nonneg (by omega)
    have h2 : (n + 65536).tmod 256 = (n + 65536) % 256 := Int.tmod_eq_emod_of_nonneg (by omega)
    rw [h1, h2, w64_in (by omega) (by omega), u8_eq, u8_eq, u8_eq, u8_eq]
    have e1 : (n + 65536) / 256 % 256 = n / 256 % 256 := by omega
    have e2 : (n + 65536) % 256 % 256 = n % 256 := by omega
    rw [e1, e2]
  · rw [decide_eq_false hn, bf]
    have h1 : n.tdiv 256 = n / 256 := Int.tdiv_eq_ediv_of_nonneg (by omega)
    have h2 : n.tmod 256 = n % 256 := Int.tmod_eq_emod_of_nonneg (by omega)
    simp only [h1, h2, w64_in (n := n / 256) (by omega) (by omega), u8_eq]
    have e2 : n % 256 % 256 = n % 256 := by omega
    rw [e2]
structure RightX (x : Tell) : Prop where
  t : 0 ≤ x.t ∧ x.t ≤ 157766400000
  m : 0 ≤ x.m ∧ x.m ≤ 3
  f : 0 ≤ x.f ∧ x.f ≤ 15
  a : 0 ≤ x.a ∧ x.a ≤ 255
  e : 0 ≤ x.e ∧ x.e ≤ 255
  r : 0 ≤ x.r ∧ x.r ≤ 65535
  q0 : -32768 ≤ x.q0 ∧ x.q0 ≤ 32767
  q1 : -32768 ≤ x.q1 ∧ x.q1 ≤ 32767
  q2 : -32768 ≤ x.q2 ∧ x.q2 ≤ 32767
  q3 : -32768 ≤ x.q3 ∧ x.q3 ≤ 32767
  d0 : -32768 ≤ x.d0 ∧ x.d0 ≤ 32767
  d1 : -32768 ≤ x.d1 ∧ x.d1 ≤ 32767
  d2 : -32768 ≤ x.d2 ∧ x.d2 ≤ 32767
theorem rightX {x : Tell} (h : rightP x = true) : RightX x := by
  simp only [rightP, i16, Bool.and_eq_true, decide_eq_true_eq] at h
  obtain ⟨⟨⟨⟨⟨⟨⟨⟨⟨⟨⟨⟨h0, h1⟩, h2⟩, h3⟩, h4⟩, h5⟩, h6⟩, h7⟩, h8⟩, h9⟩, h10⟩, h11⟩, h12⟩ := h
  exact ⟨h0, h1, h2, h3, h4, h5, h6, h7, h8, h9, h10, h11, h12⟩
theorem writeF_some {wf : Tell → Fr} {args : List AV} {v : AV} (h : writeF wf args = some v) : ∃ x : Tell, args = [.agg x.av] ∧ v = (wf x).av := by
  unfold writeF at h
  split at h <;> cases h
  rename_i t m f a e r q0 q1 q2 q3 d0 d1 d2
  exact ⟨⟨t, m, f, a, e, r, q0, q1, q2, q3, d0, d1, d2⟩, rfl, rfl⟩
theorem write_con : PureOk Tryz.prog 91 anyArgs (writeF writeP) := by
  have hE : EnvOk Tryz.prog (envR rightP) := EnvOk.t (EnvOk.p ok_nil (enter_of Tryz.func163 (by kernel_rfl) rfl) right_con) (enter_of Tryz.func162 (by kernel_rfl) rfl)
  refine pure_of hE 80 _ _ _ ?_
  rintro args v - h
  obtain ⟨x, rfl, rfl⟩ := writeF_some h
  exact ⟨rfl, rfl, (write_raw rightP x).trans (writeRaw_eq x)⟩
end Go.Proofs.YtdojnnlhaiennaaGreat.Te

/- Frames of what is told, read: the program's and the reference's functions are the same one; the three laws of layer 17. Conditions: none. -/
namespace Go.Proofs.YtdojnnlhaiennaaGreat.Te
open Go Go.Proofs.YtdojnnlhaiennaaGreat.Ae Go.Proofs.YtdojnnlhaiennaaGreat.Fx Go.Proofs.YtdojnnlhaiennaaGreat.Lx Go.Proofs.YtdojnnlhaiennaaGreat.Tx Go.Proofs.YtdojnnlhaiennaaGreat.Row Go.Proofs.YtdojnnlhaiennaaGreat.Rx

/-! ### Bytes -/
def dTell (g : Nat → Int) : Tell :=
  ⟨((((g 0 * 256 + g 1) * 256 + g 2) * 256 + g 3) * 256 + g 4) * 256 + g 5, g 6, g 7, g 8, g 9, g 10 * 256 + g 11,
    sg (g 12) (g 13), sg (g 14) (g 15), sg (g 16) (g 17), sg (g 18) (g 19), sg (g 20) (g 21), sg (g 22) (g 23), sg (g 24) (g 25)⟩
theorem rtk_eq {t b : Int} (ht : 0 ≤ t) (ht1 : t < 36028797018963968) (hb : 0 ≤ b ∧ b < 256) : rtk t b = t * 256 + b := by
  unfold rtk
  rw [w64_in (n := t * 256) (by omega) (by omega), w64_in (n := b) (by omega) (by omega), w64_in (by omega) (by omega)]
theorem rrdTell_eq {g : Nat → Int} (hg : B g) : rrdTell sg g = dTell g := by
  have h0 := hg 0; have h1 := hg 1; have h2 := hg 2; have h3 := hg 3; have h4 := hg 4; have h5 := hg 5; have h6 := hg 6; have h7 := hg 7; have h8 := hg 8; have h9 := hg 9; have h10 := hg 10; have h11 := hg 11
  unfold rrdTell dTell
  rw [rtk_eq (t := 0) (by omega) (by omega) h0, rtk_eq (by omega) (by omega) h1, rtk_eq (by omega) (by omega) h2, rtk_eq (by omega) (by omega) h3, rtk_eq (by omega) (by omega) h4, rtk_eq (by omega) (by omega) h5]
  rw [w64_in (n := g 10) (by omega) (by omega), w64_in (n := g 10 * 256) (by omega) (by omega), w64_in (n := g 11) (by omega) (by omega), w64_in (n := g 10 * 256 + g 11) (by omega) (by omega)]
  rw [w64_in (n := g 6) (by omega) (by omega), w64_in (n := g 7) (by omega) (by omega), w64_in (n := g 8) (by omega) (by omega), w64_in (n := g 9) (by omega) (by omega)]
  simp only [Int.zero_mul, Int.zero_add]

/-! ### Reading -/

def readP (k : Int) (s : ByteArray) : Rd := if k = 32 ∧ s.size = 26 ∧ rightP (dTell (gOf s)) = true then ⟨dTell (gOf s), true⟩ else ⟨Tell.zero, false⟩
theorem readF_some {rd : Int → ByteArray → Rd} {args : List AV} {v : AV} (h : readF rd args = some v) : ∃ k s, args = [.agg [I k, .str s]] ∧ v = (rd k s).av := by
  unfold readF at h
  split at h <;> cases h
  exact ⟨_, _, rfl, rfl⟩
theorem readRaw_eq (k : Int) (s : ByteArray) (hs : s.size = 26) : (bif oor (k != 32) false then some noTell else bif !(rightP (dTell (gOf s))) then some noTell else some (.tup [.agg (dTell (gOf s)).av, .bool true])) = some (readP k s).av := by
  rw [oor_f]
  unfold readP
  by_cases hk : k = 32
  · subst hk
    rw [show ((32 : Int) != 32) = false from by decide, bf]
    cases hr : rightP (dTell (gOf s))
    · rw [if_neg (by simp)]; rfl
    · rw [if_pos ⟨rfl, hs, rfl⟩]; rfl
  · have : (k != 32) = true := by simpa using hk
    rw [this, bt, if_neg (fun h => hk h.1)]; rfl
def cnR (a b : Int) : Int :=
  let c := wr .i64 (wr .i64 (wr .i64 a * 256) + wr .i64 b)
  bif decide (c ≥ 32768) then wr .i64 (c - 65536) else c
theorem count_con : PureOk Tryz.prog 108 cntC (cntF cnR) := by
  refine pure_of ok_nil 40 _ _ _ ?_
  rintro args v hC h
  unfold cntF at h
  split at h <;> cases h
  rename_i s n g i
  simp only [cntC, Bool.and_eq_true, decide_eq_true_eq] at hC
  refine ⟨rfl, rfl, (rcount_raw s n g i).trans ?_⟩
  rw [w64_in (n := i + 1) (by omega) (by omega), decide_eq_true (show 0 ≤ i by omega), decide_eq_true (show i < (n : Int) by omega), decide_eq_true (show 0 ≤ i + 1 by omega), decide_eq_true (show i + 1 < (n : Int) by omega)]
  simp only [Bool.and_self, cond_true]
  unfold cnR
  dsimp only
  generalize wr .i64 (wr .i64 (wr .i64 (g i.toNat) * 256) + wr .i64 (g (i + 1).toNat)) = c
  cases decide (c ≥ 32768)
  · rw [bf, bf]
  · rw [bt, bt]
theorem cnR_eq {a b : Int} (ha : 0 ≤ a ∧ a < 256) (hb : 0 ≤ b ∧ b < 256) : cnR a b = sg a b := by
  unfold cnR sg
  rw [w64_in (n := a) (by omega) (by omega), w64_in (n := a * 256) (by omega) (by omega), w64_in (n := b) (by omega) (by omega), w64_in (n := a * 256 + b) (by omega) (by omega)]
  dsimp only
  by_cases h : a * 256 + b ≥ 32768
  · rw [decide_eq_true h, bt, if_pos h, w64_in (by omega) (by omega)]
  · rw [decide_eq_false h, bf, if_neg h]
theorem rrdTell_eq' {g : Nat → Int} (hg : B g) : rrdTell cnR g = dTell g := by
  rw [← rrdTell_eq hg]
  unfold rrdTell
  rw [cnR_eq (hg 12) (hg 13), cnR_eq (hg 14) (hg 15), cnR_eq (hg 16) (hg 17), cnR_eq (hg 18) (hg 19), cnR_eq (hg 20) (hg 21), cnR_eq (hg 22) (hg 23), cnR_eq (hg 24) (hg 25)]
theorem rread_con : PureOk Tryz.prog 64 anyArgs (readF readP) := by
  have hE : EnvOk Tryz.prog (renvD rightP cnR) := EnvOk.p (EnvOk.p ok_nil (enter_of Tryz.func109 (by kernel_rfl) rfl) rright_con) (enter_of Tryz.func108 (by kernel_rfl) rfl) count_con
  refine pure_of' hE 80 _ _ _ ?_
  rintro args v - h
  obtain ⟨k, s, rfl, rfl⟩ := readF_some h
  refine ⟨rfl, ?_⟩
  by_cases hs : s.size = 26
  · refine ⟨[.agg [I k, .strG s 26 (gOf s)]], rfl, fun m Vs hv => RL_frame (fun V hV => by rw [← hs]; exact R_strG m s hV) hv, (rread_raw rightP cnR k s (gOf s)).trans ?_⟩
    rw [rrdTell_eq' (gOf_B s)]
    exact readRaw_eq k s hs
  · refine ⟨[.agg [I k, .strF s 0 (gOf s) [26]]], rfl, fun m Vs hv => RL_frame (fun V hV => R_strF m s 0 [26] (by omega) (by simp; omega) hV) hv, (rread_no rightP cnR k s (gOf s)).trans ?_⟩
    rw [oor_t, bt]
    unfold readP
    rw [if_neg (fun h => hs h.2.1)]; rfl

/-! ### What is written is read as that -/
theorem two_sg {n : Int} (h : -32768 ≤ n ∧ n ≤ 32767) : sg (n / 256 % 256) (n % 256) = n := by
  unfold sg; split <;> omega
theorem dTell_wBytes {x : Tell} (h : rightP x = true) : dTell (gOf (strOf (wBytes x))) = x := by
  obtain ⟨t, m, f, a, e, r, q0, q1, q2, q3, d0, d1, d2⟩ := rightX h
  have hp : p2 40 = 1099511627776 ∧ p2 32 = 4294967296 ∧ p2 24 = 16777216 ∧ p2 16 = 65536 ∧ p2 8 = 256 ∧ p2 0 = 1 := by decide
  obtain ⟨p1, p2', p3, p4, p5, p6⟩ := hp
  have G : ∀ (i : Nat) (n : Int), (wBytes x)[i]? = some (wr .u8 n) → gOf (strOf (wBytes x)) i = n % 256 := fun i n h => gOf_strOf _ (n := n % 256) h (by omega)
  unfold dTell
  rw [G 0 (x.t / p2 40) rfl, G 1 (x.t / p2 32) rfl, G 2 (x.t / p2 24) rfl, G 3 (x.t / p2 16) rfl, G 4 (x.t / p2 8) rfl, G 5 (x.t / p2 0) rfl, G 6 x.m rfl, G 7 x.f rfl, G 8 x.a rfl, G 9 x.e rfl, G 10 (x.r / p2 8) rfl, G 11 x.r rfl,
    G 12 (x.q0 / p2 8) rfl, G 13 x.q0 rfl, G 14 (x.q1 / p2 8) rfl, G 15 x.q1 rfl, G 16 (x.q2 / p2 8) rfl, G 17 x.q2 rfl, G 18 (x.q3 / p2 8) rfl, G 19 x.q3 rfl, G 20 (x.d0 / p2 8) rfl, G 21 x.d0 rfl, G 22 (x.d1 / p2 8) rfl, G 23 x.d1 rfl, G 24 (x.d2 / p2 8) rfl, G 25 x.d2 rfl]
  rw [p1, p2', p3, p4, p5, p6, two_sg q0, two_sg q1, two_sg q2, two_sg q3, two_sg d0, two_sg d1, two_sg d2]
  have e1 : ((((x.t / 1099511627776 % 256 * 256 + x.t / 4294967296 % 256) * 256 + x.t / 16777216 % 256) * 256 + x.t / 65536 % 256) * 256 + x.t / 256 % 256) * 256 + x.t / 1 % 256 = x.t := by omega
  have e2 : x.m % 256 = x.m := by omega
  have e3 : x.f % 256 = x.f := by omega
  have e4 : x.a % 256 = x.a := by omega
  have e5 : x.e % 256 = x.e := by omega
  have e6 : x.r / 256 % 256 * 256 + x.r % 256 = x.r := by omega
  rw [e1, e2, e3, e4, e5, e6]
theorem readP_writeP (x : Tell) : readP (writeP x).k (writeP x).s = ⟨if rightP x then x else Tell.zero, rightP x⟩ := by
  unfold writeP
  cases h : rightP x
  · simp only [Bool.false_eq_true, if_false]
    unfold readP
    rw [if_neg (fun h => by have := h.1; omega)]
  · simp only [if_true]
    unfold readP
    rw [dTell_wBytes h, if_pos ⟨rfl, by rw [strOf_size]; rfl, h⟩]
/-! ### What is read is written as just that frame -/
end Go.Proofs.YtdojnnlhaiennaaGreat.Te

/- Orders, written and read, as the interpreter finds them. Conditions: none. -/
namespace Go.Proofs.YtdojnnlhaiennaaGreat.Orb
open Go Go.Proofs.YtdojnnlhaiennaaGreat.Ae Go.Proofs.YtdojnnlhaiennaaGreat.Fx Go.Proofs.YtdojnnlhaiennaaGreat.Lx Go.Proofs.YtdojnnlhaiennaaGreat.Tx Go.Proofs.YtdojnnlhaiennaaGreat.Te Go.Proofs.YtdojnnlhaiennaaGreat.Rx Go.Proofs.YtdojnnlhaiennaaGreat.Row

structure Ord where
  (q c : Int)
  el : El
def Ord.cells (o : Ord) : List AV := [I o.q, I o.c, I o.el.a, I o.el.e, I o.el.i, I o.el.node, I o.el.peri, I o.el.m, I o.el.t]
structure RO where
  o : Ord
  e : Int
def RO.av (x : RO) : AV := .tup [.agg x.o.cells, I x.e]
def ro (q c : Int) (el : El) (e : Int) : Option AV := some (RO.av ⟨⟨q, c, el⟩, e⟩)
section
variable (rt : El → Bool)
def envOR : Env := [(173, .text), (174, .text), (122, .pure anyArgs (elF rt))]
def is24 (c : Int) : Bool := bif c == 2 then c == 2 else c == 4
theorem oread0_raw (k : Int) (s : ByteArray) (g : Nat → Int) : acall Tryz.prog (envOR rt) 120 115 [.agg [I k, .strG s 0 g]] [] pK = bif oor (k != 16) true then ro 0 0 El.zero 1 else none := by kernel_rfl
theorem oread1_raw (k : Int) (s : ByteArray) (g : Nat → Int) : acall Tryz.prog (envOR rt) 120 115 [.agg [I k, .strG s 1 g]] [] pK = bif oor (k != 16) true then ro 0 0 El.zero 1 else none := by kernel_rfl
theorem oread2_raw (k : Int) (s : ByteArray) (g : Nat → Int) : acall Tryz.prog (envOR rt) 120 115 [.agg [I k, .strG s 2 g]] [] pK =
    let q := wr .i64 (g 0)
    let c := wr .i64 (g 1)
    bif oor (k != 16) false then ro 0 0 El.zero 1 else
    bif c == 1 then (bif c == 3 then none else ro q c El.zero 0) else
    bif is24 c then (bif c == 3 then none else ro q c El.zero 0) else
    bif c == 3 then ro q 0 El.zero 1 else ro q 0 El.zero 2 := by kernel_rfl
def num (g : Nat → Int) (i : Nat) : Int := tk (tk (tk (tk (tk (tk (tk (tk 0 (g (i + 0))) (g (i + 1))) (g (i + 2))) (g (i + 3))) (g (i + 4))) (g (i + 5))) (g (i + 6))) (g (i + 7))
def rdEl (g : Nat → Int) : El := ⟨num g 2, num g 10, num g 18, num g 26, num g 34, num g 42, num g 50⟩
theorem oread58_raw (k : Int) (s : ByteArray) (g : Nat → Int) : acall Tryz.prog (envOR rt) 120 115 [.agg [I k, .strG s 58 g]] [] pK =
    let q := wr .i64 (g 0)
    let c := wr .i64 (g 1)
    bif oor (k != 16) false then ro 0 0 El.zero 1 else
    bif c == 1 then ro q 0 El.zero 1 else
    bif is24 c then ro q 0 El.zero 1 else
    bif c == 3 then (bif c == 3 then (bif !(rt (rdEl g)) then ro q 0 El.zero 3 else ro q c (rdEl g) 0) else ro q c El.zero 0) else ro q 0 El.zero 2 := by kernel_rfl
theorem oreadF_raw (k : Int) (s : ByteArray) (g : Nat → Int) : acall Tryz.prog (envOR rt) 120 115 [.agg [I k, .strF s 2 g [2, 58]]] [] pK =
    let q := wr .i64 (g 0)
    let c := wr .i64 (g 1)
    bif oor (k != 16) false then ro 0 0 El.zero 1 else
    bif c == 1 then ro q 0 El.zero 1 else
    bif is24 c then ro q 0 El.zero 1 else
    bif c == 3 then ro q 0 El.zero 1 else ro q 0 El.zero 2 := by kernel_rfl

/-! ### Writing -/
def pb (n : Int) : List Int := [wr .u8 (n / p2 56), wr .u8 (n / p2 48), wr .u8 (n / p2 40), wr .u8 (n / p2 32), wr .u8 (n / p2 24), wr .u8 (n / p2 16), wr .u8 (n / p2 8), wr .u8 (n / p2 0)]
end
end Go.Proofs.YtdojnnlhaiennaaGreat.Orb

/- Orders as plain numbers; their laws. Conditions: none. -/
namespace Go.Proofs.YtdojnnlhaiennaaGreat.Orb
open Go Go.Proofs.YtdojnnlhaiennaaGreat.Ae Go.Proofs.YtdojnnlhaiennaaGreat.Fx Go.Proofs.YtdojnnlhaiennaaGreat.Lx Go.Proofs.YtdojnnlhaiennaaGreat.Tx Go.Proofs.YtdojnnlhaiennaaGreat.Te Go.Proofs.YtdojnnlhaiennaaGreat.Rx Go.Proofs.YtdojnnlhaiennaaGreat.Row

/-! ### Reading -/
def readO (k : Int) (s : ByteArray) : RO :=
  if k = 16 ∧ 2 ≤ s.size then
    if gOf s 1 = 1 ∨ gOf s 1 = 2 ∨ gOf s 1 = 4 then
      if s.size = 2 then ⟨⟨gOf s 0, gOf s 1, El.zero⟩, 0⟩ else ⟨⟨gOf s 0, 0, El.zero⟩, 1⟩
    else if gOf s 1 = 3 then
      if s.size = 58 then (if rightO (rdEl (gOf s)) then ⟨⟨gOf s 0, 3, rdEl (gOf s)⟩, 0⟩ else ⟨⟨gOf s 0, 0, El.zero⟩, 3⟩) else ⟨⟨gOf s 0, 0, El.zero⟩, 1⟩
    else ⟨⟨gOf s 0, 0, El.zero⟩, 2⟩
  else ⟨⟨0, 0, El.zero⟩, 1⟩
def oreadF (rd : Int → ByteArray → RO) : List AV → Option AV
  | [.agg [.int .i64 k, .str s]] => some (rd k s).av
  | _ => none
theorem oreadF_some {rd : Int → ByteArray → RO} {args : List AV} {v : AV} (h : oreadF rd args = some v) : ∃ k s, args = [.agg [I k, .str s]] ∧ v = (rd k s).av := by
  unfold oreadF at h
  split at h <;> cases h
  exact ⟨_, _, rfl, rfl⟩
theorem envOR_ok : EnvOk Tryz.prog (envOR rightO) := EnvOk.t (EnvOk.t (EnvOk.p ok_nil (enter_of Tryz.func122 (by kernel_rfl) rfl) oright_con) (enter_of Tryz.func174 (by kernel_rfl) rfl)) (enter_of Tryz.func173 (by kernel_rfl) rfl)
theorem is24_t {c : Int} (h : c = 2 ∨ c = 4) : is24 c = true := by
  unfold is24
  rcases h with rfl | rfl <;> decide
theorem is24_f {c : Int} (h2 : ¬ c = 2) (h4 : ¬ c = 4) : is24 c = false := by
  unfold is24; rw [eq_f h2, bf, eq_f h4]
theorem gw (s : ByteArray) (i : Nat) : wr .i64 (gOf s i) = gOf s i := by have := gOf_B s i; exact w64_in (by omega) (by omega)
/-- The orders' tree, by its parts. -/
theorem tree_eq {q c : Int} {n1 n2 x1 x2 x3 x4 : Option AV} (h1 : c = 1 → x1 = n1) (h24 : c = 2 ∨ c = 4 → x2 = n1) (h3 : c = 3 → x3 = n2) (h0 : ¬ c = 1 → ¬ c = 2 → ¬ c = 4 → ¬ c = 3 → x4 = ro q 0 El.zero 2) :
    (bif c == 1 then x1 else bif is24 c then x2 else bif c == 3 then x3 else x4) = if c = 1 ∨ c = 2 ∨ c = 4 then n1 else if c = 3 then n2 else ro q 0 El.zero 2 := by
  by_cases c1 : c = 1
  · rw [eq_t c1, bt, if_pos (.inl c1), h1 c1]
  · rw [eq_f c1, bf]
    by_cases c24 : c = 2 ∨ c = 4
    · rw [is24_t c24, bt, if_pos (.inr c24), h24 c24]
    · have c2 : ¬ c = 2 := fun e => c24 (.inl e)
      have c4 : ¬ c = 4 := fun e => c24 (.inr e)
      rw [is24_f c2 c4, bf, if_neg (by rintro (h | h | h) <;> contradiction)]
      by_cases c3 : c = 3
      · rw [eq_t c3, bt, if_pos c3, h3 c3]
      · rw [eq_f c3, bf, if_neg c3, h0 c1 c2 c4 c3]
theorem oread_con : PureOk Tryz.prog 115 anyArgs (oreadF readO) := by
  refine pure_of' envOR_ok 120 _ _ _ ?_
  rintro args v - h
  obtain ⟨k, s, rfl, rfl⟩ := oreadF_some h
  refine ⟨rfl, ?_⟩
  have strG : ∀ n, s.size = n → ∀ m Vs, RL m [.agg [I k, .str s]] Vs → RL m [.agg [I k, .strG s n (gOf s)]] Vs := fun n hn m Vs hv => RL_frame (fun V hV => by rw [← hn]; exact R_strG m s hV) hv
  have none1 : ¬ (k = 16 ∧ 2 ≤ s.size) → some (readO k s).av = ro 0 0 El.zero 1 := fun hn => by unfold readO; rw [if_neg hn]; rfl
  have kind : ∀ (X : Option AV), (k = 16 → X = some (readO k s).av) → 2 ≤ s.size → (bif oor (k != 16) false then ro 0 0 El.zero 1 else X) = some (readO k s).av := fun X hX h2 => by
    rw [oor_f]
    by_cases hk : k = 16
    · rw [ne_f hk, bf, hX hk]
    · rw [ne_t hk, bt, none1 (fun h => hk h.1)]
  rcases Nat.lt_or_ge s.size 2 with hlt | hge
  · rcases (show s.size = 0 ∨ s.size = 1 by omega) with hs | hs
    · exact ⟨_, rfl, strG 0 hs, (oread0_raw rightO k s (gOf s)).trans (by rw [oor_t, bt, none1 (fun h => by omega)])⟩
    · exact ⟨_, rfl, strG 1 hs, (oread1_raw rightO k s (gOf s)).trans (by rw [oor_t, bt, none1 (fun h => by omega)])⟩
  · have rd : ∀ (hk : k = 16), some (readO k s).av = if gOf s 1 = 1 ∨ gOf s 1 = 2 ∨ gOf s 1 = 4 then (if s.size = 2 then ro (gOf s 0) (gOf s 1) El.zero 0 else ro (gOf s 0) 0 El.zero 1) else if gOf s 1 = 3 then
        (if s.size = 58 then (if rightO (rdEl (gOf s)) then ro (gOf s 0) 3 (rdEl (gOf s)) 0 else ro (gOf s 0) 0 El.zero 3) else ro (gOf s 0) 0 El.zero 1) else ro (gOf s 0) 0 El.zero 2 := fun hk => by
      unfold readO
      rw [if_pos ⟨hk, hge⟩]
      repeat' split
      all_goals first | rfl | contradiction
    by_cases hs : s.size = 2
    · refine ⟨_, rfl, strG 2 hs, (oread2_raw rightO k s (gOf s)).trans (kind _ (fun hk => ?_) hge)⟩
      rw [rd hk, if_pos hs, if_neg (show ¬ s.size = 58 by omega), gw, gw]
      exact tree_eq (fun e => by rw [eq_f (show ¬ gOf s 1 = 3 by omega), bf]) (fun e => by rw [eq_f (show ¬ gOf s 1 = 3 by omega), bf]) (fun _ => rfl) (fun _ _ _ _ => rfl)
    · by_cases hs' : s.size = 58
      · refine ⟨_, rfl, strG 58 hs', (oread58_raw rightO k s (gOf s)).trans (kind _ (fun hk => ?_) hge)⟩
        rw [rd hk, if_neg hs, if_pos hs', gw, gw]
        refine tree_eq (fun _ => rfl) (fun _ => rfl) (fun e => ?_) (fun _ _ _ _ => rfl)
        rw [eq_t e, bt, e]
        cases rightO (rdEl (gOf s)) <;> rfl
      · refine ⟨[.agg [I k, .strF s 2 (gOf s) [2, 58]]], rfl, fun m Vs hv => RL_frame (fun V hV => R_strF m s 2 [2, 58] hge (by simp; omega) hV) hv, (oreadF_raw rightO k s (gOf s)).trans (kind _ (fun hk => ?_) hge)⟩
        rw [rd hk, if_neg hs, if_neg hs', gw, gw]
        exact tree_eq (fun _ => rfl) (fun _ => rfl) (fun _ => rfl) (fun _ _ _ _ => rfl)

/-! ### Writing -/
end Go.Proofs.YtdojnnlhaiennaaGreat.Orb

/- The laws of layer 17 are true. Conditions: none. -/
namespace Go.Proofs.YtdojnnlhaiennaaGreat.Te
open Go Go.Proofs.YtdojnnlhaiennaaGreat.Ae Go.Proofs.YtdojnnlhaiennaaGreat.Fx Go.Proofs.YtdojnnlhaiennaaGreat.Lx Go.Proofs.YtdojnnlhaiennaaGreat.Tx Go.Proofs.YtdojnnlhaiennaaGreat.Row Go.Proofs.YtdojnnlhaiennaaGreat.Rx

def Seven.tell (s : Seven) : Tell := ⟨0, 0, 0, 0, 0, 0, s.p0, s.p1, s.p2, s.p3, s.e0, s.e1, s.e2⟩
def cutP (s : Seven) : Seven := if s.bad = false ∧ rightP s.tell = true then s else ⟨0, 0, 0, 0, 0, 0, 0, false⟩
def cntsP (q0 q1 q2 q3 m0 m1 m2 : Int) : Seven := cutP (seven Fx.part q0 q1 q2 q3 m0 m1 m2)
theorem countsRaw_eq (s : Seven) : countsRaw rightP s = some (cutP s).tup := by
  unfold countsRaw cutP
  cases hb : s.bad
  · rw [bf]
    change (bif !(rightP s.tell) then _ else _) = _
    cases hr : rightP s.tell
    · rw [if_neg (by simp)]; rfl
    · rw [if_pos ⟨rfl, rfl⟩]; rfl
  · rw [bt, if_neg (by simp)]; rfl
def countF (c : Int → Int → Int → Int → Int → Int → Int → Seven) : List AV → Option AV
  | [.agg [.int .i64 q0, .int .i64 q1, .int .i64 q2, .int .i64 q3], .agg [.int .i64 m0, .int .i64 m1, .int .i64 m2]] => some (c q0 q1 q2 q3 m0 m1 m2).tup
  | _ => none
theorem counts_con : PureOk Tryz.prog 90 anyArgs (countF cntsP) := by
  have hE : EnvOk Tryz.prog (envC Fx.part rightP) := EnvOk.t (EnvOk.p (EnvOk.f ok_nil en_part part_con) (enter_of Tryz.func163 (by kernel_rfl) rfl) right_con) (enter_of Tryz.func162 (by kernel_rfl) rfl)
  refine pure_of hE 60 _ _ _ ?_
  rintro args v - h
  unfold countF at h
  split at h <;> cases h
  exact ⟨rfl, rfl, (counts_raw Fx.part rightP _ _ _ _ _ _ _).trans (countsRaw_eq _)⟩
section
variable (c d : Int → Int → Int → Int → Int → Int → Int → Seven) (wf : Tell → Fr)
end
theorem cutP_right (s : Seven) : rightP (cutP s).tell = true := by
  unfold cutP
  split
  · rename_i h; exact h.2
  · rfl
end Go.Proofs.YtdojnnlhaiennaaGreat.Te

/- Vectors: contracts of a known shape. Conditions: none. -/
namespace Go.Proofs.YtdojnnlhaiennaaGreat.Qx
open Go Go.Proofs.YtdojnnlhaiennaaGreat.Ae Go.Proofs.YtdojnnlhaiennaaGreat.Fx Go.Proofs.YtdojnnlhaiennaaGreat.Lx
abbrev N1 : Sh := .num .i64
abbrev V : Sh := .agg [N1, N1, N1]
abbrev V2 : Sh := .agg [N1, N1, N1, N1, N1, N1]
abbrev Qs : Sh := .agg [N1, N1, N1, N1]
abbrev M9 : Sh := .agg [N1, N1, N1, N1, N1, N1, N1, N1, N1]
abbrev R6 : Sh := .agg [N1, N1, N1, N1, N1, N1]
def Ns : Nat → List Sh
  | 0 => []
  | n + 1 => N1 :: Ns n
abbrev M36 : Sh := .agg (Ns 36)
abbrev G43 : Sh := .agg (Ns 43)
abbrev X78 : Sh := .agg (Ns 78)
abbrev six : Sh := .lit .i64 6
noncomputable def qvAdd_env : Env := [(76, .flow 112 (int2 add)), (117, .text), (116, .text)]
theorem qvAdd_env_ok : EnvOk Tryz.prog qvAdd_env := EnvOk.f (EnvOk.t (EnvOk.t (ok_nil) (enter_of Tryz.func116 (by kernel_rfl) rfl)) (enter_of Tryz.func117 (by kernel_rfl) rfl)) (enter_of Tryz.func76 (by kernel_rfl) rfl) add_con
theorem qvAdd_ex : ∃ q : QF, Meth 72 (shF [V, V] (V) q) := flow_ex qvAdd_env_ok [] 400 _ _ _ _ (fun x b => by kernel_rfl)
noncomputable def qvAdd : QF := Classical.choose qvAdd_ex
theorem qvAdd_con : Meth 72 (shF [V, V] (V) qvAdd) := Classical.choose_spec qvAdd_ex
noncomputable def qvSub_env : Env := [(75, .flow 112 (int2 sub)), (183, .text), (116, .text)]
theorem qvSub_env_ok : EnvOk Tryz.prog qvSub_env := EnvOk.f (EnvOk.t (EnvOk.t (ok_nil) (enter_of Tryz.func116 (by kernel_rfl) rfl)) (enter_of Tryz.func183 (by kernel_rfl) rfl)) (enter_of Tryz.func75 (by kernel_rfl) rfl) sub_con
theorem qvSub_ex : ∃ q : QF, Meth 137 (shF [V, V] (V) q) := flow_ex qvSub_env_ok [] 400 _ _ _ _ (fun x b => by kernel_rfl)
noncomputable def qvSub : QF := Classical.choose qvSub_ex
theorem qvSub_con : Meth 137 (shF [V, V] (V) qvSub) := Classical.choose_spec qvSub_ex
noncomputable def qvSca_env : Env := [(127, .flow 112 (int2 mul)), (184, .text), (116, .text)]
theorem qvSca_env_ok : EnvOk Tryz.prog qvSca_env := EnvOk.f (EnvOk.t (EnvOk.t (ok_nil) (enter_of Tryz.func116 (by kernel_rfl) rfl)) (enter_of Tryz.func184 (by kernel_rfl) rfl)) (enter_of Tryz.func127 (by kernel_rfl) rfl) mul_con
theorem qvSca_ex : ∃ q : QF, Meth 138 (shF [V, N1] (V) q) := flow_ex qvSca_env_ok [] 400 _ _ _ _ (fun x b => by kernel_rfl)
noncomputable def qvSca : QF := Classical.choose qvSca_ex
theorem qvSca_con : Meth 138 (shF [V, N1] (V) qvSca) := Classical.choose_spec qvSca_ex
noncomputable def qvDot_env : Env := [(127, .flow 112 (int2 mul)), (76, .flow 112 (int2 add))]
theorem qvDot_env_ok : EnvOk Tryz.prog qvDot_env := EnvOk.f (EnvOk.f (ok_nil) (enter_of Tryz.func76 (by kernel_rfl) rfl) add_con) (enter_of Tryz.func127 (by kernel_rfl) rfl) mul_con
theorem qvDot_ex : ∃ q : QF, Meth 136 (shF [V, V] (N1) q) := flow_ex qvDot_env_ok [] 400 _ _ _ _ (fun x b => by kernel_rfl)
noncomputable def qvDot : QF := Classical.choose qvDot_ex
theorem qvDot_con : Meth 136 (shF [V, V] (N1) qvDot) := Classical.choose_spec qvDot_ex
noncomputable def qvCro_env : Env := [(127, .flow 112 (int2 mul)), (75, .flow 112 (int2 sub)), (205, .text), (116, .text)]
theorem qvCro_env_ok : EnvOk Tryz.prog qvCro_env := EnvOk.f (EnvOk.f (EnvOk.t (EnvOk.t (ok_nil) (enter_of Tryz.func116 (by kernel_rfl) rfl)) (enter_of Tryz.func205 (by kernel_rfl) rfl)) (enter_of Tryz.func75 (by kernel_rfl) rfl) sub_con) (enter_of Tryz.func127 (by kernel_rfl) rfl) mul_con
theorem qvCro_ex : ∃ q : QF, Meth 185 (shF [V, V] (V) q) := flow_ex qvCro_env_ok [] 400 _ _ _ _ (fun x b => by kernel_rfl)
noncomputable def qvCro : QF := Classical.choose qvCro_ex
theorem qvCro_con : Meth 185 (shF [V, V] (V) qvCro) := Classical.choose_spec qvCro_ex
noncomputable def qvNrm_env : Env := [(121, .flow 112 (int3 norm))]
theorem qvNrm_env_ok : EnvOk Tryz.prog qvNrm_env := EnvOk.f (ok_nil) (enter_of Tryz.func121 (by kernel_rfl) rfl) norm_con
theorem qvNrm_ex : ∃ q : QF, Meth 77 (shF [V] (N1) q) := flow_ex qvNrm_env_ok [] 400 _ _ _ _ (fun x b => by kernel_rfl)
noncomputable def qvNrm : QF := Classical.choose qvNrm_ex
theorem qvNrm_con : Meth 77 (shF [V] (N1) qvNrm) := Classical.choose_spec qvNrm_ex
noncomputable def qvUni_env : Env := [(77, .flow 112 (shF [V] (N1) qvNrm)), (123, .text), (125, .flow 112 (int2 div)), (172, .text), (116, .text)]
theorem qvUni_env_ok : EnvOk Tryz.prog qvUni_env := EnvOk.f (EnvOk.t (EnvOk.f (EnvOk.t (EnvOk.t (ok_nil) (enter_of Tryz.func116 (by kernel_rfl) rfl)) (enter_of Tryz.func172 (by kernel_rfl) rfl)) (enter_of Tryz.func125 (by kernel_rfl) rfl) div_meth) (enter_of Tryz.func123 (by kernel_rfl) rfl)) (enter_of Tryz.func77 (by kernel_rfl) rfl) qvNrm_con
theorem qvUni_ex : ∃ q : QF, Meth 114 (shF [V] (V) q) := flow_ex qvUni_env_ok [] 400 _ _ _ _ (fun x b => by kernel_rfl)
noncomputable def qvUni : QF := Classical.choose qvUni_ex
theorem qvUni_con : Meth 114 (shF [V] (V) qvUni) := Classical.choose_spec qvUni_ex
noncomputable def qvPar_env : Env := [(136, .flow 112 (shF [V, V] (N1) qvDot)), (185, .flow 112 (shF [V, V] (V) qvCro)), (77, .flow 112 (shF [V] (N1) qvNrm)), (114, .flow 112 (shF [V] (V) qvUni))]
theorem qvPar_env_ok : EnvOk Tryz.prog qvPar_env := EnvOk.f (EnvOk.f (EnvOk.f (EnvOk.f (ok_nil) (enter_of Tryz.func114 (by kernel_rfl) rfl) qvUni_con) (enter_of Tryz.func77 (by kernel_rfl) rfl) qvNrm_con) (enter_of Tryz.func185 (by kernel_rfl) rfl) qvCro_con) (enter_of Tryz.func136 (by kernel_rfl) rfl) qvDot_con
theorem qvPar_ex : ∃ q : QF, Meth 139 (shF [V, V] (.tup [N1, N1]) q) := flow_ex qvPar_env_ok [] 400 _ _ _ _ (fun x b => by kernel_rfl)
noncomputable def qvPar : QF := Classical.choose qvPar_ex
theorem qvPar_con : Meth 139 (shF [V, V] (.tup [N1, N1]) qvPar) := Classical.choose_spec qvPar_ex
end Go.Proofs.YtdojnnlhaiennaaGreat.Qx

/- Attitudes: contracts of a known shape. Conditions: none. -/
namespace Go.Proofs.YtdojnnlhaiennaaGreat.Qx
open Go Go.Proofs.YtdojnnlhaiennaaGreat.Ae Go.Proofs.YtdojnnlhaiennaaGreat.Fx Go.Proofs.YtdojnnlhaiennaaGreat.Lx
noncomputable def qqPar_env : Env := []
theorem qqPar_env_ok : EnvOk Tryz.prog qqPar_env := ok_nil
theorem qqPar_ex : ∃ q : QP, PureOk Tryz.prog 189 anyArgs (shP [Qs] (.tup [V, N1]) q) := pure_ex qqPar_env_ok [] 400 _ _ _ (fun x => by kernel_rfl)
noncomputable def qqPar : QP := Classical.choose qqPar_ex
theorem qqPar_con : PureOk Tryz.prog 189 anyArgs (shP [Qs] (.tup [V, N1]) qqPar) := Classical.choose_spec qqPar_ex
noncomputable def qqBac_env : Env := []
theorem qqBac_env_ok : EnvOk Tryz.prog qqBac_env := ok_nil
theorem qqBac_ex : ∃ q : QP, PureOk Tryz.prog 147 anyArgs (shP [Qs] (Qs) q) := pure_ex qqBac_env_ok [] 400 _ _ _ (fun x => by kernel_rfl)
noncomputable def qqBac : QP := Classical.choose qqBac_ex
theorem qqBac_con : PureOk Tryz.prog 147 anyArgs (shP [Qs] (Qs) qqBac) := Classical.choose_spec qqBac_ex
noncomputable def qqPla_env : Env := []
theorem qqPla_env_ok : EnvOk Tryz.prog qqPla_env := ok_nil
theorem qqPla_ex : ∃ q : QP, PureOk Tryz.prog 187 anyArgs (shP [Qs] (Qs) q) := pure_ex qqPla_env_ok [] 400 _ _ _ (fun x => by kernel_rfl)
noncomputable def qqPla : QP := Classical.choose qqPla_ex
theorem qqPla_con : PureOk Tryz.prog 187 anyArgs (shP [Qs] (Qs) qqPla) := Classical.choose_spec qqPla_ex
noncomputable def qqMul_env : Env := [(75, .flow 112 (int2 sub)), (127, .flow 112 (int2 mul)), (136, .flow 112 (shF [V, V] (N1) qvDot)), (185, .flow 112 (shF [V, V] (V) qvCro)), (72, .flow 112 (shF [V, V] (V) qvAdd)), (138, .flow 112 (shF [V, N1] (V) qvSca)), (189, .pure anyArgs (shP [Qs] (.tup [V, N1]) qqPar)), (188, .text)]
theorem qqMul_env_ok : EnvOk Tryz.prog qqMul_env := EnvOk.f (EnvOk.f (EnvOk.f (EnvOk.f (EnvOk.f (EnvOk.f (EnvOk.p (EnvOk.t (ok_nil) (enter_of Tryz.func188 (by kernel_rfl) rfl)) (enter_of Tryz.func189 (by kernel_rfl) rfl) qqPar_con) (enter_of Tryz.func138 (by kernel_rfl) rfl) qvSca_con) (enter_of Tryz.func72 (by kernel_rfl) rfl) qvAdd_con) (enter_of Tryz.func185 (by kernel_rfl) rfl) qvCro_con) (enter_of Tryz.func136 (by kernel_rfl) rfl) qvDot_con) (enter_of Tryz.func127 (by kernel_rfl) rfl) mul_con) (enter_of Tryz.func75 (by kernel_rfl) rfl) sub_con
theorem qqMul_ex : ∃ q : QF, Meth 146 (shF [Qs, Qs] (Qs) q) := flow_ex qqMul_env_ok [] 400 _ _ _ _ (fun x b => by kernel_rfl)
noncomputable def qqMul : QF := Classical.choose qqMul_ex
theorem qqMul_con : Meth 146 (shF [Qs, Qs] (Qs) qqMul) := Classical.choose_spec qqMul_ex
noncomputable def qqUni_env : Env := [(187, .pure anyArgs (shP [Qs] (Qs) qqPla)), (123, .text), (125, .flow 112 (int2 div)), (121, .flow 112 (int3 norm))]
theorem qqUni_env_ok : EnvOk Tryz.prog qqUni_env := EnvOk.p (EnvOk.t (EnvOk.f (EnvOk.f (ok_nil) (enter_of Tryz.func121 (by kernel_rfl) rfl) norm_con) (enter_of Tryz.func125 (by kernel_rfl) rfl) div_meth) (enter_of Tryz.func123 (by kernel_rfl) rfl)) (enter_of Tryz.func187 (by kernel_rfl) rfl) qqPla_con
theorem qqUni_ex : ∃ q : QF, Meth 143 (shF [Qs] (Qs) q) := flow_ex qqUni_env_ok [] 400 _ _ _ _ (fun x b => by kernel_rfl)
noncomputable def qqUni : QF := Classical.choose qqUni_ex
theorem qqUni_con : Meth 143 (shF [Qs] (Qs) qqUni) := Classical.choose_spec qqUni_ex
noncomputable def qqTur_env : Env := [(185, .flow 112 (shF [V, V] (V) qvCro)), (137, .flow 112 (shF [V, V] (V) qvSub)), (72, .flow 112 (shF [V, V] (V) qvAdd)), (138, .flow 112 (shF [V, N1] (V) qvSca)), (189, .pure anyArgs (shP [Qs] (.tup [V, N1]) qqPar))]
theorem qqTur_env_ok : EnvOk Tryz.prog qqTur_env := EnvOk.f (EnvOk.f (EnvOk.f (EnvOk.f (EnvOk.p (ok_nil) (enter_of Tryz.func189 (by kernel_rfl) rfl) qqPar_con) (enter_of Tryz.func138 (by kernel_rfl) rfl) qvSca_con) (enter_of Tryz.func72 (by kernel_rfl) rfl) qvAdd_con) (enter_of Tryz.func137 (by kernel_rfl) rfl) qvSub_con) (enter_of Tryz.func185 (by kernel_rfl) rfl) qvCro_con
theorem qqTur_ex : ∃ q : QF, Meth 152 (shF [Qs, V] (V) q) := flow_ex qqTur_env_ok [] 400 _ _ _ _ (fun x b => by kernel_rfl)
noncomputable def qqTur : QF := Classical.choose qqTur_ex
theorem qqTur_con : Meth 152 (shF [Qs, V] (V) qqTur) := Classical.choose_spec qqTur_ex
noncomputable def qqFro_env : Env := [(143, .flow 112 (shF [Qs] (Qs) qqUni)), (125, .flow 112 (int2 div)), (127, .flow 112 (int2 mul)), (75, .flow 112 (int2 sub)), (76, .flow 112 (int2 add)), (136, .flow 112 (shF [V, V] (N1) qvDot))]
theorem qqFro_env_ok : EnvOk Tryz.prog qqFro_env := EnvOk.f (EnvOk.f (EnvOk.f (EnvOk.f (EnvOk.f (EnvOk.f (ok_nil) (enter_of Tryz.func136 (by kernel_rfl) rfl) qvDot_con) (enter_of Tryz.func76 (by kernel_rfl) rfl) add_con) (enter_of Tryz.func75 (by kernel_rfl) rfl) sub_con) (enter_of Tryz.func127 (by kernel_rfl) rfl) mul_con) (enter_of Tryz.func125 (by kernel_rfl) rfl) div_meth) (enter_of Tryz.func143 (by kernel_rfl) rfl) qqUni_con
theorem qqFro_ex : ∃ q : QF, Meth 186 (shF [V] (Qs) q) := flow_ex qqFro_env_ok [] 400 _ _ _ _ (fun x b => by kernel_rfl)
noncomputable def qqFro : QF := Classical.choose qqFro_ex
theorem qqFro_con : Meth 186 (shF [V] (Qs) qqFro) := Classical.choose_spec qqFro_ex
noncomputable def qqToR_env : Env := [(125, .flow 112 (int2 div)), (127, .flow 112 (int2 mul)), (76, .flow 112 (int2 add)), (189, .pure anyArgs (shP [Qs] (.tup [V, N1]) qqPar)), (187, .pure anyArgs (shP [Qs] (Qs) qqPla)), (188, .text)]
theorem qqToR_env_ok : EnvOk Tryz.prog qqToR_env := EnvOk.f (EnvOk.f (EnvOk.f (EnvOk.p (EnvOk.p (EnvOk.t (ok_nil) (enter_of Tryz.func188 (by kernel_rfl) rfl)) (enter_of Tryz.func187 (by kernel_rfl) rfl) qqPla_con) (enter_of Tryz.func189 (by kernel_rfl) rfl) qqPar_con) (enter_of Tryz.func76 (by kernel_rfl) rfl) add_con) (enter_of Tryz.func127 (by kernel_rfl) rfl) mul_con) (enter_of Tryz.func125 (by kernel_rfl) rfl) div_meth
theorem qqToR_ex : ∃ q : QF, Meth 145 (shF [Qs] (V) q) := flow_ex qqToR_env_ok [] 400 _ _ _ _ (fun x b => by kernel_rfl)
noncomputable def qqToR : QF := Classical.choose qqToR_ex
theorem qqToR_con : Meth 145 (shF [Qs] (V) qqToR) := Classical.choose_spec qqToR_ex
end Go.Proofs.YtdojnnlhaiennaaGreat.Qx

/- Two directions, and the field's change: contracts of a known shape. Conditions: none. -/
namespace Go.Proofs.YtdojnnlhaiennaaGreat.Qx
open Go Go.Proofs.YtdojnnlhaiennaaGreat.Ae Go.Proofs.YtdojnnlhaiennaaGreat.Fx Go.Proofs.YtdojnnlhaiennaaGreat.Lx
noncomputable def qqFrM_env : Env := [(143, .flow 112 (shF [Qs] (Qs) qqUni)), (75, .flow 112 (int2 sub)), (76, .flow 112 (int2 add)), (72, .flow 112 (shF [V, V] (V) qvAdd)), (188, .text)]
theorem qqFrM_env_ok : EnvOk Tryz.prog qqFrM_env := EnvOk.f (EnvOk.f (EnvOk.f (EnvOk.f (EnvOk.t (ok_nil) (enter_of Tryz.func188 (by kernel_rfl) rfl)) (enter_of Tryz.func72 (by kernel_rfl) rfl) qvAdd_con) (enter_of Tryz.func76 (by kernel_rfl) rfl) add_con) (enter_of Tryz.func75 (by kernel_rfl) rfl) sub_con) (enter_of Tryz.func143 (by kernel_rfl) rfl) qqUni_con
theorem qqFrM_ex : ∃ q : QF, Meth 161 (shF [M9] (Qs) q) := flow_ex qqFrM_env_ok [(155, 74)] 600 _ _ _ _ (fun x b => by kernel_rfl)
noncomputable def qqFrM : QF := Classical.choose qqFrM_ex
theorem qqFrM_con : Meth 161 (shF [M9] (Qs) qqFrM) := Classical.choose_spec qqFrM_ex
noncomputable def qtApa_env : Env := [(139, .flow 112 (shF [V, V] (.tup [N1, N1]) qvPar))]
theorem qtApa_env_ok : EnvOk Tryz.prog qtApa_env := EnvOk.f (ok_nil) (enter_of Tryz.func139 (by kernel_rfl) rfl) qvPar_con
theorem qtApa_ex : ∃ q : QF, Meth 82 (shF [V, V] (.flag) q) := flow_ex qtApa_env_ok [] 400 _ _ _ _ (fun x b => by kernel_rfl)
noncomputable def qtApa : QF := Classical.choose qtApa_ex
theorem qtApa_con : Meth 82 (shF [V, V] (.flag) qtApa) := Classical.choose_spec qtApa_ex
noncomputable def qtFra_env : Env := [(185, .flow 112 (shF [V, V] (V) qvCro)), (114, .flow 112 (shF [V] (V) qvUni))]
theorem qtFra_env_ok : EnvOk Tryz.prog qtFra_env := EnvOk.f (EnvOk.f (ok_nil) (enter_of Tryz.func114 (by kernel_rfl) rfl) qvUni_con) (enter_of Tryz.func185 (by kernel_rfl) rfl) qvCro_con
theorem qtFra_ex : ∃ q : QF, Meth 160 (shF [V2] (M9) q) := flow_ex qtFra_env_ok [] 400 _ _ _ _ (fun x b => by kernel_rfl)
noncomputable def qtFra : QF := Classical.choose qtFra_ex
theorem qtFra_con : Meth 160 (shF [V2] (M9) qtFra) := Classical.choose_spec qtFra_ex
noncomputable def qbBet_env : Env := []
theorem qbBet_env_ok : EnvOk Tryz.prog qbBet_env := ok_nil
theorem qbBet_ex : ∃ q : QP, PureOk Tryz.prog 73 anyArgs (shP [N1, N1] (.tup [N1, .flag]) q) := pure_ex qbBet_env_ok [] 400 _ _ _ (fun x => by kernel_rfl)
noncomputable def qbBet : QP := Classical.choose qbBet_ex
theorem qbBet_con : PureOk Tryz.prog 73 anyArgs (shP [N1, N1] (.tup [N1, .flag]) qbBet) := Classical.choose_spec qbBet_ex
noncomputable def qbSte_env : Env := [(74, .flow 112 (int3 Fx.part)), (75, .flow 112 (int2 sub)), (76, .flow 112 (int2 add)), (73, .pure anyArgs (shP [N1, N1] (.tup [N1, .flag]) qbBet)), (72, .flow 112 (shF [V, V] (V) qvAdd))]
theorem qbSte_env_ok : EnvOk Tryz.prog qbSte_env := EnvOk.f (EnvOk.f (EnvOk.f (EnvOk.p (EnvOk.f (ok_nil) (enter_of Tryz.func72 (by kernel_rfl) rfl) qvAdd_con) (enter_of Tryz.func73 (by kernel_rfl) rfl) qbBet_con) (enter_of Tryz.func76 (by kernel_rfl) rfl) add_con) (enter_of Tryz.func75 (by kernel_rfl) rfl) sub_con) (enter_of Tryz.func74 (by kernel_rfl) rfl) part_con
theorem qbSte_ex : ∃ q : QF, Meth 32 (shF [.agg (.flag :: Ns 7), V, N1] (.agg (.flag :: Ns 7)) q) := flow_ex qbSte_env_ok [] 400 _ _ _ _ (fun x b => by kernel_rfl)
noncomputable def qbSte : QF := Classical.choose qbSte_ex
theorem qbSte_con : Meth 32 (shF [.agg (.flag :: Ns 7), V, N1] (.agg (.flag :: Ns 7)) qbSte) := Classical.choose_spec qbSte_ex
noncomputable def qbDip_env : Env := [(127, .flow 112 (int2 mul))]
theorem qbDip_env_ok : EnvOk Tryz.prog qbDip_env := EnvOk.f (ok_nil) (enter_of Tryz.func127 (by kernel_rfl) rfl) mul_con
theorem qbDip_ex : ∃ q : QF, Meth 89 (shF [.agg (.flag :: Ns 7)] (V) q) := flow_ex qbDip_env_ok [] 400 _ _ _ _ (fun x b => by kernel_rfl)
noncomputable def qbDip : QF := Classical.choose qbDip_ex
theorem qbDip_con : Meth 89 (shF [.agg (.flag :: Ns 7)] (V) qbDip) := Classical.choose_spec qbDip_ex
end Go.Proofs.YtdojnnlhaiennaaGreat.Qx

/- Roots of matrices: a contract of a known shape. Conditions: none. -/
namespace Go.Proofs.YtdojnnlhaiennaaGreat.Qx
open Go Go.Proofs.YtdojnnlhaiennaaGreat.Ae Go.Proofs.YtdojnnlhaiennaaGreat.Fx Go.Proofs.YtdojnnlhaiennaaGreat.Lx
noncomputable def lessEnv : Env := [(127, .flow 112 (int2 mul)), (75, .flow 112 (int2 sub))]
theorem lessEnv_ok : EnvOk Tryz.prog lessEnv := EnvOk.f (EnvOk.f (ok_nil) (enter_of Tryz.func75 (by kernel_rfl) rfl) sub_con) (enter_of Tryz.func127 (by kernel_rfl) rfl) mul_con
noncomputable def sumEnv : Env := [(127, .flow 112 (int2 mul)), (76, .flow 112 (int2 add))]
theorem sumEnv_ok : EnvOk Tryz.prog sumEnv := EnvOk.f (EnvOk.f (ok_nil) (enter_of Tryz.func76 (by kernel_rfl) rfl) add_con) (enter_of Tryz.func127 (by kernel_rfl) rfl) mul_con
noncomputable def qmRoo_env : Env := [(126, .flow 112 (int1 sqrt)), (125, .flow 112 (int2 div)), (76, .flow 112 (int2 add)), (194, .see (seeF Tryz.prog lessEnv [] 300 194)), (193, .text), (123, .text)]
theorem qmRoo_env_ok : EnvOk Tryz.prog qmRoo_env := EnvOk.f (EnvOk.f (EnvOk.f (EnvOk.cons (s := .see _) ⟨(enter_of Tryz.func194 (by kernel_rfl) rfl), see_of lessEnv_ok 300 _⟩ (EnvOk.t (EnvOk.t (ok_nil) (enter_of Tryz.func123 (by kernel_rfl) rfl)) (enter_of Tryz.func193 (by kernel_rfl) rfl))) (enter_of Tryz.func76 (by kernel_rfl) rfl) add_con) (enter_of Tryz.func125 (by kernel_rfl) rfl) div_meth) (enter_of Tryz.func126 (by kernel_rfl) rfl) sqrt_con
theorem qmRoo_ex : ∃ q : QF, Meth 153 (shF [M36, six] (M36) q) := flow_ex qmRoo_env_ok [] 800 _ _ _ _ (fun x b => by kernel_rfl)
noncomputable def qmRoo : QF := Classical.choose qmRoo_ex
theorem qmRoo_con : Meth 153 (shF [M36, six] (M36) qmRoo) := Classical.choose_spec qmRoo_ex
end Go.Proofs.YtdojnnlhaiennaaGreat.Qx

/- Equations of matrices: contracts of a known shape. Conditions: none. -/
namespace Go.Proofs.YtdojnnlhaiennaaGreat.Qx
open Go Go.Proofs.YtdojnnlhaiennaaGreat.Ae Go.Proofs.YtdojnnlhaiennaaGreat.Fx Go.Proofs.YtdojnnlhaiennaaGreat.Lx
noncomputable def qmSol_env : Env := [(125, .flow 112 (int2 div)), (127, .flow 112 (int2 mul)), (75, .flow 112 (int2 sub)), (76, .flow 112 (int2 add)), (194, .see (seeF Tryz.prog lessEnv [] 300 194)), (193, .text), (123, .text)]
theorem qmSol_env_ok : EnvOk Tryz.prog qmSol_env := EnvOk.f (EnvOk.f (EnvOk.f (EnvOk.f (EnvOk.cons (s := .see _) ⟨(enter_of Tryz.func194 (by kernel_rfl) rfl), see_of lessEnv_ok 300 _⟩ (EnvOk.t (EnvOk.t (ok_nil) (enter_of Tryz.func123 (by kernel_rfl) rfl)) (enter_of Tryz.func193 (by kernel_rfl) rfl))) (enter_of Tryz.func76 (by kernel_rfl) rfl) add_con) (enter_of Tryz.func75 (by kernel_rfl) rfl) sub_con) (enter_of Tryz.func127 (by kernel_rfl) rfl) mul_con) (enter_of Tryz.func125 (by kernel_rfl) rfl) div_meth
theorem qmSol_ex : ∃ q : QF, Meth 154 (shF [M36, R6, six] (R6) q) := flow_ex qmSol_env_ok [] 800 _ _ _ _ (fun x b => by kernel_rfl)
noncomputable def qmSol : QF := Classical.choose qmSol_ex
theorem qmSol_con : Meth 154 (shF [M36, R6, six] (R6) qmSol) := Classical.choose_spec qmSol_ex
noncomputable def qmApp_env : Env := [(195, .see (seeF Tryz.prog sumEnv [] 300 195)), (193, .text), (123, .text)]
theorem qmApp_env_ok : EnvOk Tryz.prog qmApp_env := EnvOk.cons (s := .see _) ⟨(enter_of Tryz.func195 (by kernel_rfl) rfl), see_of sumEnv_ok 300 _⟩ (EnvOk.t (EnvOk.t (ok_nil) (enter_of Tryz.func123 (by kernel_rfl) rfl)) (enter_of Tryz.func193 (by kernel_rfl) rfl))
theorem qmApp_ex : ∃ q : QF, Meth 155 (shF [M36, R6, six] (R6) q) := flow_ex qmApp_env_ok [] 800 _ _ _ _ (fun x b => by kernel_rfl)
noncomputable def qmApp : QF := Classical.choose qmApp_ex
theorem qmApp_con : Meth 155 (shF [M36, R6, six] (R6) qmApp) := Classical.choose_spec qmApp_ex
end Go.Proofs.YtdojnnlhaiennaaGreat.Qx

/- The filter's parts: contracts of a known shape. Conditions: none. -/
namespace Go.Proofs.YtdojnnlhaiennaaGreat.Qx
open Go Go.Proofs.YtdojnnlhaiennaaGreat.Ae Go.Proofs.YtdojnnlhaiennaaGreat.Fx Go.Proofs.YtdojnnlhaiennaaGreat.Lx
noncomputable def qfSta_env : Env := []
theorem qfSta_env_ok : EnvOk Tryz.prog qfSta_env := ok_nil
theorem qfSta_ex : ∃ q : QP, PureOk Tryz.prog 87 anyArgs (shP [Qs] (G43) q) := pure_ex qfSta_env_ok [] 400 _ _ _ (fun x => by kernel_rfl)
noncomputable def qfSta : QP := Classical.choose qfSta_ex
theorem qfSta_con : PureOk Tryz.prog 87 anyArgs (shP [Qs] (G43) qfSta) := Classical.choose_spec qfSta_ex
noncomputable def qfSpr_env : Env := [(76, .flow 112 (int2 add))]
theorem qfSpr_env_ok : EnvOk Tryz.prog qfSpr_env := EnvOk.f (ok_nil) (enter_of Tryz.func76 (by kernel_rfl) rfl) add_con
theorem qfSpr_ex : ∃ q : QF, Meth 85 (shF [G43] (N1) q) := flow_ex qfSpr_env_ok [] 400 _ _ _ _ (fun x b => by kernel_rfl)
noncomputable def qfSpr : QF := Classical.choose qfSpr_ex
theorem qfSpr_con : Meth 85 (shF [G43] (N1) qfSpr) := Classical.choose_spec qfSpr_ex
noncomputable def qfPoi_env : Env := [(127, .flow 112 (int2 mul)), (126, .flow 112 (int1 sqrt)), (153, .flow 112 (shF [M36, six] (M36) qmRoo))]
theorem qfPoi_env_ok : EnvOk Tryz.prog qfPoi_env := EnvOk.f (EnvOk.f (EnvOk.f (ok_nil) (enter_of Tryz.func153 (by kernel_rfl) rfl) qmRoo_con) (enter_of Tryz.func126 (by kernel_rfl) rfl) sqrt_con) (enter_of Tryz.func127 (by kernel_rfl) rfl) mul_con
theorem qfPoi_ex : ∃ q : QF, Meth 140 (shF [G43] (X78) q) := flow_ex qfPoi_env_ok [] 400 _ _ _ _ (fun x b => by kernel_rfl)
noncomputable def qfPoi : QF := Classical.choose qfPoi_ex
theorem qfPoi_con : Meth 140 (shF [G43] (X78) qfPoi) := Classical.choose_spec qfPoi_ex
noncomputable def qfHal_env : Env := []
theorem qfHal_env_ok : EnvOk Tryz.prog qfHal_env := ok_nil
theorem qfHal_ex : ∃ q : QP, PureOk Tryz.prog 141 anyArgs (shP [R6] (.tup [V, V]) q) := pure_ex qfHal_env_ok [] 400 _ _ _ (fun x => by kernel_rfl)
noncomputable def qfHal : QP := Classical.choose qfHal_ex
theorem qfHal_con : PureOk Tryz.prog 141 anyArgs (shP [R6] (.tup [V, V]) qfHal) := Classical.choose_spec qfHal_ex
noncomputable def qfJoi_env : Env := []
theorem qfJoi_env_ok : EnvOk Tryz.prog qfJoi_env := ok_nil
theorem qfJoi_ex : ∃ q : QP, PureOk Tryz.prog 144 anyArgs (shP [V, V] (R6) q) := pure_ex qfJoi_env_ok [] 400 _ _ _ (fun x => by kernel_rfl)
noncomputable def qfJoi : QP := Classical.choose qfJoi_ex
theorem qfJoi_con : PureOk Tryz.prog 144 anyArgs (shP [V, V] (R6) qfJoi) := Classical.choose_spec qfJoi_ex
noncomputable def qfTur_env : Env := [(146, .flow 112 (shF [Qs, Qs] (Qs) qqMul)), (186, .flow 112 (shF [V] (Qs) qqFro))]
theorem qfTur_env_ok : EnvOk Tryz.prog qfTur_env := EnvOk.f (EnvOk.f (ok_nil) (enter_of Tryz.func186 (by kernel_rfl) rfl) qqFro_con) (enter_of Tryz.func146 (by kernel_rfl) rfl) qqMul_con
theorem qfTur_ex : ∃ q : QF, Meth 142 (shF [V, Qs] (Qs) q) := flow_ex qfTur_env_ok [] 400 _ _ _ _ (fun x b => by kernel_rfl)
noncomputable def qfTur : QF := Classical.choose qfTur_ex
theorem qfTur_con : Meth 142 (shF [V, Qs] (Qs) qfTur) := Classical.choose_spec qfTur_ex
noncomputable def qfSet_env : Env := [(72, .flow 112 (shF [V, V] (V) qvAdd)), (142, .flow 112 (shF [V, Qs] (Qs) qfTur)), (143, .flow 112 (shF [Qs] (Qs) qqUni)), (141, .pure anyArgs (shP [R6] (.tup [V, V]) qfHal))]
theorem qfSet_env_ok : EnvOk Tryz.prog qfSet_env := EnvOk.f (EnvOk.f (EnvOk.f (EnvOk.p (ok_nil) (enter_of Tryz.func141 (by kernel_rfl) rfl) qfHal_con) (enter_of Tryz.func143 (by kernel_rfl) rfl) qqUni_con) (enter_of Tryz.func142 (by kernel_rfl) rfl) qfTur_con) (enter_of Tryz.func72 (by kernel_rfl) rfl) qvAdd_con
theorem qfSet_ex : ∃ q : QF, Meth 151 (shF [Qs, V, R6, M36] (.tup [G43, .flag]) q) := flow_ex qfSet_env_ok [] 400 _ _ _ _ (fun x b => by kernel_rfl)
noncomputable def qfSet : QF := Classical.choose qfSet_ex
theorem qfSet_con : Meth 151 (shF [Qs, V, R6, M36] (.tup [G43, .flag]) qfSet) := Classical.choose_spec qfSet_ex
end Go.Proofs.YtdojnnlhaiennaaGreat.Qx
