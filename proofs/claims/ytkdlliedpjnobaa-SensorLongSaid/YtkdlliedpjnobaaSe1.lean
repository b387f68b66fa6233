/- The functions of package sensor and of its reference, as the interpreter finds them. Conditions: none. -/
import Derived.Test.YtkdlliedpjnobaaSe0
namespace Go.Proofs.Ytkdlliedpjnobaa.Se
open Go Go.Proofs.Ytkdlliedpjnobaa.Ae Go.Proofs.Ytkdlliedpjnobaa.Fx Go.Proofs.Ytkdlliedpjnobaa.Lx Go.Proofs.Ytkdlliedpjnobaa.Tx Go.Proofs.Ytkdlliedpjnobaa.Ve Go.Proofs.Ytkdlliedpjnobaa.Te

/-- A reading: kind, tick, three numbers. -/
structure Rdg where
  k : Int
  t : Int
  v : V3
def Rdg.zero : Rdg := ⟨0, 0, V3.zero⟩
def Rdg.av (r : Rdg) : AV := .agg [I r.k, I r.t, I r.v.x, I r.v.y, I r.v.z]
def rdT (r : Rdg) (b : Bool) : Option AV := some (.tup [r.av, .bool b])
def none5 : Option AV := rdT Rdg.zero false

/-! ### Two bytes -/
def wdI (a b : Int) : Int := bor .u16 (wr .u16 (wr .u16 a * p2 (min (Int.toNat 8) IntKind.u16.bits))) (wr .u16 b)
def wdC : List AV → Bool
  | [.strG _ n _] => decide (1 < (n : Int))
  | _ => false
def wdF (wd : Int → Int → Int) : List AV → Option AV
  | [.strG _ _ g] => some (.int .u16 (wd (g 0) (g 1)))
  | _ => none
theorem word_raw (s : ByteArray) (n : Nat) (g : Nat → Int) : acall Try.prog [] 40 48 [.strG s n g] [] pK =
    bif decide (0 ≤ 0) && decide (0 < (n : Int)) then (bif decide (0 ≤ 1) && decide (1 < (n : Int)) then some (.int .u16 (wdI (g 0) (g 1))) else none) else none := by kernel_rfl
def cntI (a b : Int) : Int := wr .i64 (wr .i64 (wr .i64 a * 256) + wr .i64 b)
def sgI (a b : Int) : Int := bif decide (cntI a b ≥ 32768) then wr .i64 (cntI a b - 65536) else cntI a b
theorem count_raw (s : ByteArray) (n : Nat) (g : Nat → Int) (i : Int) : acall Try.prog [] 40 54 [.strG s n g, I i] [] pK =
    bif decide (0 ≤ i) && decide (i < (n : Int)) then
      bif decide (0 ≤ wr .i64 (i + 1)) && decide (wr .i64 (i + 1) < (n : Int)) then some (I (wr .i64 (wr .i64 (wr .i64 (g i.toNat) * 256) + wr .i64 (g (wr .i64 (i + 1)).toNat)))) else none
    else none := by kernel_rfl
theorem signed_raw (s : ByteArray) (n : Nat) (g : Nat → Int) (i : Int) : acall Try.prog [(54, .text)] 40 52 [.strG s n g, I i] [] pK =
    bif decide (0 ≤ i) && decide (i < (n : Int)) then
      bif decide (0 ≤ wr .i64 (i + 1)) && decide (wr .i64 (i + 1) < (n : Int)) then
        let c := wr .i64 (wr .i64 (wr .i64 (g i.toNat) * 256) + wr .i64 (g (wr .i64 (i + 1)).toNat))
        bif decide (c ≥ 32768) then some (I (wr .i64 (c - 65536))) else some (I c)
      else none
    else none := by kernel_rfl

/-! ### Reading -/
section
variable (pa nr : Op3) (un : V3 → Bool → V3 × Bool) (wd cn sg : Int → Int → Int)
def envSR : Env := [(46, .text), (48, .pure wdC (wdF wd)), (47, .text), (36, m3 62 pa), (49, .flow 62 (nrmF nr)), (50, .flow 62 (dirF un))]
def tkA (t b : Int) : Int := bor .i64 (wr .i64 (t * p2 (min (Int.toNat 8) IntKind.i64.bits))) (wr .i64 b)
def tick (g : Nat → Int) : Int := tkA (tkA (tkA (tkA (tkA (tkA 0 (g 0)) (g 1)) (g 2)) (g 3)) (g 4)) (g 5)
def okT (t : Int) : Bool := bif decide (0 ≤ t) then decide (t ≤ 157766400000) else false
def gy (ok : Bool) (n : Int) : Bool := bif (bif ok then decide (n ≤ 30000) else false) then decide (n ≥ -30000) else false
def shl25 (n : Int) : Int := wr .i64 (n * p2 (min (Int.toNat 25) IntKind.i64.bits))
theorem read1_raw (s : ByteArray) (g : Nat → Int) : acall Try.prog (envSR pa nr un wd) 200 26 [.agg [I 1, .strG s 12 g]] [] pK =
    let t := tick g
    let n0 := wr .i64 (wr .i16 (wd (g 6) (g 7)))
    let n1 := wr .i64 (wr .i16 (wd (g 8) (g 9)))
    let n2 := wr .i64 (wr .i16 (wd (g 10) (g 11)))
    bif !(gy (gy (gy (okT t) n0) n1) n2) then none5 else rdT ⟨1, t, ⟨shl25 n0, shl25 n1, shl25 n2⟩⟩ true := by kernel_rfl
theorem read3_raw (s : ByteArray) (g : Nat → Int) : acall Try.prog (envSR pa nr un wd) 200 26 [.agg [I 3, .strG s 12 g]] [] pK =
    let t := tick g
    let n0 := wr .i64 (wr .i16 (wd (g 6) (g 7)))
    let n1 := wr .i64 (wr .i16 (wd (g 8) (g 9)))
    let n2 := wr .i64 (wr .i16 (wd (g 10) (g 11)))
    let a := pa 1099511627776 n0 100 false
    let b := pa 1099511627776 n1 100 a.2
    let c := pa 1099511627776 n2 100 b.2
    let n := (nr a.1 b.1 c.1 c.2).1
    bif !(an (an (okT t) (decide (n ≥ 1099511627776))) (decide (n ≤ 131941395333120))) then none5 else rdT ⟨3, t, ⟨a.1, b.1, c.1⟩⟩ true := by kernel_rfl
def lt2 (lit : Bool) (a b : Int) : Bool := bif lit then true else decide ((if b > a then b else a) ≥ 2000)
def df (a b : Int) : Int := wr .i64 (wr .i64 (wr .i64 a - wr .i64 b) * p2 (min (Int.toNat 24) IntKind.i64.bits))
theorem read2_raw (s : ByteArray) (g : Nat → Int) : acall Try.prog (envSR pa nr un wd) 200 26 [.agg [I 2, .strG s 18 g]] [] pK =
    let t := tick g
    let a0 := wd (g 6) (g 7)
    let b0 := wd (g 8) (g 9)
    let a1 := wd (g 10) (g 11)
    let b1 := wd (g 12) (g 13)
    let a2 := wd (g 14) (g 15)
    let b2 := wd (g 16) (g 17)
    let u := un ⟨df a0 b0, df a1 b1, df a2 b2⟩ false
    bif !(an (an (okT t) (lt2 (lt2 (lt2 false a0 b0) a1 b1) a2 b2)) (!u.2)) then none5 else rdT ⟨2, t, u.1⟩ true := by kernel_rfl
theorem read1_no (s : ByteArray) (g : Nat → Int) : acall Try.prog (envSR pa nr un wd) 200 26 [.agg [I 1, .strF s 0 g [12]]] [] pK = none5 := by kernel_rfl
theorem read3_no (s : ByteArray) (g : Nat → Int) : acall Try.prog (envSR pa nr un wd) 200 26 [.agg [I 3, .strF s 0 g [12]]] [] pK = none5 := by kernel_rfl
theorem read2_no (s : ByteArray) (g : Nat → Int) : acall Try.prog (envSR pa nr un wd) 200 26 [.agg [I 2, .strF s 0 g [18]]] [] pK = none5 := by kernel_rfl
end
end Go.Proofs.Ytkdlliedpjnobaa.Se
