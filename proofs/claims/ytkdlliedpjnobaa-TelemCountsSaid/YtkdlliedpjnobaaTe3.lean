/- The reference of package telem, as the interpreter finds it; the laws' shapes. Conditions: none. -/
import Derived.Test.YtkdlliedpjnobaaTe2
namespace Go.Proofs.Ytkdlliedpjnobaa.Te
open Go Go.Proofs.Ytkdlliedpjnobaa.Ae Go.Proofs.Ytkdlliedpjnobaa.Fx Go.Proofs.Ytkdlliedpjnobaa.Lx Go.Proofs.Ytkdlliedpjnobaa.Tx Go.Proofs.Ytkdlliedpjnobaa.Row

def inn (n a b : Int) : Bool := an (decide (n ≥ a)) (decide (n ≤ b))
def chain : List Bool → Bool → Option AV
  | [], k => some (.bool k)
  | b :: l, k => bif b then chain l k else some (.bool false)
def rck (t : Int) : Bool := an (decide (t ≥ 0)) (decide (t ≤ 157766400000))
theorem rright_raw (x : Tell) : acall Try.prog [(84, .text), (51, .text)] 80 39 [.agg x.av] [] pK =
    chain [rck x.t, inn x.m 0 3, inn x.f 0 15, inn x.a 0 255, inn x.e 0 255, inn x.r 0 65535, inn x.q0 (-32768) 32767, inn x.q1 (-32768) 32767, inn x.q2 (-32768) 32767, inn x.q3 (-32768) 32767, inn x.d0 (-32768) 32767, inn x.d1 (-32768) 32767] (inn x.d2 (-32768) 32767) := by kernel_rfl

theorem rcount_raw (s : ByteArray) (n : Nat) (g : Nat → Int) (i : Int) : acall Try.prog [] 40 41 [.strG s n g, I i] [] pK =
    bif decide (0 ≤ i) && decide (i < (n : Int)) then
      bif decide (0 ≤ wr .i64 (i + 1)) && decide (wr .i64 (i + 1) < (n : Int)) then
        let c := wr .i64 (wr .i64 (wr .i64 (g i.toNat) * 256) + wr .i64 (g (wr .i64 (i + 1)).toNat))
        bif decide (c ≥ 32768) then some (I (wr .i64 (c - 65536))) else some (I c)
      else none
    else none := by kernel_rfl
section
variable (rt : Tell → Bool) (cn : Int → Int → Int)
def cntC : List AV → Bool
  | [.strG _ n _, .int .i64 i] => decide (0 ≤ i) && decide (i + 1 < (n : Int)) && decide (n < 1000)
  | _ => false
def cntF (cn : Int → Int → Int) : List AV → Option AV
  | [.strG _ _ g, .int .i64 i] => some (I (cn (g i.toNat) (g (i + 1).toNat)))
  | _ => none
def renvD : Env := [(41, .pure cntC (cntF cn)), (39, .pure anyArgs (rightF rt))]
def rtk (t b : Int) : Int := wr .i64 (wr .i64 (t * 256) + wr .i64 b)
def rrdTell (g : Nat → Int) : Tell :=
  ⟨rtk (rtk (rtk (rtk (rtk (rtk 0 (g 0)) (g 1)) (g 2)) (g 3)) (g 4)) (g 5), wr .i64 (g 6), wr .i64 (g 7), wr .i64 (g 8), wr .i64 (g 9), wr .i64 (wr .i64 (wr .i64 (g 10) * 256) + wr .i64 (g 11)),
    cn (g 12) (g 13), cn (g 14) (g 15), cn (g 16) (g 17), cn (g 18) (g 19), cn (g 20) (g 21), cn (g 22) (g 23), cn (g 24) (g 25)⟩
theorem rread_raw (k : Int) (s : ByteArray) (g : Nat → Int) : acall Try.prog (renvD rt cn) 80 20 [.agg [I k, .strG s 26 g]] [] pK =
    bif oor (k != 32) false then some noTell else bif !(rt (rrdTell cn g)) then some noTell else some (.tup [.agg (rrdTell cn g).av, .bool true]) := by kernel_rfl
theorem rread_no (k : Int) (s : ByteArray) (g : Nat → Int) : acall Try.prog (renvD rt cn) 80 20 [.agg [I k, .strF s 0 g [26]]] [] pK = bif oor (k != 32) true then some noTell else none := by kernel_rfl
end

/-! ### The laws -/
def yesF : List AV → Option AV
  | [] => some (.bool true)
  | _ => none
/-- A frame, or none. -/
structure Fr where
  (k : Int)
  s : ByteArray
  ok : Bool
def Fr.av (x : Fr) : AV := .tup [.agg [I x.k, .str x.s], .bool x.ok]
structure Rd where
  t : Tell
  ok : Bool
def Rd.av (x : Rd) : AV := .tup [.agg x.t.av, .bool x.ok]
section
variable (wf : Tell → Fr) (rd : Int → ByteArray → Rd)
def writeF : List AV → Option AV
  | [.agg [.int .i64 t, .int .i64 m, .int .i64 f, .int .i64 a, .int .i64 e, .int .i64 r, .int .i64 q0, .int .i64 q1, .int .i64 q2, .int .i64 q3, .int .i64 d0, .int .i64 d1, .int .i64 d2]] => some (wf ⟨t, m, f, a, e, r, q0, q1, q2, q3, d0, d1, d2⟩).av
  | _ => none
def readF : List AV → Option AV
  | [.agg [.int .i64 k, .str s]] => some (rd k s).av
  | _ => none
def frEq (x y : Fr) : Bool := an (x.k == y.k) (an (x.s == y.s) true)
end
section
variable (wf rwf : Tell → Fr) (rd rrd : Int → ByteArray → Rd)
def tlEq (x y : Tell) : Bool := (x.t == y.t) && ((x.m == y.m) && ((x.f == y.f) && ((x.a == y.a) && ((x.e == y.e) && ((x.r == y.r) &&
  (((x.q0 == y.q0) && ((x.q1 == y.q1) && ((x.q2 == y.q2) && ((x.q3 == y.q3) && true)))) && (((x.d0 == y.d0) && ((x.d1 == y.d1) && ((x.d2 == y.d2) && true))) && true)))))))
def fEq (k k' : Int) (s s' : ByteArray) : Bool := (k == k') && ((s == s') && true)
def envT : Env := [(14, .pure anyArgs yesF), (17, .pure anyArgs (writeF wf)), (18, .pure anyArgs (writeF rwf)), (19, .pure anyArgs (readF rd)), (20, .pure anyArgs (readF rrd))]
/-- The law of writing. -/
theorem twrites_raw (t : Tell) : acall Try.prog (envT wf rwf rd rrd) 60 4 [.agg t.av] [] ansK =
    let x := wf t
    let y := rwf t
    bif oor (!(fEq x.k y.k x.s y.s)) (x.ok != y.ok) then some false else
    let r := rd x.k x.s
    some (an (r.ok == x.ok) (oor (!x.ok) (tlEq r.t t))) := by kernel_rfl
theorem treads_raw (k : Int) (s : ByteArray) : acall Try.prog (envT wf rwf rd rrd) 60 5 [.agg [I k, .str s]] [] ansK =
    let x := rd k s
    let y := rrd k s
    bif oor (!(tlEq x.t y.t)) (x.ok != y.ok) then some false else
    bif !x.ok then some true else
    let z := wf x.t
    some (an z.ok (fEq k z.k s z.s)) := by kernel_rfl
end
end Go.Proofs.Ytkdlliedpjnobaa.Te
