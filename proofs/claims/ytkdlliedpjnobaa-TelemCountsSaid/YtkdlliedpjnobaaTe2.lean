/- Frames of what is told, written and read, as the interpreter finds them. Conditions: none. -/
import Derived.Test.YtkdlliedpjnobaaTe1
namespace Go.Proofs.Ytkdlliedpjnobaa.Te
open Go Go.Proofs.Ytkdlliedpjnobaa.Ae Go.Proofs.Ytkdlliedpjnobaa.Fx Go.Proofs.Ytkdlliedpjnobaa.Lx Go.Proofs.Ytkdlliedpjnobaa.Tx

def noFrame : AV := .tup [.agg [I 0, .str ⟨#[]⟩], .bool false]
section
variable (rt : Tell → Bool)
def two (n : Int) : List Int := [wr .u8 (n / p2 8), wr .u8 n]
def wBytes (x : Tell) : List Int := [wr .u8 (x.t / p2 40), wr .u8 (x.t / p2 32), wr .u8 (x.t / p2 24), wr .u8 (x.t / p2 16), wr .u8 (x.t / p2 8), wr .u8 (x.t / p2 0),
  wr .u8 x.m, wr .u8 x.f, wr .u8 x.a, wr .u8 x.e, wr .u8 (x.r / p2 8), wr .u8 x.r] ++ two x.q0 ++ two x.q1 ++ two x.q2 ++ two x.q3 ++ two x.d0 ++ two x.d1 ++ two x.d2
def envR : Env := [(35, .text), (37, .pure anyArgs (rightF rt))]
theorem write_raw (x : Tell) : acall Try.prog (envR rt) 80 17 [.agg x.av] [] pK =
    bif !(rt x) then some noFrame else some (.tup [.agg [I 32, .str (strOf (wBytes x))], .bool true]) := by kernel_rfl

def rtwo (n : Int) : List Int :=
  let n' := bif decide (n < 0) then wr .i64 (n + 65536) else n
  [wr .u8 (wr .i64 (n'.tdiv 256)), wr .u8 (n'.tmod 256)]
def rwBytes (x : Tell) : List Int := [wr .u8 (x.t / p2 40), wr .u8 (x.t / p2 32), wr .u8 (x.t / p2 24), wr .u8 (x.t / p2 16), wr .u8 (x.t / p2 8), wr .u8 (x.t / p2 0),
  wr .u8 x.m, wr .u8 x.f, wr .u8 x.a, wr .u8 x.e] ++ rtwo x.r ++ rtwo x.q0 ++ rtwo x.q1 ++ rtwo x.q2 ++ rtwo x.q3 ++ rtwo x.d0 ++ rtwo x.d1 ++ rtwo x.d2
def renvR : Env := [(40, .text), (39, .pure anyArgs (rightF rt))]
theorem rwrite_raw (x : Tell) : acall Try.prog (renvR rt) 80 18 [.agg x.av] [] pK =
    bif !(rt x) then some noFrame else some (.tup [.agg [I 32, .str (strOf (rwBytes x))], .bool true]) := by kernel_rfl

/-! ### Reading -/
def noTell : AV := .tup [.agg Tell.zero.av, .bool false]
def tk (t b : Int) : Int := bor .i64 (wr .i64 (t * p2 8)) (wr .i64 b)
def cnt (a b : Int) : Int := wr .i64 (wr .i16 (bor .u16 (wr .u16 (wr .u16 a * p2 8)) (wr .u16 b)))
def rdTell (g : Nat → Int) : Tell :=
  ⟨tk (tk (tk (tk (tk (tk 0 (g 0)) (g 1)) (g 2)) (g 3)) (g 4)) (g 5), wr .i64 (g 6), wr .i64 (g 7), wr .i64 (g 8), wr .i64 (g 9), bor .i64 (wr .i64 (wr .i64 (g 10) * p2 8)) (wr .i64 (g 11)),
    cnt (g 12) (g 13), cnt (g 14) (g 15), cnt (g 16) (g 17), cnt (g 18) (g 19), cnt (g 20) (g 21), cnt (g 22) (g 23), cnt (g 24) (g 25)⟩
theorem read_raw (k : Int) (s : ByteArray) (g : Nat → Int) : acall Try.prog (envR rt) 80 19 [.agg [I k, .strG s 26 g]] [] pK =
    bif oor (k != 32) false then some noTell else bif !(rt (rdTell g)) then some noTell else some (.tup [.agg (rdTell g).av, .bool true]) := by kernel_rfl
theorem read_no (k : Int) (s : ByteArray) (g : Nat → Int) : acall Try.prog (envR rt) 80 19 [.agg [I k, .strF s 0 g [26]]] [] pK = bif oor (k != 32) true then some noTell else none := by kernel_rfl
end
end Go.Proofs.Ytkdlliedpjnobaa.Te
