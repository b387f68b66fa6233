/- Orders, written and read, as the interpreter finds them. Conditions: none. -/
import Derived.Test.YtkdlliedpjnobaaOr1
import Derived.Test.YtkdlliedpjnobaaTe5
namespace Go.Proofs.Ytkdlliedpjnobaa.Orb
open Go Go.Proofs.Ytkdlliedpjnobaa.Ae Go.Proofs.Ytkdlliedpjnobaa.Fx Go.Proofs.Ytkdlliedpjnobaa.Lx Go.Proofs.Ytkdlliedpjnobaa.Tx Go.Proofs.Ytkdlliedpjnobaa.Te Go.Proofs.Ytkdlliedpjnobaa.Rx Go.Proofs.Ytkdlliedpjnobaa.Row

structure Ord where
  (q c : Int)
  el : El
def Ord.cells (o : Ord) : List AV := [I o.q, I o.c, I o.el.a, I o.el.e, I o.el.i, I o.el.node, I o.el.peri, I o.el.m, I o.el.t]
def El.zero : El := ⟨0, 0, 0, 0, 0, 0, 0⟩
def elF (f : El → Bool) : List AV → Option AV
  | [.agg [.int .i64 a, .int .i64 e, .int .i64 i, .int .i64 n, .int .i64 p, .int .i64 m, .int .i64 t]] => some (.bool (f ⟨a, e, i, n, p, m, t⟩))
  | _ => none
structure RO where
  o : Ord
  e : Int
def RO.av (x : RO) : AV := .tup [.agg x.o.cells, I x.e]
def ro (q c : Int) (el : El) (e : Int) : Option AV := some (RO.av ⟨⟨q, c, el⟩, e⟩)
section
variable (rt : El → Bool)
def envOR : Env := [(42, .text), (44, .text), (43, .pure anyArgs (elF rt))]
def is24 (c : Int) : Bool := bif c == 2 then c == 2 else c == 4
theorem oread0_raw (k : Int) (s : ByteArray) (g : Nat → Int) : acall Try.prog (envOR rt) 120 24 [.agg [I k, .strG s 0 g]] [] pK = bif oor (k != 16) true then ro 0 0 El.zero 1 else none := by kernel_rfl
theorem oread1_raw (k : Int) (s : ByteArray) (g : Nat → Int) : acall Try.prog (envOR rt) 120 24 [.agg [I k, .strG s 1 g]] [] pK = bif oor (k != 16) true then ro 0 0 El.zero 1 else none := by kernel_rfl
theorem oread2_raw (k : Int) (s : ByteArray) (g : Nat → Int) : acall Try.prog (envOR rt) 120 24 [.agg [I k, .strG s 2 g]] [] pK =
    let q := wr .i64 (g 0)
    let c := wr .i64 (g 1)
    bif oor (k != 16) false then ro 0 0 El.zero 1 else
    bif c == 1 then (bif c == 3 then none else ro q c El.zero 0) else
    bif is24 c then (bif c == 3 then none else ro q c El.zero 0) else
    bif c == 3 then ro q 0 El.zero 1 else ro q 0 El.zero 2 := by kernel_rfl
def num (g : Nat → Int) (i : Nat) : Int := tk (tk (tk (tk (tk (tk (tk (tk 0 (g (i + 0))) (g (i + 1))) (g (i + 2))) (g (i + 3))) (g (i + 4))) (g (i + 5))) (g (i + 6))) (g (i + 7))
def rdEl (g : Nat → Int) : El := ⟨num g 2, num g 10, num g 18, num g 26, num g 34, num g 42, num g 50⟩
theorem oread58_raw (k : Int) (s : ByteArray) (g : Nat → Int) : acall Try.prog (envOR rt) 120 24 [.agg [I k, .strG s 58 g]] [] pK =
    let q := wr .i64 (g 0)
    let c := wr .i64 (g 1)
    bif oor (k != 16) false then ro 0 0 El.zero 1 else
    bif c == 1 then ro q 0 El.zero 1 else
    bif is24 c then ro q 0 El.zero 1 else
    bif c == 3 then (bif c == 3 then (bif !(rt (rdEl g)) then ro q 0 El.zero 3 else ro q c (rdEl g) 0) else ro q c El.zero 0) else ro q 0 El.zero 2 := by kernel_rfl
theorem oreadF_raw (k : Int) (s : ByteArray) (g : Nat → Int) : acall Try.prog (envOR rt) 120 24 [.agg [I k, .strF s 2 g [2, 58]]] [] pK =
    let q := wr .i64 (g 0)
    let c := wr .i64 (g 1)
    bif oor (k != 16) false then ro 0 0 El.zero 1 else
    bif c == 1 then ro q 0 El.zero 1 else
    bif is24 c then ro q 0 El.zero 1 else
    bif c == 3 then ro q 0 El.zero 1 else ro q 0 El.zero 2 := by kernel_rfl

/-! ### Writing -/
def pb (n : Int) : List Int := [wr .u8 (n / p2 56), wr .u8 (n / p2 48), wr .u8 (n / p2 40), wr .u8 (n / p2 32), wr .u8 (n / p2 24), wr .u8 (n / p2 16), wr .u8 (n / p2 8), wr .u8 (n / p2 0)]
def oBytes (o : Ord) : List Int := [wr .u8 o.q, wr .u8 o.c] ++ pb o.el.a ++ pb o.el.e ++ pb o.el.i ++ pb o.el.node ++ pb o.el.peri ++ pb o.el.m ++ pb o.el.t
def wTail (o : Ord) : Option AV := bif o.c == 3 then (bif !(rt o.el) then some noFrame else some (.tup [.agg [I 16, .str (strOf (oBytes o))], .bool true])) else some (.tup [.agg [I 16, .str (strOf [wr .u8 o.q, wr .u8 o.c])], .bool true])
theorem owrite_raw (o : Ord) : acall Try.prog (envOR rt) 150 22 [.agg o.cells] [] pK =
    bif decide (o.q < 0) then some noFrame else bif decide (o.q > 255) then some noFrame else
    bif o.c == 1 then wTail rt o else bif is24 o.c then wTail rt o else bif o.c == 3 then wTail rt o else some noFrame := by kernel_rfl
def rpb (n : Int) : List Int := [wr .u8 (wr .u64 n / p2 56), wr .u8 (wr .u64 n / p2 48), wr .u8 (wr .u64 n / p2 40), wr .u8 (wr .u64 n / p2 32), wr .u8 (wr .u64 n / p2 24), wr .u8 (wr .u64 n / p2 16), wr .u8 (wr .u64 n / p2 8), wr .u8 (wr .u64 n / p2 0)]
def roBytes (o : Ord) : List Int := [wr .u8 o.q, wr .u8 o.c] ++ rpb o.el.a ++ rpb o.el.e ++ rpb o.el.i ++ rpb o.el.node ++ rpb o.el.peri ++ rpb o.el.m ++ rpb o.el.t
def rwTail (o : Ord) : Option AV := bif o.c == 3 then (bif !(rt o.el) then some noFrame else some (.tup [.agg [I 16, .str (strOf (roBytes o))], .bool true])) else some (.tup [.agg [I 16, .str (strOf [wr .u8 o.q, wr .u8 o.c])], .bool true])
theorem rowrite_raw (o : Ord) : acall Try.prog [(45, .pure anyArgs (elF rt))] 150 23 [.agg o.cells] [] pK =
    bif oor (oor (oor (decide (o.q < 0)) (decide (o.q > 255))) (decide (o.c < 1))) (decide (o.c > 4)) then some noFrame else rwTail rt o := by kernel_rfl
end
end Go.Proofs.Ytkdlliedpjnobaa.Orb
