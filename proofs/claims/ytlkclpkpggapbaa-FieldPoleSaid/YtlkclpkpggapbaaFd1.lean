/- Ticks as days, and the numbers of the field's model, as the interpreter finds them. Conditions: none. -/
import Derived.Test.YtlkclpkpggapbaaVe0
namespace Go.Proofs.Ytlkclpkpggapbaa.Fd
open Go Go.Proofs.Ytlkclpkpggapbaa.Ae Go.Proofs.Ytlkclpkpggapbaa.Fx Go.Proofs.Ytlkclpkpggapbaa.Lx Go.Proofs.Ytlkclpkpggapbaa.Tx Go.Proofs.Ytlkclpkpggapbaa.Te Go.Proofs.Ytlkclpkpggapbaa.Rx Go.Proofs.Ytlkclpkpggapbaa.Row Go.Proofs.Ytlkclpkpggapbaa.Ve

def daysP (t : Int) (bad : Bool) : Int × Bool := Fx.part 1099511627776 t 86400000 (bif !(ckT t) then true else bad)
section
variable (ad su mu di mo : Op2) (pa : Op3) (da : Op1)
def daysG (t : Int) (bad : Bool) : Option (AV × Bool) :=
  bif !(ckT t) then some (I (pa 1099511627776 t 86400000 true).1, (pa 1099511627776 t 86400000 true).2) else some (I (pa 1099511627776 t 86400000 bad).1, (pa 1099511627776 t 86400000 bad).2)
def rckT (t : Int) : Bool := an (decide (t ≥ 0)) (decide (t ≤ 157766400000))
theorem days_raw (u : Int) (bad : Bool) : acall Try.prog [(31, .text), (18, .text), (19, m3 25 pa)] 60 16 [.ptr 0 0, I u] [.cells [.bool bad] 25] (flowK 25) = daysG pa u bad := by kernel_rfl
theorem rdays_raw (u : Int) (bad : Bool) : acall Try.prog [(48, .text), (24, .text), (26, m3 27 pa)] 60 23 [.ptr 0 0, I u] [.cells [.bool bad] 27] (flowK 27) = daysG pa u bad := by kernel_rfl
/-- The model's rows: degree, order, g, h. -/
abbrev Tab4 := List (Int × Int × Int × Int)
def tabA : Tab4 := [(1, 0, -293500, 0), (1, 1, -14103, 45455), (2, 0, -25562, 0), (2, 1, 29509, -31336), (2, 2, 16487, -8142), (3, 0, 13609, 0), (3, 1, -24042, -569), (3, 2, 12438, 2376), (3, 3, 4534, -5496), (4, 0, 8947, 0), (4, 1, 7996, 2786), (4, 2, 558, -1340), (4, 3, -2811, 2120), (4, 4, 120, -3754), (5, 0, -2329, 0), (5, 1, 3690, 453), (5, 2, 1872, 2200), (5, 3, -1387, -1229), (5, 4, -1419, 429), (5, 5, 209, 1062), (6, 0, 643, 0), (6, 1, 638, -184), (6, 2, 767, 168), (6, 3, -1157, 489), (6, 4, -409, -598), (6, 5, 149, 109), (6, 6, -608, 728)]
def tabB : Tab4 := [(1, 0, 126, 0), (1, 1, 100, -215), (2, 0, -112, 0), (2, 1, -53, -273), (2, 2, -83, -111)]
def has : Tab4 → Int → Int → Bool
  | [], _, _ => false
  | (a, b, _, _) :: l, n, m => bif n == a && m == b then true else has l n m
def pickG : Tab4 → Int → Int → Int
  | [], _, _ => 0
  | (a, b, g, _) :: l, n, m => bif n == a && m == b then g else pickG l n m
def pickH : Tab4 → Int → Int → Int
  | [], _, _ => 0
  | (a, b, _, h) :: l, n, m => bif n == a && m == b then h else pickH l n m
def num0 (bad : Bool) : Option (AV × Bool) := some (.tup [I 0, I 0], bad)
def numE (g h g2 h2 : Int) (old : Bool) (d : Int × Bool) : Option (AV × Bool) :=
  let p := pa 1099511627776 g 10000 d.2
  let q := pa 1099511627776 h 10000 p.2
  bif old then
    let y := di d.1 401596622045184 q.2
    let p1 := pa 1099511627776 g2 10000 y.2
    let p2 := mu y.1 p1.1 p1.2
    let p3 := ad p.1 p2.1 p2.2
    let q1 := pa 1099511627776 h2 10000 p3.2
    let q2 := mu y.1 q1.1 q1.2
    let q3 := ad q.1 q2.1 q2.2
    some (.tup [I p3.1, I q3.1], q3.2)
  else some (.tup [I p.1, I q.1], q.2)
def numRaw (n m t : Int) (bad : Bool) : Option (AV × Bool) :=
  let d := da t bad
  bif !(has tabA n m) then num0 true else
  bif d.2 then num0 d.2 else numE ad mu di pa (pickG tabA n m) (pickH tabA n m) (pickG tabB n m) (pickH tabB n m) (has tabB n m) d
def envM : Env := [(16, m1 25 da), (21, m2 25 ad), (22, m2 25 mu), (20, m2 25 di), (19, m3 25 pa), (18, .text), (17, .text)]
theorem number_raw (n m t : Int) (bad : Bool) : acall Try.prog (envM ad mu di pa da) 1000 9 [.ptr 0 0, I n, I m, I t] [.cells [.bool bad] 25] (flowK 25) = numRaw ad mu di pa da n m t bad := by kernel_rfl
/-! ### The reference's -/
def swRaw : Tab4 → Int → Option AV
  | [], _ => some (.tup [I 0, I 0])
  | (a, b, g, h) :: l, k => bif k == 10 * a + b then some (.tup [I g, I h]) else swRaw l k
theorem rtable_raw (n m : Int) : acall Try.prog [] 200 25 [I n, I m] [] pK = swRaw tabA (wr .i64 (wr .i64 (n * 10) + m)) := by kernel_rfl
theorem ryearly_raw (n m : Int) : acall Try.prog [] 200 28 [I n, I m] [] pK = swRaw tabB (wr .i64 (wr .i64 (n * 10) + m)) := by kernel_rfl
abbrev IP := Int → Int → Int × Int
def ipF (f : IP) : List AV → Option AV
  | [.int .i64 a, .int .i64 b] => some (.tup [I (f a b).1, I (f a b).2])
  | _ => none
variable (ta ye : IP)
def rnumRaw (n m t : Int) (bad : Bool) : Option (AV × Bool) :=
  let d := da t bad
  bif (bif (bif (bif decide (n < 1) then true else decide (n > 6)) then true else decide (m < 0)) then true else decide (m > n)) then num0 true else
  bif d.2 then num0 d.2 else numE ad mu di pa (ta n m).1 (ta n m).2 (ye n m).1 (ye n m).2 (decide (n ≤ 2)) d
def renvM : Env := [(23, m1 27 da), (29, m2 27 ad), (30, m2 27 mu), (27, m2 27 di), (26, m3 27 pa), (24, .text), (25, .pure anyArgs (ipF ta)), (28, .pure anyArgs (ipF ye))]
theorem rnumber_raw (n m t : Int) (bad : Bool) : acall Try.prog (renvM ad mu di pa da ta ye) 200 10 [.ptr 0 0, I n, I m, I t] [.cells [.bool bad] 27] (flowK 27) = rnumRaw ad mu di pa da ta ye n m t bad := by kernel_rfl
end
end Go.Proofs.Ytlkclpkpggapbaa.Fd
