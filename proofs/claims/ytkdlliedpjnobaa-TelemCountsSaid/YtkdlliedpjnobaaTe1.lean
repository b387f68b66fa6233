/- The functions of package telem and of its reference, as the interpreter finds them. Conditions: none. -/
import Derived.Test.YtkdlliedpjnobaaTx2
namespace Go.Proofs.Ytkdlliedpjnobaa.Te
open Go Go.Proofs.Ytkdlliedpjnobaa.Ae Go.Proofs.Ytkdlliedpjnobaa.Fx Go.Proofs.Ytkdlliedpjnobaa.Lx Go.Proofs.Ytkdlliedpjnobaa.Tx

abbrev I (n : Int) : AV := .int .i64 n
def pK (v : AV) (_ : List AB) : Option AV := bif v.noPtr then some v else none
def an (a b : Bool) : Bool := bif a then b else false
def oor (a b : Bool) : Bool := bif a then true else b

/-- What is told: tick, mode, faults, ack, err, rejects, attitude, dipole. -/
structure Tell where
  (t m f a e r q0 q1 q2 q3 d0 d1 d2 : Int)
def Tell.av (x : Tell) : List AV := [I x.t, I x.m, I x.f, I x.a, I x.e, I x.r, I x.q0, I x.q1, I x.q2, I x.q3, I x.d0, I x.d1, I x.d2]
def Tell.zero : Tell := ⟨0, 0, 0, 0, 0, 0, 0, 0, 0, 0, 0, 0, 0⟩

def ckT (t : Int) : Bool := an (decide (0 ≤ t)) (decide (t ≤ 157766400000))
def no16 (n : Int) : Bool := n != wr .i64 (wr .i16 n)
def no8 (n : Int) : Bool := n != wr .i64 (wr .u8 n)
def chk : List Bool → Option AV → Option AV
  | [], k => k
  | b :: l, k => bif b then some (.bool false) else chk l k
def lastB (x : Tell) : Bool := an (an (an (an (an (ckT x.t) (decide (x.m ≥ 0))) (decide (x.m ≤ 3))) (decide (x.f ≥ 0))) (decide (x.f ≤ 15))) (x.r == wr .i64 (wr .u16 x.r))
theorem right_raw (x : Tell) : acall Try.prog [(35, .text), (47, .text)] 60 37 [.agg x.av] [] pK =
    chk [no16 x.q0, no16 x.q1, no16 x.q2, no16 x.q3, no16 x.d0, no16 x.d1, no16 x.d2, no8 x.a, no8 x.e] (some (.bool (lastB x))) := by kernel_rfl

section
variable (pa : Op3) (rt : Tell → Bool)
def rightF (rt : Tell → Bool) : List AV → Option AV
  | [.agg [.int .i64 t, .int .i64 m, .int .i64 f, .int .i64 a, .int .i64 e, .int .i64 r, .int .i64 q0, .int .i64 q1, .int .i64 q2, .int .i64 q3, .int .i64 d0, .int .i64 d1, .int .i64 d2]] => some (.bool (rt ⟨t, m, f, a, e, r, q0, q1, q2, q3, d0, d1, d2⟩))
  | _ => none
structure Seven where
  (p0 p1 p2 p3 e0 e1 e2 : Int)
  bad : Bool
def seven (q0 q1 q2 q3 m0 m1 m2 : Int) : Seven :=
  let p0 := pa q0 1 67108864 false
  let p1 := pa q1 1 67108864 p0.2
  let p2 := pa q2 1 67108864 p1.2
  let p3 := pa q3 1 67108864 p2.2
  let e0 := pa m0 10000 1099511627776 p3.2
  let e1 := pa m1 10000 1099511627776 e0.2
  let e2 := pa m2 10000 1099511627776 e1.2
  ⟨p0.1, p1.1, p2.1, p3.1, e0.1, e1.1, e2.1, e2.2⟩
def Seven.tup (s : Seven) : AV := .tup [.agg [I s.p0, I s.p1, I s.p2, I s.p3], .agg [I s.e0, I s.e1, I s.e2]]
def Seven.none : AV := .tup [.agg [I 0, I 0, I 0, I 0], .agg [I 0, I 0, I 0]]
def countsRaw (s : Seven) : Option AV :=
  bif s.bad then some Seven.none else bif !(rt ⟨0, 0, 0, 0, 0, 0, s.p0, s.p1, s.p2, s.p3, s.e0, s.e1, s.e2⟩) then some Seven.none else some s.tup
def envC : Env := [(35, .text), (37, .pure anyArgs (rightF rt)), (36, m3 62 pa)]
theorem counts_raw (q0 q1 q2 q3 m0 m1 m2 : Int) : acall Try.prog (envC pa rt) 60 15 [.agg [I q0, I q1, I q2, I q3], .agg [I m0, I m1, I m2]] [] pK = countsRaw rt (seven pa q0 q1 q2 q3 m0 m1 m2) := by kernel_rfl
def inR (ok : Bool) (n : Int) : Bool := an (an ok (decide (n ≥ -32768))) (decide (n ≤ 32767))
def rcountsRaw (s : Seven) : Option AV :=
  bif oor (!(inR (inR (inR (inR (inR (inR (inR true s.p0) s.p1) s.p2) s.p3) s.e0) s.e1) s.e2)) s.bad then some Seven.none else some s.tup
def renvC : Env := [(38, m3 64 pa)]
theorem rcounts_raw (q0 q1 q2 q3 m0 m1 m2 : Int) : acall Try.prog (renvC pa) 60 16 [.agg [I q0, I q1, I q2, I q3], .agg [I m0, I m1, I m2]] [] pK = rcountsRaw (seven pa q0 q1 q2 q3 m0 m1 m2) := by kernel_rfl
end
end Go.Proofs.Ytkdlliedpjnobaa.Te
