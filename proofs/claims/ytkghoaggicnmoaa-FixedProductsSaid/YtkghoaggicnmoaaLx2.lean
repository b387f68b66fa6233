/- The laws of layer 1, as the interpreter finds them. Conditions: none. -/
import Derived.Test.YtkghoaggicnmoaaLx1
namespace Go.Proofs.Ytkghoaggicnmoaa.Lx
open Go Go.Proofs.Ytkghoaggicnmoaa.Ae Go.Proofs.Ytkghoaggicnmoaa.Fx Go.Proofs.Ytkghoaggicnmoaa.Row

section
variable (mu f2 g2 : Int → Int → Bool → Int × Bool)
def awakeRaw (k : Option Bool) : Option Bool := bif !(bif (mu 1649267441664 1649267441664 false).1 == 2473901162496 then !(mu 1649267441664 1649267441664 false).2 else false) then some false else k
def sameRaw (p q : Int × Bool) : Option Bool := bif p.1 == q.1 then some (p.2 == q.2) else some false
def envW : Env := [(19, .text), (20, .text), (21, m2 25 mu)]
theorem products_raw (a b : Int) (bad : Bool) : acall Try.prog (envW mu ++ [(22, m2 27 g2)]) 60 3 [.int .i64 a, .int .i64 b, .bool bad] [] ansK =
    awakeRaw mu (sameRaw (mu a b bad) (g2 a b bad)) := by kernel_rfl
end
end Go.Proofs.Ytkghoaggicnmoaa.Lx
