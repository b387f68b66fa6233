/- The laws of layer 1, as the interpreter finds them. Conditions: none. -/
import Derived.Test.YtkghoaggicnmoaaLx1
namespace Go.Proofs.Ytkghoaggicnmoaa.Lx
open Go Go.Proofs.Ytkghoaggicnmoaa.Ae Go.Proofs.Ytkghoaggicnmoaa.Fx Go.Proofs.Ytkghoaggicnmoaa.Row

section
variable (mu f2 g2 h2 k2 : Int → Int → Bool → Int × Bool) (f1 g1 : Int → Bool → Int × Bool) (f3 g3 : Int → Int → Int → Bool → Int × Bool)
def awakeRaw (k : Option Bool) : Option Bool := bif !(bif (mu 1649267441664 1649267441664 false).1 == 2473901162496 then !(mu 1649267441664 1649267441664 false).2 else false) then some false else k
def sameRaw (p q : Int × Bool) : Option Bool := bif p.1 == q.1 then some (p.2 == q.2) else some false
def envW : Env := [(19, .text), (20, .text), (21, m2 25 mu)]
theorem products_raw (a b : Int) (bad : Bool) : acall Try.prog (envW mu ++ [(22, m2 27 g2)]) 60 3 [.int .i64 a, .int .i64 b, .bool bad] [] ansK =
    awakeRaw mu (sameRaw (mu a b bad) (g2 a b bad)) := by kernel_rfl
theorem quot_raw (a b : Int) (bad : Bool) : acall Try.prog (envW mu ++ [(23, m2 25 f2), (24, m2 27 g2)]) 60 4 [.int .i64 a, .int .i64 b, .bool bad] [] ansK =
    awakeRaw mu (sameRaw (f2 a b bad) (g2 a b bad)) := by kernel_rfl
theorem parts_raw (a b c : Int) : acall Try.prog (envW mu ++ [(25, m3 25 f3), (26, m3 27 g3)]) 60 5 [.int .i64 a, .int .i64 b, .int .i64 c] [] ansK =
    awakeRaw mu (sameRaw (f3 a b c false) (g3 a b c false)) := by kernel_rfl
theorem left_raw (a b : Int) (bad : Bool) : acall Try.prog (envW mu ++ [(27, m2 25 f2), (28, m2 27 g2)]) 60 7 [.int .i64 a, .int .i64 b, .bool bad] [] ansK =
    awakeRaw mu (sameRaw (f2 a b bad) (g2 a b bad)) := by kernel_rfl
theorem roots_raw (a : Int) (bad : Bool) : acall Try.prog (envW mu ++ [(33, m1 25 f1), (34, m1 27 g1)]) 60 9 [.int .i64 a, .bool bad] [] ansK =
    awakeRaw mu (sameRaw (f1 a bad) (g1 a bad)) := by kernel_rfl
theorem norms_raw (a b c : Int) : acall Try.prog (envW mu ++ [(35, m3 25 f3), (36, m3 27 g3)]) 60 10 [.int .i64 a, .int .i64 b, .int .i64 c] [] ansK =
    awakeRaw mu (sameRaw (f3 a b c false) (g3 a b c false)) := by kernel_rfl
theorem sums_raw (a b : Int) (bad : Bool) : acall Try.prog (envW mu ++ [(29, m2 25 f2), (30, m2 27 g2), (31, m2 25 h2), (32, m2 27 k2)]) 60 8 [.int .i64 a, .int .i64 b, .bool bad] [] ansK =
    awakeRaw mu (bif (f2 a b bad).1 == (g2 a b bad).1 then bif (f2 a b bad).2 == (g2 a b bad).2 then sameRaw (h2 a b bad) (k2 a b bad) else some false else some false) := by kernel_rfl
end
end Go.Proofs.Ytkghoaggicnmoaa.Lx
