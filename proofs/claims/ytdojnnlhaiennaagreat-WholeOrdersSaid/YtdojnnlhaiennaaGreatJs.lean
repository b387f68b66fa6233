/- What WholeOrders holds of a step: a contract. Conditions: none. -/
import Derived.Test.YtdojnnlhaiennaaGreatJr
import Derived.Test.YtdojnnlhaiennaaGreatJj
import Derived.SizedLaws
import Derived.Deep.SlicePairs
import Derived.Carry
namespace Go.Proofs.YtdojnnlhaiennaaGreat.Ae
open Go
theorem pure_atC {P : Program} {f : FuncId} {nt : Nat} {res : List ResultVar} (hb : hasBody P f nt res = true) {C : List AV → Bool} {F : List AV → Option AV}
    (h : ∀ args v, C args = true → F args = some v → v.noPtr = true ∧ AV.noPtrL args = true ∧ args.length ≤ nt ∧ ∀ w0 a, At [] w0 nt (mkT 0 args) [] a w0 → (bodyOf P f).wp P (Gives P w0 nt res v) a w0) : PureOk P f C F := by
  intro args v hC hv
  have : PureOk P f (fun _ => true) (fun l => if C l = true then F l else none) := pure_at hb fun args v hF => by
    by_cases hc : C args = true
    · simp only [if_pos hc] at hF
      exact h args v hc hF
    · simp only [if_neg hc] at hF; cases hF
  exact this args v rfl (by simp only [if_pos hC]; exact hv)
end Go.Proofs.YtdojnnlhaiennaaGreat.Ae
namespace Go.Proofs.YtdojnnlhaiennaaGreat.Tp
open Go Go.Proofs.YtdojnnlhaiennaaGreat.Ae Go.Proofs.YtdojnnlhaiennaaGreat.Fx Go.Proofs.YtdojnnlhaiennaaGreat.Cs
open Go.Proofs.YtdojnnlhaiennaaGreat.Te (Rd Tell)
open Go.Proofs.YtdojnnlhaiennaaGreat.Cr (Frm scanP cellsF)
open Go.Proofs.YtdojnnlhaiennaaGreat.Md (J)
open Go.Proofs.YtdojnnlhaiennaaGreat.Orb (El RO readO oreadF elEq)

def envRN (em : ByteArray → Bool) (lf : ByteArray → ByteArray) (ov : ByteArray → Int) : Env := [(10, .eff (scE em) (madeF (scN lf ov)))]
def envRW (em : ByteArray → Bool) (fl : ByteArray → List AV) (ln : ByteArray → Nat) (lf : ByteArray → ByteArray) (ov : ByteArray → Int) : Env := [(10, .eff (scE em) (madeF (scW fl ln lf ov)))]
theorem rscN_ok : EffOk Tryz.prog 10 (scE emP) (madeF (scN lfP ovP)) := by
  intro args H v H' hC hF m Args w hA hH
  unfold scE at hC
  split at hC
  · rename_i s
    simp only [Bool.and_eq_true] at hC
    have he : (scanP s [] 0).fs = [] := by simpa [emP, scF] using hC.2
    refine Cr.rscan_con [.str s] H v H' hC.1 ?_ m Args w hA hH
    rw [← hF]
    unfold madeF Cr.scO scN
    simp only [he]
    rfl
  · cases hC
theorem rscW_ok : EffOk Tryz.prog 10 (scE fun s => !emP s) (madeF (scW (fun s => cellsF (scF s)) (fun s => (scF s).length) lfP ovP)) := by
  intro args H v H' hC hF m Args w hA hH
  unfold scE at hC
  split at hC
  · rename_i s
    simp only [Bool.and_eq_true] at hC
    refine Cr.rscan_con [.str s] H v H' hC.1 ?_ m Args w hA hH
    rw [← hF]
    unfold madeF Cr.scO scW
    have he : ∃ f l, (scanP s [] 0).fs = f :: l := by
      have := hC.2
      simp only [emP, scF] at this
      cases hs : (scanP s [] 0).fs with
      | nil => rw [hs] at this; cases this
      | cons f l => exact ⟨f, l, rfl⟩
    obtain ⟨f, l, he⟩ := he
    simp only [scF, lfP, ovP, he]
    rfl
  · cases hC
theorem en_rscan : EnterOk Tryz.prog 10 := enter_at (nt := 83) (res := [.tmp 2, .tmp 3, .tmp 4]) (by kernel_rfl)
theorem ok_RN : EnvOk Tryz.prog (envRN emP lfP ovP) := EnvOk.e ok_nil en_rscan rscN_ok
theorem ok_RW : EnvOk Tryz.prog (envRW (fun s => !emP s) (fun s => cellsF (scF s)) (fun s => (scF s).length) lfP ovP) := EnvOk.e ok_nil en_rscan rscW_ok

noncomputable def woB : Code := bodyOf Tryz.prog 9
noncomputable def woL : Code := Code.nav [1, 1, 1, 0, 1, 2, 3] woB
abbrev tB (t : Tell) : AB := .cells t.av 48
abbrev eB (e : El) : AB := .cells e.av 30
section
variable (em : ByteArray → Bool) (fl : ByteArray → List AV) (ln : ByteArray → Nat) (lf : ByteArray → ByteArray) (ov : ByteArray → Int) (ro : Int → ByteArray → RO) (c d : Cft) (t : Tell) (b l : ByteArray) (st : Orr) (kd : Nat → Int) (dt : Nat → ByteArray) (n : Nat) (i : Int)
abbrev w0T : List (Nat × AV) := [(3, .str b), (4, .ptr 0 0), (5, .ptr 1 0), (6, .ptr 2 0)]
abbrev w1T : List (Nat × AV) := [(3, .str b), (4, .ptr 0 0), (5, .ptr 1 0), (6, .ptr 2 0), (9, J st.ack), (10, J st.err), (11, .bool st.placed), (12, .ptr 3 0), (13, J st.order)]
abbrev w2T (lv : AV) : List (Nat × AV) := [(5, .ptr 1 0), (6, .ptr 2 0), (9, J st.ack), (10, J st.err), (11, .bool st.placed), (12, .ptr 3 0), (13, J st.order), (14, lv), (15, .str l)]
abbrev w3T (i : Int) : List (Nat × AV) := [(5, .ptr 1 0), (6, .ptr 2 0), (9, J st.ack), (10, J st.err), (11, .bool st.placed), (12, .ptr 3 0), (13, J st.order), (15, .str l), (38, .own 4 n), (39, J n), (40, J i)]
abbrev w5T : List (Nat × AV) := [(5, .ptr 1 0), (6, .ptr 2 0), (9, J st.ack), (10, J st.err), (11, .bool st.placed), (12, .ptr 3 0), (13, J st.order), (15, .str l)]
abbrev w1H : List AB := [cB c, cB d, tB t, eB st.el]
abbrev w3H (st : Orr) : List AB := [cB c, cB d, tB t, eB st.el, .tab (fun i => [J (kd i), .str (dt i)]) 2 n 53, .dead]
theorem wo_0 : acode Tryz.prog [] 100 103 (Code.nav [0] woB) [(0, .agg c.av), (1, .agg d.av), (2, .agg t.av), (3, .str b)] [] (keepK [3, 4, 5, 6]) = some (.normal, w0T b, [cB c, cB d, tB t]) := by kernel_rfl
theorem wo_1 : acode Tryz.prog [] 100 103 (Code.nav [1, 0] woB) (w0T b) [cB c, cB d, tB t] (keepK [3, 4, 5, 6, 9, 10, 11, 12, 13]) = some (.normal, w1T b (orrOf c 0), w1H c d t (orrOf c 0)) := by kernel_rfl
theorem wo_2N : acode Tryz.prog (envRN em lf ov) 100 103 (Code.nav [1, 1, 0] woB) (w1T b st) (w1H c d t st) (keepK [5, 6, 9, 10, 11, 12, 13, 14, 15]) =
    bif decide (c.left.size + b.size ≤ 4611686018427387904) then bif (Nat.ble (c.left ++ b).size 90000 && em (c.left ++ b)) then some (.normal, w2T (lf (c.left ++ b)) st .nils, w1H c d t st) else none else none := by kernel_rfl
theorem wo_2W : acode Tryz.prog (envRW em fl ln lf ov) 100 103 (Code.nav [1, 1, 0] woB) (w1T b st) (w1H c d t st) (keepK [5, 6, 9, 10, 11, 12, 13, 14, 15]) =
    bif decide (c.left.size + b.size ≤ 4611686018427387904) then bif (Nat.ble (c.left ++ b).size 90000 && em (c.left ++ b)) then some (.normal, w2T (lf (c.left ++ b)) st (.own 4 (ln (c.left ++ b))), w1H c d t st ++ [.rowz 2 (fl (c.left ++ b)) 53, .dead]) else none else none := by kernel_rfl
theorem wo_3N : acode Tryz.prog [] 100 103 (Code.nav [1, 1, 1, 0] woB) (w2T l st .nils) (w1H c d t st) (keepK [5, 6, 9, 10, 11, 12, 13, 15]) = some (.normal, w5T l st, w1H c d t st) := by kernel_rfl
theorem wo_3W (X : List AB) : acode Tryz.prog [] 100 103 (Code.nav [1, 1, 1, 0, 0] woB) (w2T l st (.own 4 n)) (w1H c d t st ++ X) (keepK [5, 6, 9, 10, 11, 12, 13, 15, 38, 39, 40]) = some (.normal, w3T l st n 0, w1H c d t st ++ X) := by kernel_rfl
def wOut (st : Orr) : Option St3 := some (.normal, w3T l st n (wr .i64 (i + 1)), w3H c d t kd dt n st)
theorem wo_round : acode Tryz.prog [(11, .pure anyArgs (oreadF ro))] 100 103 woL (w3T l st n i) (w3H c d t kd dt n st) (keepL [5, 6, 9, 10, 11, 12, 13, 15, 38, 39, 40] 6) =
    bif decide (i < (n : Int)) then
      bif decide (0 ≤ i) && decide (i < (n : Int)) then
        bif (Nat.beq 2 2 && Nat.ble 1 2 && Nat.beq (i.toNat * 2 % 2) 0 && Nat.ble (hJ i + 1) n) then
          (bif kd (hJ i) != 16 then wOut c d t l kd dt n i st
          else bif (bif (ro (kd (hJ i)) (dt (hJ i))).o.c == 1 then (ro (kd (hJ i)) (dt (hJ i))).o.c == 1 else (ro (kd (hJ i)) (dt (hJ i))).o.c == 2) then wOut c d t l kd dt n i ⟨(ro (kd (hJ i)) (dt (hJ i))).o.q, (ro (kd (hJ i)) (dt (hJ i))).e, st.placed, st.el, (ro (kd (hJ i)) (dt (hJ i))).o.c⟩
          else bif (ro (kd (hJ i)) (dt (hJ i))).o.c == 3 then wOut c d t l kd dt n i ⟨(ro (kd (hJ i)) (dt (hJ i))).o.q, (ro (kd (hJ i)) (dt (hJ i))).e, true, (ro (kd (hJ i)) (dt (hJ i))).o.el, st.order⟩
          else wOut c d t l kd dt n i ⟨(ro (kd (hJ i)) (dt (hJ i))).o.q, (ro (kd (hJ i)) (dt (hJ i))).e, st.placed, st.el, st.order⟩) else none
      else none
    else some (.exit 0, w3T l st n i, w3H c d t kd dt n st) := by kernel_rfl
def woV : Bool := bif (bif st.order == 1 then d.pl.mode != 3 else false) then false
  else bif (bif (bif (bif t.a == st.ack then t.e == st.err else false) then d.placed == st.placed else false) then elEq d.el st.el else false) then d.left == l else false
theorem wo_5 (X : List AB) : acode Tryz.prog [] 100 103 (Code.nav [1, 1, 1, 1] woB) (w5T l st) (w1H c d t st ++ X) (keepK [8]) =
    bif (bif st.order == 1 then d.pl.mode != 3 else false) then some (.ret, [(8, .bool false)], w1H c d t st ++ X)
    else some (.ret, [(8, .bool (bif (bif (bif (bif t.a == st.ack then t.e == st.err else false) then d.placed == st.placed else false) then elEq d.el st.el else false) then d.left == l else false))], w1H c d t st ++ X) := by kernel_rfl
end
theorem wo_5V (c d : Cft) (t : Tell) (l : ByteArray) (st : Orr) (X : List AB) : acode Tryz.prog [] 100 103 (Code.nav [1, 1, 1, 1] woB) (w5T l st) (w1H c d t st ++ X) (keepK [8]) = some (.ret, [(8, .bool (woV d t l st))], w1H c d t st ++ X) := by
  rw [wo_5]
  unfold woV
  cases (bif st.order == 1 then d.pl.mode != 3 else false) with
  | true => rw [bt, bt]
  | false => rw [bf, bf]
theorem ok_RR : EnvOk Tryz.prog [(11, .pure anyArgs (oreadF readO))] := EnvOk.p ok_nil (enter_of Tryz.func11 (by kernel_rfl) rfl) Orb.rread_con
/-- A frame, in the closure's round. -/
theorem wo_frm (c d : Cft) (t : Tell) (l : ByteArray) (kd : Nat → Int) (dt : Nat → ByteArray) (n : Nat) (i : Int) (st : Orr) (k : Int) (b : ByteArray) :
    (bif k != 16 then wOut c d t l kd dt n i st
          else bif (bif (readO k b).o.c == 1 then (readO k b).o.c == 1 else (readO k b).o.c == 2) then wOut c d t l kd dt n i ⟨(readO k b).o.q, (readO k b).e, st.placed, st.el, (readO k b).o.c⟩
          else bif (readO k b).o.c == 3 then wOut c d t l kd dt n i ⟨(readO k b).o.q, (readO k b).e, true, (readO k b).o.el, st.order⟩
          else wOut c d t l kd dt n i ⟨(readO k b).o.q, (readO k b).e, st.placed, st.el, st.order⟩) = wOut c d t l kd dt n i (frmR st (k, b)) := by
  unfold frmR ordR
  simp only
  by_cases h16 : k = 16
  · rw [if_pos h16, show (k != 16) = false by rw [h16]; rfl, bf]
    generalize readO k b = o
    by_cases c1 : o.o.c = 1
    · rw [show (o.o.c == 1) = true by rw [c1]; rfl, bt, bt, if_neg (by omega), if_neg (by omega), if_pos (.inl c1)]
    rw [show (o.o.c == 1) = false from beq_eq_false_iff_ne.2 c1, bf]
    by_cases c2 : o.o.c = 2
    · rw [show (o.o.c == 2) = true by rw [c2]; rfl, bt, if_neg (by omega), if_neg (by omega), if_pos (.inr c2)]
    rw [show (o.o.c == 2) = false from beq_eq_false_iff_ne.2 c2, bf]
    by_cases c3 : o.o.c = 3
    · rw [show (o.o.c == 3) = true by rw [c3]; rfl, bt, if_pos c3, if_pos c3, if_neg (by omega)]
    · rw [show (o.o.c == 3) = false from beq_eq_false_iff_ne.2 c3, bf, if_neg c3, if_neg c3, if_neg (by omega)]
  · rw [if_neg h16, show (k != 16) = true from bne_iff_ne.2 h16, bt]
theorem tav_trunc (L : Nat) (t : Tell) : AV.truncL L t.av = t.av := rfl
theorem eav_trunc (L : Nat) (e : El) : AV.truncL L e.av = e.av := rfl
theorem wo_keep {w0 : World} {c d : Cft} {t : Tell} {kd : Nat → Int} {dt : Nat → ByteArray} {n nt : Nat} {st : Orr} {T T2 : List (Nat × AV)} {X : List AB} {a : Act} {w : World} (hs : At [] w0 nt T (w3H c d t kd dt n st ++ X) a w) (hT : okT 6 T T2) : At [] w0 nt T2 (w3H c d t kd dt n st) a w :=
  hs.keep (Nat.zero_le _) (by simp) hT ⟨.inr ⟨rfl, cav_trunc _ _⟩, .inr ⟨rfl, cav_trunc _ _⟩, .inr ⟨rfl, tav_trunc _ _⟩, .inr ⟨rfl, eav_trunc _ _⟩, .inr ⟨rfl, fun j _ => rfl⟩, .inl rfl, trivial⟩
theorem wo_loop (c d : Cft) (t : Tell) (l : ByteArray) (fs : List Frm) (hfs : fs.length ≤ 100000) {w0 : World} {Q : Exit → Act → World → Prop} (st0 : Orr)
    (hex : ∀ a w, At [] w0 103 (w3T l (fs.foldl frmR st0) fs.length fs.length) (w3H c d t (kdL fs) (dtL fs) fs.length (fs.foldl frmR st0)) a w → Q (.exit 0) a w) {a : Act} {w : World} (hA : At [] w0 103 (w3T l st0 fs.length 0) (w3H c d t (kdL fs) (dtL fs) fs.length st0) a w) :
    (Code.loop woL).wp Tryz.prog Q a w := by
  refine At.loop (σ := Nat × Orr) (fun x a w => x.1 ≤ fs.length ∧ (fs.drop x.1).foldl frmR x.2 = fs.foldl frmR st0 ∧ At [] w0 103 (w3T l x.2 fs.length x.1) (w3H c d t (kdL fs) (dtL fs) fs.length x.2) a w) (fun x => fs.length - x.1) ?_ (0, st0) ⟨Nat.zero_le _, rfl, hA⟩
  rintro ⟨i, st⟩ a w ⟨hi, hf, hA⟩
  simp only at hi hf hA
  have hraw := wo_round readO c d t l st (kdL fs) (dtL fs) fs.length i
  have hj : hJ (i : Int) = i := by unfold hJ; rw [Int.toNat_natCast]; omega
  by_cases hlt : i < fs.length
  · have hd : fs.drop i = (kdL fs i, dtL fs i) :: fs.drop (i + 1) := by
      rw [List.drop_eq_getElem_cons hlt]
      unfold kdL dtL
      rw [List.getD_eq_getElem?_getD, List.getElem?_eq_getElem hlt]
      rfl
    rw [hj, wo_frm] at hraw
    rw [decide_eq_true (by omega : (i : Int) < fs.length), decide_eq_true (by omega : 0 ≤ (i : Int)), Nat.ble_eq_true_of_le (by omega : i + 1 ≤ fs.length), show Nat.beq ((i : Int).toNat * 2 % 2) 0 = true by rw [Int.toNat_natCast, Nat.mul_mod_left]; rfl] at hraw
    refine At.codeKL ok_RR 100 [5, 6, 9, 10, 11, 12, 13, 15, 38, 39, 40] 6 hraw hA fun X a w hs => then_normal ⟨(i + 1, frmR st (kdL fs i, dtL fs i)), by simp only; omega, by simp only; omega, ?_, ?_⟩
    · rw [← hf, hd]; rfl
    · refine wo_keep hs ⟨⟨rfl, rfl⟩, ⟨rfl, rfl⟩, ⟨rfl, rfl⟩, ⟨rfl, rfl⟩, ⟨rfl, rfl⟩, ⟨rfl, rfl⟩, ⟨rfl, rfl⟩, ⟨rfl, rfl⟩, ⟨rfl, rfl⟩, ⟨rfl, rfl⟩, ⟨?_, rfl⟩, trivial⟩
      show J (wr .i64 ((i : Int) + 1)) = J ((i + 1 : Nat) : Int)
      rw [Cr.w_of (by omega)]
      rfl
  · have : i = fs.length := by omega
    subst this
    rw [decide_eq_false (by omega : ¬ (fs.length : Int) < fs.length)] at hraw
    rw [List.drop_length] at hf
    have hf' : st = fs.foldl frmR st0 := hf
    subst hf'
    exact At.codeKL ok_RR 100 [5, 6, 9, 10, 11, 12, 13, 15, 38, 39, 40] 6 hraw hA fun X a w hs => then_exit (hex a w (wo_keep hs ⟨⟨rfl, rfl⟩, ⟨rfl, rfl⟩, ⟨rfl, rfl⟩, ⟨rfl, rfl⟩, ⟨rfl, rfl⟩, ⟨rfl, rfl⟩, ⟨rfl, rfl⟩, ⟨rfl, rfl⟩, ⟨rfl, rfl⟩, ⟨rfl, rfl⟩, ⟨rfl, rfl⟩, trivial⟩))
theorem wo_keep5 {w0 : World} {c d : Cft} {t : Tell} {l : ByteArray} {kd : Nat → Int} {dt : Nat → ByteArray} {n nt : Nat} {i : Int} {st : Orr} {a : Act} {w : World} (hs : At [] w0 nt (w3T l st n i) (w3H c d t kd dt n st) a w) :
    At [] w0 nt (w5T l st) (w1H c d t st ++ [.tab (fun i => [J (kd i), .str (dt i)]) 2 n 53, .dead]) a w :=
  hs.keep (Nat.zero_le _) (Nat.le_refl _) ⟨⟨rfl, rfl⟩, ⟨rfl, rfl⟩, ⟨rfl, rfl⟩, ⟨rfl, rfl⟩, ⟨rfl, rfl⟩, ⟨rfl, rfl⟩, ⟨rfl, rfl⟩, ⟨rfl, rfl⟩, trivial⟩ ⟨.inr ⟨rfl, cav_trunc _ _⟩, .inr ⟨rfl, cav_trunc _ _⟩, .inr ⟨rfl, tav_trunc _ _⟩, .inr ⟨rfl, eav_trunc _ _⟩, .inr ⟨rfl, fun j _ => rfl⟩, .inl rfl, trivial⟩
/-! ### The contract -/
def tellOf : List AV → Option Tell
  | [.int .i64 t, .int .i64 m, .int .i64 f, .int .i64 a, .int .i64 e, .int .i64 r, .int .i64 q0, .int .i64 q1, .int .i64 q2, .int .i64 q3, .int .i64 d0, .int .i64 d1, .int .i64 d2] => some ⟨t, m, f, a, e, r, q0, q1, q2, q3, d0, d1, d2⟩
  | _ => none
theorem tellOf_av {l : List AV} {t : Tell} (h : tellOf l = some t) : l = t.av := by
  unfold tellOf at h
  split at h
  · cases h; rfl
  · cases h
def holdsC (hc : Cft → ByteArray → Bool) : List AV → Bool
  | [.agg l, .agg _, .agg _, .str b] =>
    match Cft.of l with
    | some c => hc c b
    | none => false
  | _ => false
def holdsF (hv : Cft → Cft → Tell → ByteArray → Bool) : List AV → Option AV
  | [.agg l, .agg l2, .agg l3, .str b] =>
    match Cft.of l, Cft.of l2, tellOf l3 with
    | some c, some d, some t => some (.bool (hv c d t b))
    | _, _, _ => none
  | _ => none
def woP (c d : Cft) (t : Tell) (b : ByteArray) : Bool := woV d t (lfP (c.left ++ b)) ((scF (c.left ++ b)).foldl frmR (orrOf c 0))
theorem wo_con : PureOk Tryz.prog 9 (holdsC fitP) (holdsF woP) := by
  refine pure_atC (nt := 103) (res := [.tmp 8]) (by kernel_rfl) fun args v hC hF => ?_
  unfold holdsF at hF
  split at hF
  · rename_i l l2 l3 b
    split at hF
    · rename_i c d t h1 h2 h3
      cases hF
      have hD : (match Cft.of l with | some c => fitP c b | none => false) = true := hC
      rw [h1] at hD
      have hE : fitP c b = true := hD
      clear hC hD
      obtain rfl := Cft.of_av h1
      obtain rfl := Cft.of_av h2
      obtain rfl := tellOf_av h3
      have hfit := fit_size hE
      have hsz : (c.left ++ b).size = c.left.size + b.size := ByteArray.size_append
      refine ⟨rfl, ?_, Nat.le_of_ble_eq_true rfl, fun w0 a h0 => ?_⟩
      · show (AV.noPtrL c.av && (AV.noPtrL d.av && (AV.noPtrL t.av && true))) = true
        rw [cav_noPtr, cav_noPtr]; rfl
      · have h0 : At [] w0 103 [(0, .agg c.av), (1, .agg d.av), (2, .agg t.av), (3, .str b)] [] a w0 := h0
        refine wp_as woB rfl ?_
        refine wp_seqN (by kernel_rfl) (wp_as (Code.nav [0] woB) (by kernel_rfl) (At.codeK ok_nil 100 [3, 4, 5, 6] (wo_0 c d t b) h0 fun a w hs => then_normal ?_))
        refine wp_seqN (by kernel_rfl) (wp_as (Code.nav [1, 0] woB) (by kernel_rfl) (At.codeK ok_nil 100 [3, 4, 5, 6, 9, 10, 11, 12, 13] (wo_1 c d t b) hs fun a w hs => then_normal ?_))
        have fin : ∀ (X : List AB) a w, At [] w0 103 (w5T (lfP (c.left ++ b)) ((scF (c.left ++ b)).foldl frmR (orrOf c 0))) (w1H c d t ((scF (c.left ++ b)).foldl frmR (orrOf c 0)) ++ X) a w → (Code.nav [1, 1, 1, 1] woB).wp Tryz.prog (Gives Tryz.prog w0 103 [.tmp 8] (.bool (woP c d t b))) a w := fun X a w hs =>
          At.codeK ok_nil 100 [8] (wo_5V c d t _ _ X) hs fun a w hs => ⟨.inr rfl, _, _, _, hs, rfl, rfl⟩
        by_cases hem : emP (c.left ++ b) = true
        · have hfs : scF (c.left ++ b) = [] := by simpa [emP] using hem
          have r2 := wo_2N emP lfP ovP c d t b (orrOf c 0)
          rw [decide_eq_true (by omega : c.left.size + b.size ≤ 4611686018427387904), hem, Nat.ble_eq_true_of_le (by omega : (c.left ++ b).size ≤ 90000)] at r2
          refine wp_seqN (by kernel_rfl) (wp_as (Code.nav [1, 1, 0] woB) (by kernel_rfl) (At.codeK ok_RN 100 [5, 6, 9, 10, 11, 12, 13, 14, 15] r2 hs fun a w hs => then_normal ?_))
          refine wp_seqN (by kernel_rfl) (wp_as (Code.nav [1, 1, 1, 0] woB) (by kernel_rfl) (At.codeK ok_nil 100 [5, 6, 9, 10, 11, 12, 13, 15] (wo_3N c d t (lfP (c.left ++ b)) (orrOf c 0)) hs fun a w hs => then_normal ?_))
          refine wp_as (Code.nav [1, 1, 1, 1] woB) (by kernel_rfl) ?_
          rw [hfs] at fin
          exact fin [] a w (by rw [List.append_nil]; exact hs)
        · have hem : (!emP (c.left ++ b)) = true := by simpa using hem
          have r2 := wo_2W (fun s => !emP s) (fun s => cellsF (scF s)) (fun s => (scF s).length) lfP ovP c d t b (orrOf c 0)
          rw [decide_eq_true (by omega : c.left.size + b.size ≤ 4611686018427387904), hem, Nat.ble_eq_true_of_le (by omega : (c.left ++ b).size ≤ 90000)] at r2
          refine wp_seqN (by kernel_rfl) (wp_as (Code.nav [1, 1, 0] woB) (by kernel_rfl) (At.codeK ok_RW 100 [5, 6, 9, 10, 11, 12, 13, 14, 15] r2 hs fun a w hs => then_normal ?_))
          have hs := hs.tell 4 (.rowz 2 (cellsF (scF (c.left ++ b))) 53) (.tab (fun i => [J (kdL (scF (c.left ++ b)) i), .str (dtL (scF (c.left ++ b)) i)]) 2 (scF (c.left ++ b)).length 53) rfl rfl (fun m o h => tell_tab h) (fun _ _ _ => trivial)
          have hlen : (scF (c.left ++ b)).length ≤ 100000 := by
            have := scan_len (c.left ++ b) [] 0
            unfold scF
            simp only [List.length_nil] at this
            omega
          refine wp_seqN (by kernel_rfl) (wp_as (Code.nav [1, 1, 1, 0] woB) (by kernel_rfl) ?_)
          refine wp_seqN (by kernel_rfl) (wp_as (Code.nav [1, 1, 1, 0, 0] woB) (by kernel_rfl) (At.codeK ok_nil 100 [5, 6, 9, 10, 11, 12, 13, 15, 38, 39, 40] (wo_3W c d t (lfP (c.left ++ b)) (orrOf c 0) (scF (c.left ++ b)).length _) hs fun a w hs => then_normal ?_))
          refine wp_blockN 0 (by kernel_rfl) (wp_as (.loop woL) (by kernel_rfl) ?_)
          refine wo_loop c d t (lfP (c.left ++ b)) (scF (c.left ++ b)) hlen (orrOf c 0) (fun a w hs => inBlock_exit (then_normalN ?_)) hs
          refine wp_as (Code.nav [1, 1, 1, 1] woB) (by kernel_rfl) (fin [.tab (fun i => [J (kdL (scF (c.left ++ b)) i), .str (dtL (scF (c.left ++ b)) i)]) 2 (scF (c.left ++ b)).length 53, .dead] a w (wo_keep5 hs))
    · cases hF
  · cases hF
#print axioms wo_con
end Go.Proofs.YtdojnnlhaiennaaGreat.Tp

/- Is a play light? A contract. Conditions: none. -/
namespace Go.Proofs.YtdojnnlhaiennaaGreat.Tp
open Go Go.Proofs.YtdojnnlhaiennaaGreat.Ae Go.Proofs.YtdojnnlhaiennaaGreat.Fx Go.Proofs.YtdojnnlhaiennaaGreat.Cs
open Go.Proofs.YtdojnnlhaiennaaGreat.Te (Rd Tell)
open Go.Proofs.YtdojnnlhaiennaaGreat.Md (J)

/-! ### A play's steps in memory -/
abbrev rcT : TypeId := 66
abbrev plT' : TypeId := 24
abbrev recB (rt : TypeId) (ob : Obj) (o : Nat) (a : Nat → Int) (b : Nat → ByteArray) (n : Nat) : AB := .tabO ob o (fun i => [J (a i), .str (b i)]) 2 n rt
abbrev plA (bg : Int) (o n c : Nat) : List AV := [J bg, .slice 0 o n c]
abbrev plB (bg : Int) (o n c : Nat) : AB := .cells (plA bg o n c) plT'
def aOf (f : Nat → List AV) (i : Nat) : Int :=
  match f i with
  | [.int .i64 a, .str _] => a
  | _ => 0
def bOf (f : Nat → List AV) (i : Nat) : ByteArray :=
  match f i with
  | [.int .i64 _, .str b] => b
  | _ => Cr.eS
def isRec : List AV → Bool
  | [.int .i64 _, .str b] => Nat.ble b.size 140737488355328
  | _ => false
def rkP (n : Nat) (f : Nat → List AV) : Bool := Nat.ble n 140737488355328 && (List.range n).all fun i => isRec (f i)
theorem isRec_is {f : Nat → List AV} {i : Nat} (h : isRec (f i) = true) : f i = [J (aOf f i), .str (bOf f i)] ∧ (bOf f i).size ≤ 140737488355328 := by
  unfold isRec at h
  split at h
  · rename_i a b hf
    have e1 : aOf f i = a := by unfold aOf; rw [hf]
    have e2 : bOf f i = b := by unfold bOf; rw [hf]
    rw [hf, e1, e2]
    exact ⟨rfl, Nat.le_of_ble_eq_true h⟩
  · cases h
theorem rk_is {n : Nat} {f : Nat → List AV} (h : rkP n f = true) : n ≤ 140737488355328 ∧ ∀ i, i < n → f i = [J (aOf f i), .str (bOf f i)] ∧ (bOf f i).size ≤ 140737488355328 := by
  unfold rkP at h
  simp only [Bool.and_eq_true] at h
  exact ⟨Nat.le_of_ble_eq_true h.1, fun i hi => isRec_is (List.all_eq_true.1 h.2 i (List.mem_range.2 hi))⟩
theorem rk_tell {n o : Nat} {rt : TypeId} {oo : Obj} {f : Nat → List AV} (h : rkP n f = true) {m : List Nat} {ob : Obj} (hR : RB m (.tabO oo o f 2 n rt) ob) : RB m (recB rt oo o (aOf f) (bOf f) n) ob := by
  obtain ⟨e0, Vs, fz, e, g⟩ := hR
  refine ⟨e0, Vs, fz, e, fun i hi => ?_⟩
  obtain ⟨g1, g2, g3⟩ := g i hi
  rw [((rk_is h).2 i hi).1] at g3
  exact ⟨g1, rfl, g3⟩
theorem rk_back {n o : Nat} {rt : TypeId} {oo : Obj} {f : Nat → List AV} (h : rkP n f = true) {m : List Nat} {ob : Obj} (hR : RB m (recB rt oo o (aOf f) (bOf f) n) ob) : RB m (.tabO oo o f 2 n rt) ob := by
  obtain ⟨e0, Vs, fz, e, g⟩ := hR
  refine ⟨e0, Vs, fz, e, fun i hi => ?_⟩
  obtain ⟨g1, g2, g3⟩ := g i hi
  have := ((rk_is h).2 i hi).1
  exact ⟨g1, by rw [this]; rfl, by rw [this]; exact g3⟩
def sumB (b : Nat → ByteArray) : Nat → Nat
  | 0 => 0
  | n + 1 => sumB b n + (b n).size
theorem sumB_le (b : Nat → ByteArray) {i n : Nat} (h : i ≤ n) : sumB b i ≤ sumB b n := by
  induction n with
  | zero => have : i = 0 := by omega
            rw [this]; exact Nat.le_refl _
  | succ n ih =>
    by_cases hi : i = n + 1
    · rw [hi]; exact Nat.le_refl _
    · have := ih (by omega)
      show sumB b i ≤ sumB b n + (b n).size
      omega

/-! ### The walk -/
noncomputable def liB : Code := bodyOf Tryz.prog 7
noncomputable def liL : Code := Code.nav [1, 1, 0, 1, 2, 3] liB
section
variable (bg : Int) (rt : TypeId) (oo : Obj) (o n cp : Nat) (a : Nat → Int) (b : Nat → ByteArray) (s i : Int) (B : AB)
theorem li_0 : acode Tryz.prog [] 100 35 (Code.nav [0] liB) [(0, .agg (plA bg o n cp))] [B] (keepK [1]) = some (.normal, [(1, .ptr 1 0)], [B, plB bg o n cp]) := by kernel_rfl
theorem li_1 : acode Tryz.prog [] 100 35 (Code.nav [1, 0] liB) [(1, .ptr 1 0)] [B, plB bg o n cp] (keepK [1, 3]) = some (.normal, [(1, .ptr 1 0), (3, J 0)], [B, plB bg o n cp]) := by kernel_rfl
abbrev liT (s i : Int) : List (Nat × AV) := [(1, .ptr 1 0), (3, J s), (7, .slice 0 o n cp), (8, J n), (9, J i)]
theorem li_2 : acode Tryz.prog [] 100 35 (Code.nav [1, 1, 0, 0] liB) [(1, .ptr 1 0), (3, J 0)] [B, plB bg o n cp] (keepK [1, 3, 7, 8, 9]) = some (.normal, liT o n cp 0 0, [B, plB bg o n cp]) := by kernel_rfl
abbrev oJ (o : Nat) (i : Int) : Nat := (o + i.toNat * 2 - o) / 2
theorem li_round : acode Tryz.prog [] 100 35 liL (liT o n cp s i) [recB rt oo o a b n, plB bg o n cp] (keepL [1, 2, 3, 7, 8, 9] 2) =
    bif decide (i < (n : Int)) then
      bif decide (0 ≤ i) && decide (i < (n : Int)) then
        bif (Nat.beq 2 2 && Nat.ble 1 2 && Nat.ble o (o + i.toNat * 2) && Nat.beq ((o + i.toNat * 2 - o) % 2) 0 && Nat.ble (oJ o i + 1) n) then
          bif decide (wr .i64 (s + ((b (oJ o i)).size : Int)) > 3000) then some (.ret, [(1, .ptr 1 0), (2, .bool false), (3, J (wr .i64 (s + ((b (oJ o i)).size : Int)))), (7, .slice 0 o n cp), (8, J n), (9, J i)], [recB rt oo o a b n, plB bg o n cp])
          else some (.normal, [(1, .ptr 1 0), (2, .any), (3, J (wr .i64 (s + ((b (oJ o i)).size : Int)))), (7, .slice 0 o n cp), (8, J n), (9, J (wr .i64 (i + 1)))], [recB rt oo o a b n, plB bg o n cp])
        else none
      else none
    else some (.exit 0, [(1, .ptr 1 0), (2, .any), (3, J s), (7, .slice 0 o n cp), (8, J n), (9, J i)], [recB rt oo o a b n, plB bg o n cp]) := by kernel_rfl
theorem li_5 : acode Tryz.prog [] 100 35 (Code.nav [1, 1, 1] liB) [(1, .ptr 1 0)] [B, plB bg o n cp] (keepK [2]) =
    some (.ret, [(2, .bool (bif bif decide ((n : Int) ≤ 30) then decide (bg ≥ 0) else false then decide (bg ≤ 157766400000) else false))], [B, plB bg o n cp]) := by kernel_rfl
end
def lightV (bg : Int) (n : Nat) (b : Nat → ByteArray) : Bool := decide (sumB b n ≤ 3000 ∧ n ≤ 30 ∧ 0 ≤ bg ∧ bg ≤ 157766400000)
def lightF (rk : Nat → (Nat → List AV) → Bool) (lv : Int → Nat → (Nat → List AV) → Bool) (args : List AV) (B : AB) : Option AV :=
  match args, B with
  | [.agg [.int .i64 bg, .slice 0 o' n' _]], .tabO _ o f k n _ => bif Nat.beq o' o && Nat.beq n' n && Nat.beq k 2 && rk n f then some (.bool (lv bg n f)) else none
  | _, _ => none
theorem rec_inL (rt : TypeId) (oo : Obj) (L o n : Nat) (a : Nat → Int) (b : Nat → ByteArray) (i : Nat) : (recB rt oo o a b n).inL L i := fun j _ => rfl
theorem plA_trunc (bg : Int) (o n c : Nat) (L : Nat) (h : 1 ≤ L) : AV.truncL L (plA bg o n c) = plA bg o n c := by
  obtain ⟨k, rfl⟩ : ∃ k, L = k + 1 := ⟨L - 1, by omega⟩
  rfl
theorem light_con : EffOk Tryz.prog 7 anyArgs (peekF (lightF rkP fun bg n f => lightV bg n (bOf f))) := by
  refine peek_at (nt := 35) (res := [.tmp 2]) (by kernel_rfl) fun args v B hC hF => ?_
  unfold lightF at hF
  split at hF
  · rename_i bg o' n' cp oo o f k n rt
    cases hb : (Nat.beq o' o && Nat.beq n' n && Nat.beq k 2 && rkP n f) with
    | false => rw [hb] at hF; cases hF
    | true =>
      rw [hb] at hF
      simp only [cond_true, Option.some.injEq] at hF
      subst hF
      simp only [Bool.and_eq_true] at hb
      obtain ⟨⟨⟨h1, h2⟩, h3⟩, hrk⟩ := hb
      obtain rfl := Nat.eq_of_beq_eq_true h1
      obtain rfl := Nat.eq_of_beq_eq_true h2
      obtain rfl := Nat.eq_of_beq_eq_true h3
      obtain ⟨hn, hf⟩ := rk_is hrk
      have hin : (AB.tabO oo o' f 2 n' rt).inL 1 0 := fun j hj => by rw [(hf j hj).1]; rfl
      refine ⟨rfl, rfl, rfl, hin, fun _ _ _ => trivial, Nat.le_of_ble_eq_true rfl, fun m1 w0 a hm h0 => ?_⟩
      have h0 : At m1 w0 35 [(0, .agg (plA bg o' n' cp))] [.tabO oo o' f 2 n' rt] a w0 := h0
      have h0 := h0.tell 0 (.tabO oo o' f 2 n' rt) (recB rt oo o' (aOf f) (bOf f) n') rfl rfl (fun m o h => rk_tell hrk h) (fun _ _ _ => trivial)
      have h0 : At m1 w0 35 [(0, .agg (plA bg o' n' cp))] [recB rt oo o' (aOf f) (bOf f) n'] a w0 := h0
      have hsz : ∀ i, i < n' → (bOf f i).size ≤ 140737488355328 := fun i hi => (hf i hi).2
      have fin : ∀ {e : Exit} {T : List (Nat × AV)} {X : List AB} {r : Bool} {a : Act} {w : World}, e = .normal ∨ e = .ret → get T 2 = .bool r → r = lightV bg n' (bOf f) → At m1 w0 35 T (recB rt oo o' (aOf f) (bOf f) n' :: X) a w →
          (e = .normal ∨ e = .ret) ∧ ∃ T' X vs, At m1 w0 35 T' (.tabO oo o' f 2 n' rt :: X) a w ∧ ares Tryz.prog T' (.tabO oo o' f 2 n' rt :: X) [.tmp 2] = some vs ∧ tupOf vs = .bool (lightV bg n' (bOf f)) := by
        intro e T X r a w he hT hr hs
        refine ⟨he, T, X, [get T 2], hs.tell 0 (recB rt oo o' (aOf f) (bOf f) n') (.tabO oo o' f 2 n' rt) rfl rfl (fun m o h => rk_back hrk h) (fun _ _ _ => trivial), rfl, ?_⟩
        rw [hT, ← hr]; rfl
      refine wp_as liB rfl ?_
      refine wp_seqN (by kernel_rfl) (wp_as (Code.nav [0] liB) (by kernel_rfl) (At.codeK ok_nil 100 [1] (li_0 bg o' n' cp (recB rt oo o' (aOf f) (bOf f) n')) h0 fun a w hs => then_normal ?_))
      refine wp_seqN (by kernel_rfl) (wp_as (Code.nav [1, 0] liB) (by kernel_rfl) (At.codeK ok_nil 100 [1, 3] (li_1 bg o' n' cp _) hs fun a w hs => then_normal ?_))
      refine wp_seqN (by kernel_rfl) (wp_as (Code.nav [1, 1, 0] liB) (by kernel_rfl) ?_)
      refine wp_seqN (by kernel_rfl) (wp_as (Code.nav [1, 1, 0, 0] liB) (by kernel_rfl) (At.codeK ok_nil 100 [1, 3, 7, 8, 9] (li_2 bg o' n' cp _) hs fun a w hs => then_normal ?_))
      refine wp_blockN 0 (by kernel_rfl) (wp_as (.loop liL) (by kernel_rfl) ?_)
      refine At.loop (σ := Nat) (fun i a w => i ≤ n' ∧ sumB (bOf f) i ≤ 3000 ∧ At m1 w0 35 (liT o' n' cp (sumB (bOf f) i : Nat) i) [recB rt oo o' (aOf f) (bOf f) n', plB bg o' n' cp] a w) (fun i => n' - i) ?_ 0 ⟨Nat.zero_le _, Nat.zero_le _, hs⟩
      rintro i a w ⟨hi, hsum, hA⟩
      have hraw := li_round bg rt oo o' n' cp (aOf f) (bOf f) (sumB (bOf f) i : Nat) i
      have hj : oJ o' (i : Int) = i := by unfold oJ; rw [Int.toNat_natCast]; omega
      have keep : ∀ {T T2 : List (Nat × AV)} {X : List AB} {a : Act} {w : World}, At m1 w0 35 T ([recB rt oo o' (aOf f) (bOf f) n', plB bg o' n' cp] ++ X) a w → okT 2 T T2 → At m1 w0 35 T2 [recB rt oo o' (aOf f) (bOf f) n', plB bg o' n' cp] a w := fun hs hT =>
        hs.keep (by rw [hm]; exact Nat.le_of_ble_eq_true rfl) (by simp) hT ⟨.inr ⟨rfl, fun j _ => rfl⟩, .inr ⟨rfl, plA_trunc bg o' n' cp 2 (Nat.le_of_ble_eq_true rfl)⟩, trivial⟩
      by_cases hlt : i < n'
      · have hz := hsz i hlt
        have hw : wr .i64 (((sumB (bOf f) i : Nat) : Int) + ((bOf f i).size : Int)) = ((sumB (bOf f) (i + 1) : Nat) : Int) := by
          rw [Cr.w_of (by omega)]; rfl
        rw [hj, hw] at hraw
        rw [decide_eq_true (by omega : (i : Int) < n'), decide_eq_true (by omega : 0 ≤ (i : Int)), Nat.ble_eq_true_of_le (by omega : o' ≤ o' + (i : Int).toNat * 2), Nat.ble_eq_true_of_le (by omega : i + 1 ≤ n'), show Nat.beq ((o' + (i : Int).toNat * 2 - o') % 2) 0 = true by rw [Nat.add_sub_cancel_left, Nat.mul_mod_left]; rfl] at hraw
        by_cases hbig : 3000 < sumB (bOf f) (i + 1)
        · rw [decide_eq_true (by omega : ((sumB (bOf f) (i + 1) : Nat) : Int) > 3000)] at hraw
          refine At.codeKL ok_nil 100 [1, 2, 3, 7, 8, 9] 2 hraw hA fun X a w hs => then_ret (inBlock_ret (then_retN ?_))
          refine fin (.inr rfl) rfl ?_ hs
          have := sumB_le (bOf f) (show i + 1 ≤ n' by omega)
          exact (decide_eq_false (by omega)).symm
        · rw [decide_eq_false (by omega : ¬ ((sumB (bOf f) (i + 1) : Nat) : Int) > 3000)] at hraw
          refine At.codeKL ok_nil 100 [1, 2, 3, 7, 8, 9] 2 hraw hA fun X a w hs => then_normal ⟨i + 1, by omega, by omega, by omega, ?_⟩
          refine keep hs ⟨⟨rfl, rfl⟩, ⟨rfl, rfl⟩, ⟨rfl, rfl⟩, ⟨rfl, rfl⟩, ⟨?_, rfl⟩, trivial⟩
          show J (wr .i64 ((i : Int) + 1)) = J ((i + 1 : Nat) : Int)
          rw [Cr.w_of (by omega)]
          rfl
      · have : i = n' := by omega
        subst this
        rw [decide_eq_false (by omega : ¬ (i : Int) < i)] at hraw
        refine At.codeKL ok_nil 100 [1, 2, 3, 7, 8, 9] 2 hraw hA fun X a w hs => then_exit (inBlock_exit (then_normalN ?_))
        have hs := keep (T2 := [(1, .ptr 1 0)]) hs ⟨⟨rfl, rfl⟩, trivial⟩
        refine wp_as (Code.nav [1, 1, 1] liB) (by kernel_rfl) (At.codeK ok_nil 100 [2] (li_5 bg o' i cp _) hs fun a w hs => ?_)
        refine fin (.inr rfl) rfl ?_ hs
        unfold lightV
        by_cases h1 : i ≤ 30
        · rw [decide_eq_true (by omega : (i : Int) ≤ 30), bt]
          by_cases h2 : 0 ≤ bg
          · rw [decide_eq_true (by omega : bg ≥ 0), bt]
            by_cases h3 : bg ≤ 157766400000
            · rw [decide_eq_true h3, decide_eq_true ⟨hsum, h1, h2, h3⟩]
            · rw [decide_eq_false h3, decide_eq_false (by omega)]
          · rw [decide_eq_false (by omega : ¬ bg ≥ 0), bf, decide_eq_false (by omega)]
        · rw [decide_eq_false (by omega : ¬ (i : Int) ≤ 30), bf, bf, decide_eq_false (by omega)]
  · cases hF
#print axioms light_con
end Go.Proofs.YtdojnnlhaiennaaGreat.Tp

/- A play, step by step: each, a contract. Conditions: none. -/
namespace Go.Proofs.YtdojnnlhaiennaaGreat.Ae
open Go
/-- What is compared with itself is equal. -/
theorem aeq_refl {P : Program} : ∀ (d : Nat) (t : TypeId) (x : AV) (b : Bool), aeq P d t x x = some b → b = true
  | 0, _, _, _, h => by cases h
  | d + 1, t, x, b, h => by
    have ih := aeq_refl (P := P) d
    have fields : ∀ (xs : List AV) (fs : List Field) (b : Bool), aeq.aeqFields (aeq P d) P xs xs fs = some b → b = true := by
      intro xs fs
      induction fs with
      | nil => intro b h; simp only [aeq.aeqFields, Option.some.injEq] at h; exact h.symm
      | cons f fs ih2 =>
        intro b h
        simp only [aeq.aeqFields] at h
        split at h
        · cases h1 : partA P f.type xs f.offset with
          | none => rw [h1] at h; cases h
          | some a =>
            rw [h1] at h
            simp only at h
            cases h2 : aeq P d f.type a a with
            | none => rw [h2] at h; cases h
            | some r =>
              rw [h2] at h
              simp only at h
              cases h3 : aeq.aeqFields (aeq P d) P xs xs fs with
              | none => rw [h3] at h; cases h
              | some s =>
                rw [h3] at h
                simp only [Option.some.injEq] at h
                rw [← h, ih _ _ _ h2, ih2 _ h3]; rfl
        · exact ih2 b h
    have items : ∀ (xs : List AV) (e : TypeId) (sz : Nat) (n i : Nat) (b : Bool), aeq.aeqItems (aeq P d) P xs xs e sz n i = some b → b = true := by
      intro xs e sz n
      induction n with
      | zero => intro i b h; simp only [aeq.aeqItems, Option.some.injEq] at h; exact h.symm
      | succ n ih2 =>
        intro i b h
        simp only [aeq.aeqItems] at h
        cases h1 : partA P e xs (i * sz) with
        | none => rw [h1] at h; cases h
        | some a =>
          rw [h1] at h
          simp only at h
          cases h2 : aeq P d e a a with
          | none => rw [h2] at h; cases h
          | some r =>
            rw [h2] at h
            simp only at h
            cases h3 : aeq.aeqItems (aeq P d) P xs xs e sz n (i + 1) with
            | none => rw [h3] at h; cases h
            | some s =>
              rw [h3] at h
              simp only [Option.some.injEq] at h
              rw [← h, ih _ _ _ h2, ih2 _ _ h3]; rfl
    unfold aeq at h
    split at h
    all_goals first
      | (cases h; done)
      | (rename_i hq; cases hq; done)
      | (rename_i hq; cases hq; simp only [beq_self_eq_true, Option.some.injEq] at h; exact h.symm)
      | (rename_i hq; cases hq; simp only [Option.some.injEq] at h; rw [← h]; exact (Cr.ba_beq _ _).2 rfl)
      | (rename_i hq; cases hq; simp only [Option.some.injEq] at h; exact h.symm)
      | (rename_i hq
         cases hq
         split at h
         · simp only [beq_self_eq_true, Option.some.injEq] at h; exact h.symm
         · cases h)
      | (rename_i hq
         cases hq
         split at h
         · cases h
         · exact fields _ _ _ h)
      | (rename_i hq
         cases hq
         split at h
         · exact items _ _ _ _ _ _ h
         · cases h)
end Go.Proofs.YtdojnnlhaiennaaGreat.Ae
namespace Go.Proofs.YtdojnnlhaiennaaGreat.Tp
open Go Go.Proofs.YtdojnnlhaiennaaGreat.Ae Go.Proofs.YtdojnnlhaiennaaGreat.Fx Go.Proofs.YtdojnnlhaiennaaGreat.Cs
open Go.Proofs.YtdojnnlhaiennaaGreat.Te (Rd Tell)
open Go.Proofs.YtdojnnlhaiennaaGreat.Md (J)

/-- Crafts compared. -/
noncomputable def aeqB (l l' : List AV) : Bool := (aeq Tryz.prog 10000 44 (.agg l) (.agg l')).getD false
theorem aeqB_refl (c : Cft) : aeqB c.av c.av = true := by
  have h : (aeq Tryz.prog 10000 44 (.agg c.av) (.agg c.av)).isSome = true := by kernel_rfl
  obtain ⟨b, hb⟩ := Option.isSome_iff_exists.1 h
  unfold aeqB
  rw [hb, aeq_refl _ _ _ _ hb]; rfl

noncomputable def eaB : Code := bodyOf Tryz.prog 8
noncomputable def eaL : Code := Code.nav [1, 1, 1, 0, 1, 2, 3] eaB
def envEa (sc : Cft → ByteArray → Bool) (sp : Cft → Int → ByteArray → Sres) (tc : ByteArray → Bool) (td : ByteArray → Rd) (hc : Cft → ByteArray → Bool) (hv : Cft → Cft → Tell → ByteArray → Bool) : Env :=
  [(13, .pure (stpK sc) (stpG sp)), (25, .pure (toldC tc) (toldF td)), (9, .pure (holdsC hc) (holdsF hv))]
def clampv (x : Int) : Int := if (1000000 : Int) < (if (-1000000 : Int) > x then -1000000 else x) then 1000000 else (if (-1000000 : Int) > x then -1000000 else x)
def later (t x : Int) : Int := wr .i64 (t + clampv x)
section
variable (sc : Cft → ByteArray → Bool) (sp : Cft → Int → ByteArray → Sres) (tc : ByteArray → Bool) (td : ByteArray → Rd) (hc : Cft → ByteArray → Bool) (hv : Cft → Cft → Tell → ByteArray → Bool)
variable (bg : Int) (rt : TypeId) (oo : Obj) (o n cp : Nat) (a : Nat → Int) (b : Nat → ByteArray) (c : Cft) (t i : Int) (B : AB)
abbrev cl : AV := .fn 9 []
theorem ea_0 : acode Tryz.prog [] 100 60 (Code.nav [0] eaB) [(0, .agg (plA bg o n cp)), (1, cl)] [B] (keepK [1, 2]) = some (.normal, [(1, cl), (2, .ptr 1 0)], [B, plB bg o n cp]) := by kernel_rfl
theorem ea_1 : acode Tryz.prog [] 100 60 (Code.nav [1, 0] eaB) [(1, cl), (2, .ptr 1 0)] [B, plB bg o n cp] (keepK [1, 2, 5]) = some (.normal, [(1, cl), (2, .ptr 1 0), (5, .ptr 2 0)], [B, plB bg o n cp, cB Cft.zero]) := by kernel_rfl
theorem ea_2 (C : AB) : acode Tryz.prog [] 100 60 (Code.nav [1, 1, 0] eaB) [(1, cl), (2, .ptr 1 0), (5, .ptr 2 0)] [B, plB bg o n cp, C] (keepK [1, 2, 5, 6]) = some (.normal, [(1, cl), (2, .ptr 1 0), (5, .ptr 2 0), (6, J bg)], [B, plB bg o n cp, C]) := by kernel_rfl
abbrev eaT (t i : Int) : List (Nat × AV) := [(1, cl), (2, .ptr 1 0), (4, .any), (5, .ptr 2 0), (6, J t), (16, .slice 0 o n cp), (17, J n), (18, J i)]
abbrev eaH (c : Cft) : List AB := [recB rt oo o a b n, plB bg o n cp, cB c]
theorem ea_3 (C : AB) : acode Tryz.prog [] 100 60 (Code.nav [1, 1, 1, 0, 0] eaB) [(1, cl), (2, .ptr 1 0), (5, .ptr 2 0), (6, J bg)] [B, plB bg o n cp, C] (keepK [1, 2, 4, 5, 6, 16, 17, 18]) = some (.normal, eaT o n cp bg 0, [B, plB bg o n cp, C]) := by kernel_rfl
theorem ea_5 (T : List AB) : acode Tryz.prog [] 100 60 (Code.nav [1, 1, 1, 1] eaB) [] (B :: T) (keepK [4]) = some (.ret, [(4, .bool true)], B :: T) := by kernel_rfl
def eaNo (t : Int) : Option St3 := some (.ret, [(1, cl), (2, .ptr 1 0), (4, .bool false), (5, .ptr 2 0), (6, J t), (16, .slice 0 o n cp), (17, J n), (18, J i)], eaH bg rt oo o n cp a b c)
def eaGo (t : Int) (c : Cft) : Option St3 := some (.normal, eaT o n cp t (wr .i64 (i + 1)), eaH bg rt oo o n cp a b c)
noncomputable def eaR (r : Sres) (b' : ByteArray) (t : Int) : Option St3 :=
  bif r.out == Cr.eS then (bif !(aeqB r.c.av c.av) then eaNo bg rt oo o n cp a b c i t else eaGo bg rt oo o n cp a b i t c)
  else bif tc r.out then
    (bif !(td r.out).ok then eaNo bg rt oo o n cp a b c i t
    else bif hc (nm c) b' then (bif (bif false then true else !(hv (nm c) (nm r.c) (td r.out).t b')) then eaNo bg rt oo o n cp a b c i t else eaGo bg rt oo o n cp a b i t r.c) else none)
  else none
theorem ea_round : acode Tryz.prog (envEa sc sp tc td hc hv) 100 60 eaL (eaT o n cp t i) (eaH bg rt oo o n cp a b c) (keepL [1, 2, 4, 5, 6, 16, 17, 18] 3) =
    bif decide (i < (n : Int)) then
      bif decide (0 ≤ i) && decide (i < (n : Int)) then
        bif (Nat.beq 2 2 && Nat.ble 1 2 && Nat.ble o (o + i.toNat * 2) && Nat.beq ((o + i.toNat * 2 - o) % 2) 0 && Nat.ble (oJ o i + 1) n) then
          bif sc (nm c) (b (oJ o i)) then eaR tc td hc hv bg rt oo o n cp a b c i (sp (nm c) (later t (a (oJ o i))) (b (oJ o i))) (b (oJ o i)) (later t (a (oJ o i))) else none
        else none
      else none
    else some (.exit 0, eaT o n cp t i, eaH bg rt oo o n cp a b c) := by kernel_rfl
end

/-! ### A round holds -/
theorem scan_left : ∀ (t : ByteArray) (fs : List Cr.Frm) (o : Nat), (Cr.scanP t fs o).left.size ≤ t.size := by
  have key : ∀ (n : Nat) (t : ByteArray) (fs : List Cr.Frm) (o : Nat), t.size ≤ n → (Cr.scanP t fs o).left.size ≤ t.size := by
    intro n
    induction n with
    | zero =>
      intro t fs o h
      rw [Cr.scanP, if_pos (by omega)]
      exact Nat.zero_le _
    | succ n ih =>
      intro t fs o h
      rw [Cr.scanP]
      by_cases h0 : t.size = 0
      · rw [if_pos h0]; exact Nat.zero_le _
      rw [if_neg h0]
      have h1 := Cr.tail_size t 1
      have hf : 5 ≤ Cr.fln t := by unfold Cr.fln; omega
      have h2 := Cr.tail_size t (Cr.fln t)
      have g1 := ih (Cr.tailB t 1) fs (o + 1) (by omega)
      have g2 := ih (Cr.tailB t (Cr.fln t)) (fs ++ [Cr.frm (t.extract 0 (Cr.fln t))]) o (by omega)
      repeat' split
      all_goals first
        | exact Nat.le_refl _
        | omega
  intro t fs o
  exact key t.size t fs o (Nat.le_refl _)
theorem orr_nm (c : Cft) (n : Int) : orrOf (nm c) n = orrOf c n := by
  unfold orrOf
  rw [nm_ack, nm_err, nm_placed, nm_el]
theorem st_orr (c : Cft) (t : Int) (b : ByteArray) : orrOf (stH c t b).c (stH c t b).s.sn.order = (scF (c.left ++ b)).foldl frmR (orrOf c 0) ∧ (stH c t b).c.left = lfP (c.left ++ b) := by
  unfold stH
  have h1 := hear_orr (nm c) (nms (st1 c t)) b
  have h2 := (hear_left (nm c) (nms (st1 c t)) b).1
  rw [orr_nm, nm_left, nms_sn] at h1
  rw [nm_left] at h2
  exact ⟨h1, h2⟩
theorem elEq_refl' (x : Orb.El) : Orb.elEq x x = true := Orb.elEq_refl x
/-- What is held of a step is so. -/
theorem held {c : Cft} {t : Int} (b : ByteArray) : woP c (nm (nextP (stH c t b) t)) (tellT (nm (nextP (stH c t b) t)) (nms (sawP (stH c t b)))) b = true := by
  obtain ⟨h1, h2⟩ := st_orr c t b
  unfold woP
  rw [← h1, ← h2]
  generalize stH c t b = h
  obtain ⟨k1, k2, k3, k4, k5, k6⟩ := next_keeps h t
  have hs : ¬ (h.s.sn.order = 1 ∧ (nm (nextP h t)).pl.mode ≠ 3) := fun hh => hh.2 (by rw [nm_pl]; exact next_safe h t hh.1)
  unfold woV
  have e1 : (bif (orrOf h.c h.s.sn.order).order == 1 then (nm (nextP h t)).pl.mode != 3 else false) = false := by
    show (bif h.s.sn.order == 1 then (nm (nextP h t)).pl.mode != 3 else false) = false
    by_cases ho : h.s.sn.order = 1
    · rw [show (h.s.sn.order == 1) = true by rw [ho]; rfl, bt]
      have : (nm (nextP h t)).pl.mode = 3 := by rw [nm_pl]; exact next_safe h t ho
      rw [this]; rfl
    · rw [show (h.s.sn.order == 1) = false from beq_eq_false_iff_ne.2 ho, bf]
  rw [e1, bf]
  have a1 : (tellT (nm (nextP h t)) (nms (sawP h))).a = (orrOf h.c h.s.sn.order).ack := by
    show (nm (nextP h t)).ack = h.c.ack
    rw [nm_ack, k4]
  have a2 : (tellT (nm (nextP h t)) (nms (sawP h))).e = (orrOf h.c h.s.sn.order).err := by
    show (nm (nextP h t)).err = h.c.err
    rw [nm_err, k5]
  have a3 : (nm (nextP h t)).placed = (orrOf h.c h.s.sn.order).placed := by rw [nm_placed, k2]; rfl
  have a4 : (nm (nextP h t)).el = (orrOf h.c h.s.sn.order).el := by rw [nm_el, k3]; rfl
  have a5 : (nm (nextP h t)).left = h.c.left := by rw [nm_left, k1]
  rw [a1, a2, a3, a4, a5]
  rw [show ((orrOf h.c h.s.sn.order).ack == (orrOf h.c h.s.sn.order).ack) = true from beq_self_eq_true _, bt,
    show ((orrOf h.c h.s.sn.order).err == (orrOf h.c h.s.sn.order).err) = true from beq_self_eq_true _, bt,
    show ((orrOf h.c h.s.sn.order).placed == (orrOf h.c h.s.sn.order).placed) = true from beq_self_eq_true _, bt, elEq_refl', bt]
  exact (Cr.ba_beq _ _).2 rfl
structure Good (c : Cft) (k : Nat) : Prop where
  inv : Inv c
  left : c.left.size ≤ k
theorem Good.fits {c : Cft} {k : Nat} (h : Good c k) {b : ByteArray} (hk : k + b.size ≤ 90000) : stepC (nm c) b = true ∧ fitP (nm c) b = true := by
  have h1 : fitP (nm c) b = true := by
    unfold fitP
    rw [nm_left]
    have := h.left
    exact Nat.ble_eq_true_of_le (by omega)
  unfold stepC
  rw [h1, nm_pl, h.inv.mode]
  exact ⟨rfl, rfl⟩
theorem Good.step {c : Cft} {k : Nat} (h : Good c k) (t : Int) (b : ByteArray) : Good (stepP (nm c) t b).c (k + b.size) := by
  cases hi : idle (nm c) t with
  | true =>
    unfold stepP
    rw [if_pos hi]
    exact ⟨h.inv.nm, by rw [nm_left]; have := h.left; omega⟩
  | false =>
    obtain ⟨h1, h2, _⟩ := step_told b h.inv.nm hi
    rw [h1]
    refine ⟨h2.next t, ?_⟩
    rw [(next_keeps _ t).1, (st_orr (nm c) t b).2, nm_left]
    have h3 := scan_left (c.left ++ b) [] 0
    have h4 : (c.left ++ b).size = c.left.size + b.size := ByteArray.size_append
    have := h.left
    show (Cr.scanP (c.left ++ b) [] 0).left.size ≤ _
    omega
/-- A round goes on. -/
theorem eaR_go {c : Cft} {k : Nat} (h : Good c k) (bg : Int) (rt : TypeId) (oo : Obj) (o n cp : Nat) (a : Nat → Int) (b : Nat → ByteArray) (i : Int) (b' : ByteArray) (t : Int) (hk : k + b'.size ≤ 90000) :
    ∃ c', Good c' (k + b'.size) ∧ eaR szOk toldP fitP woP bg rt oo o n cp a b c i (stepP (nm c) t b') b' t = eaGo bg rt oo o n cp a b i t c' := by
  have hg := h.step t b'
  unfold eaR
  cases hi : idle (nm c) t with
  | true =>
    have e : stepP (nm c) t b' = ⟨nm c, Cr.eS⟩ := by unfold stepP; rw [if_pos hi]
    rw [e]
    refine ⟨c, ⟨h.inv, by have := h.left; omega⟩, ?_⟩
    rw [show (Cr.eS == Cr.eS) = true from (Cr.ba_beq _ _).2 rfl, bt]
    show (bif !(aeqB (nm c).av c.av) then _ else _) = _
    rw [nm_av, aeqB_refl]
    rfl
  | false =>
    obtain ⟨h1, _, h3, h4, _⟩ := step_told b' h.inv.nm hi
    have hh := held (c := nm c) (t := t) b'
    refine ⟨_, hg, ?_⟩
    rw [h1]
    show (bif (outP (stH (nm c) t b') t == Cr.eS) then _ else _) = _
    have hne : (outP (stH (nm c) t b') t == Cr.eS) = false := by
      rw [← Bool.not_eq_true]
      intro hc
      exact szOk_ne h3 ((Cr.ba_beq _ _).1 hc)
    rw [hne, bf, h3, bt, h4]
    rw [show (!(⟨tellT (nm (nextP (stH (nm c) t b') t)) (nms (sawP (stH (nm c) t b'))), true⟩ : Rd).ok) = false from rfl, bf, (h.fits hk).2, bt, hh]
    rfl
end Go.Proofs.YtdojnnlhaiennaaGreat.Tp

/- A region in which one function is called by a contract whose guard sees memory. Conditions: that contract. -/
namespace Go.Proofs.YtdojnnlhaiennaaGreat.Ae
open Go

/-- A contract with a guard that sees memory. -/
def GuardOk (P : Program) (f : FuncId) (G : List AV → List AB → Bool) (F : List AV → List AB → Option (AV × List AB)) : Prop := ∀ args H v H', G args H = true → F args H = some (v, H') → ∀ m (Args : Array Value) w, RL m args Args.toList → HR m H w →
  Calls P f Args w fun e w' => ∃ V m', e = .returned V ∧ R m' v V ∧ HR m' H' w' ∧ Ext m w m' w'
def dcG {ρ : Type} (f : FuncId) (G : List AV → List AB → Bool) (F : List AV → List AB → Option (AV × List AB)) (fid : FuncId) (args : List AV) (H : List AB) (K : AV → List AB → Option ρ) : Option ρ :=
  bif Nat.beq fid f then
    bif G args H then
      match F args H with
      | some (v, H') => K v H'
      | none => none
    else none
  else none
theorem dcG_DC {P : Program} {f : FuncId} {G : List AV → List AB → Bool} {F : List AV → List AB → Option (AV × List AB)} (he : EnterOk P f) (hf : GuardOk P f G F) {ρ : Type} : DC P (dcG (ρ := ρ) f G F) := by
  intro fid args H K r h m Args w hA hH
  unfold dcG at h
  cases hfid : Nat.beq fid f with
  | false => rw [hfid] at h; cases h
  | true =>
    rw [hfid] at h
    simp only [cond_true] at h
    obtain rfl := Nat.eq_of_beq_eq_true hfid
    cases hG : G args H with
    | false => rw [hG] at h; cases h
    | true =>
      rw [hG] at h
      simp only [cond_true] at h
      split at h
      · rename_i v H' hv
        exact .inr ⟨he Args w, (hf args H v H' hG hv m Args w hA hH).mono fun e w' ⟨V, m', e1, e2, e3, e4⟩ => ⟨v, V, m', H', e1, e2, e3, e4, h⟩⟩
      · cases h
def Code.isReg : Code → Bool
  | .region _ _ false => true
  | _ => false
def regOps : Code → Array Oper
  | .region _ ops _ => ops
  | _ => #[]
def keepR (ks : List Nat) (T : List (Nat × AV)) (H : List AB) : Option (List (Nat × AV) × List AB) := some (ks.map fun k => (k, get T k), H)
theorem At.region {P : Program} {f : FuncId} {G : List AV → List AB → Bool} {F : List AV → List AB → Option (AV × List AB)} (he : EnterOk P f) (hf : GuardOk P f G F) (ks : List Nat) {m0 : List Nat} {w0 : World} {n : Nat} {c : Code} (hc : Code.isReg c = true) {T T' : List (Nat × AV)} {H H' : List AB}
    (h : aops P (dcG f G F) (regOps c) n (regOps c).toList T H (keepR ks) = some (T', H')) {Q : Exit → Act → World → Prop} {a : Act} {w : World} (hs : At m0 w0 n T H a w)
    (hQ : ∀ a' w', At m0 w0 n T' H' a' w' → Q .normal a' w') : c.wp P Q a w := by
  match c, hc, h with
  | .region id ops false, hc, h =>
    obtain ⟨⟨m, h1, h2, h3⟩, h4⟩ := hs
    have := aops_ok (P := P) (Q := Q) (ops := ops) (n := n) (dcG_DC he hf) ops.toList 0 (by simp [regOps]) m T H a w h h1 h2 (fun T2 H2 a' m' w' q1 q2 q3 q4 q5 => by
      cases q5
      refine hQ a' w' ⟨⟨m', ⟨q1.1, fun i => ?_⟩, q2, h3.trans q3⟩, q4.trans h4⟩
      rcases get_keep T2 ks i with h | h
      · rw [h]; simp only [R]
      · rw [h]; exact q1.2 i)
    refine wp_region ?_
    rw [List.range_eq_range']
    simpa [regOps] using this
/-- A guarded look at the first block. -/
theorem peek_guard {P : Program} {f : FuncId} {F : List AV → AB → Option AV} (h : EffOk P f (fun _ => true) (peekF F)) {G : List AV → List AB → Bool} {F' : List AV → List AB → Option (AV × List AB)}
    (hF : ∀ args H v H', G args H = true → F' args H = some (v, H') → peekF F args H = some (v, H')) : GuardOk P f G F' := fun args H v H' hG hv => h args H v H' rfl (hF args H v H' hG hv)
#print axioms At.region
end Go.Proofs.YtdojnnlhaiennaaGreat.Ae

/- A play, step by step; a first step; WholeOrders. Conditions: none. -/
namespace Go.Proofs.YtdojnnlhaiennaaGreat.Tp
open Go Go.Proofs.YtdojnnlhaiennaaGreat.Ae Go.Proofs.YtdojnnlhaiennaaGreat.Fx Go.Proofs.YtdojnnlhaiennaaGreat.Cs
open Go.Proofs.YtdojnnlhaiennaaGreat.Te (Rd Tell)
open Go.Proofs.YtdojnnlhaiennaaGreat.Row (ansK)
open Go.Proofs.YtdojnnlhaiennaaGreat.Md (J)

theorem en_step : EnterOk Tryz.prog 13 := enter_at (nt := 106) (res := [.cell 6 44, .tmp 7]) (by kernel_rfl)
theorem en_told : EnterOk Tryz.prog 25 := enter_of Tryz.func25 (by kernel_rfl) rfl
theorem ok_Ea : EnvOk Tryz.prog (envEa stepC stepP szOk toldP fitP woP) :=
  EnvOk.p (EnvOk.p (EnvOk.p ok_nil (enter_at (nt := 103) (res := [.tmp 8]) (by kernel_rfl)) wo_con) en_told told_con) en_step step_conK
theorem Inv.zero : Inv Cft.zero := ⟨rfl, ⟨Int.le_refl 0, (by decide : (0 : Int) ≤ 15)⟩, ⟨Int.le_refl 0, (by decide : (0 : Int) ≤ 255)⟩, ⟨Int.le_refl 0, (by decide : (0 : Int) ≤ 255)⟩, ⟨Int.le_refl 0, (by decide : (0 : Int) ≤ 65535)⟩⟩
theorem Good.zero : Good Cft.zero 0 := ⟨Inv.zero, Nat.le_refl 0⟩
def eachF (rk : Nat → (Nat → List AV) → Bool) (lv : Int → Nat → (Nat → List AV) → Bool) (args : List AV) (B : AB) : Option AV :=
  match args, B with
  | [.agg [.int .i64 bg, .slice 0 o' n' _], .fn fi []], .tabO _ o f k n _ => bif Nat.beq o' o && Nat.beq n' n && Nat.beq k 2 && Nat.beq fi 9 && rk n f && lv bg n f then some (.bool true) else none
  | _, _ => none
theorem light_is {bg : Int} {n : Nat} {b : Nat → ByteArray} (h : lightV bg n b = true) : sumB b n ≤ 3000 ∧ n ≤ 30 ∧ 0 ≤ bg ∧ bg ≤ 157766400000 := of_decide_eq_true h
theorem each_con : EffOk Tryz.prog 8 anyArgs (peekF (eachF rkP fun bg n f => lightV bg n (bOf f))) := by
  refine peek_at (nt := 60) (res := [.tmp 4]) (by kernel_rfl) fun args v B hC hF => ?_
  unfold eachF at hF
  split at hF
  · rename_i bg o' n' cp fi oo o f k n rt
    cases hb : (Nat.beq o' o && Nat.beq n' n && Nat.beq k 2 && Nat.beq fi 9 && rkP n f && lightV bg n (bOf f)) with
    | false => rw [hb] at hF; cases hF
    | true =>
      rw [hb] at hF
      simp only [cond_true, Option.some.injEq] at hF
      subst hF
      simp only [Bool.and_eq_true] at hb
      obtain ⟨⟨⟨⟨⟨h1, h2⟩, h3⟩, h5⟩, hrk⟩, hli⟩ := hb
      obtain rfl := Nat.eq_of_beq_eq_true h1
      obtain rfl := Nat.eq_of_beq_eq_true h2
      obtain rfl := Nat.eq_of_beq_eq_true h3
      obtain rfl := Nat.eq_of_beq_eq_true h5
      obtain ⟨hn, hf⟩ := rk_is hrk
      obtain ⟨hsum, hn30, _, _⟩ := light_is hli
      have hin : (AB.tabO oo o' f 2 n' rt).inL 1 0 := fun j hj => by rw [(hf j hj).1]; rfl
      refine ⟨rfl, rfl, rfl, hin, fun _ _ _ => trivial, Nat.le_of_ble_eq_true rfl, fun m1 w0 a hm h0 => ?_⟩
      have h0 : At m1 w0 60 [(0, .agg (plA bg o' n' cp)), (1, cl)] [.tabO oo o' f 2 n' rt] a w0 := h0
      have h0 := h0.tell 0 (.tabO oo o' f 2 n' rt) (recB rt oo o' (aOf f) (bOf f) n') rfl rfl (fun m o h => rk_tell hrk h) (fun _ _ _ => trivial)
      have h0 : At m1 w0 60 [(0, .agg (plA bg o' n' cp)), (1, cl)] [recB rt oo o' (aOf f) (bOf f) n'] a w0 := h0
      refine wp_as eaB rfl ?_
      refine wp_seqN (by kernel_rfl) (wp_as (Code.nav [0] eaB) (by kernel_rfl) (At.codeK ok_nil 100 [1, 2] (ea_0 bg o' n' cp (recB rt oo o' (aOf f) (bOf f) n')) h0 fun a w hs => then_normal ?_))
      refine wp_seqN (by kernel_rfl) (wp_as (Code.nav [1, 0] eaB) (by kernel_rfl) (At.codeK ok_nil 100 [1, 2, 5] (ea_1 bg o' n' cp _) hs fun a w hs => then_normal ?_))
      refine wp_seqN (by kernel_rfl) (wp_as (Code.nav [1, 1, 0] eaB) (by kernel_rfl) (At.codeK ok_nil 100 [1, 2, 5, 6] (ea_2 bg o' n' cp _ _) hs fun a w hs => then_normal ?_))
      refine wp_seqN (by kernel_rfl) (wp_as (Code.nav [1, 1, 1, 0] eaB) (by kernel_rfl) ?_)
      refine wp_seqN (by kernel_rfl) (wp_as (Code.nav [1, 1, 1, 0, 0] eaB) (by kernel_rfl) (At.codeK ok_nil 100 [1, 2, 4, 5, 6, 16, 17, 18] (ea_3 bg o' n' cp _ _) hs fun a w hs => then_normal ?_))
      refine wp_blockN 0 (by kernel_rfl) (wp_as (.loop eaL) (by kernel_rfl) ?_)
      refine At.loop (σ := Nat × Cft × Int) (fun x a w => x.1 ≤ n' ∧ Good x.2.1 (sumB (bOf f) x.1) ∧ At m1 w0 60 (eaT o' n' cp x.2.2 x.1) (eaH bg rt oo o' n' cp (aOf f) (bOf f) x.2.1) a w) (fun x => n' - x.1) ?_ (0, Cft.zero, bg) ⟨Nat.zero_le _, Good.zero, hs⟩
      rintro ⟨i, c, t⟩ a w ⟨hi, hg, hA⟩
      simp only at hi hg hA
      have hraw := ea_round stepC stepP szOk toldP fitP woP bg rt oo o' n' cp (aOf f) (bOf f) c t i
      have hj : oJ o' (i : Int) = i := by unfold oJ; rw [Int.toNat_natCast]; omega
      by_cases hlt : i < n'
      · have hz := sumB_le (bOf f) (show i + 1 ≤ n' by omega)
        have hz' : sumB (bOf f) (i + 1) = sumB (bOf f) i + (bOf f i).size := rfl
        rw [hj] at hraw
        rw [decide_eq_true (by omega : (i : Int) < n'), decide_eq_true (by omega : 0 ≤ (i : Int)), Nat.ble_eq_true_of_le (by omega : o' ≤ o' + (i : Int).toNat * 2), Nat.ble_eq_true_of_le (by omega : i + 1 ≤ n'), show Nat.beq ((o' + (i : Int).toNat * 2 - o') % 2) 0 = true by rw [Nat.add_sub_cancel_left, Nat.mul_mod_left]; rfl] at hraw
        obtain ⟨c', hg', he⟩ := eaR_go hg bg rt oo o' n' cp (aOf f) (bOf f) i (bOf f i) (later t (aOf f i)) (by omega)
        rw [(hg.fits (b := bOf f i) (by omega)).1, he] at hraw
        refine At.codeKL ok_Ea 100 [1, 2, 4, 5, 6, 16, 17, 18] 3 hraw hA fun X a w hs => then_normal ⟨(i + 1, c', later t (aOf f i)), by simp only; omega, by simp only; omega, hg', ?_⟩
        refine hs.keep (by rw [hm]; exact Nat.le_of_ble_eq_true rfl) (by simp) ⟨⟨rfl, rfl⟩, ⟨rfl, rfl⟩, ⟨rfl, rfl⟩, ⟨rfl, rfl⟩, ⟨rfl, rfl⟩, ⟨rfl, rfl⟩, ⟨rfl, rfl⟩, ⟨?_, rfl⟩, trivial⟩ ⟨.inr ⟨rfl, fun j _ => rfl⟩, .inr ⟨rfl, plA_trunc bg o' n' cp 3 (Nat.le_of_ble_eq_true rfl)⟩, .inr ⟨rfl, cav_trunc _ _⟩, trivial⟩
        show J (wr .i64 ((i : Int) + 1)) = J ((i + 1 : Nat) : Int)
        rw [Cr.w_of (by omega)]
        rfl
      · have : i = n' := by omega
        subst this
        rw [decide_eq_false (by omega : ¬ (i : Int) < i)] at hraw
        refine At.codeKL ok_Ea 100 [1, 2, 4, 5, 6, 16, 17, 18] 3 hraw hA fun X a w hs => then_exit (inBlock_exit (then_normalN ?_))
        have hs : At m1 w0 60 [] [recB rt oo o' (aOf f) (bOf f) i, plB bg o' i cp, cB c] a w := hs.keep (by rw [hm]; exact Nat.le_of_ble_eq_true rfl) (by simp) trivial ⟨.inr ⟨rfl, fun j _ => rfl⟩, .inr ⟨rfl, plA_trunc bg o' i cp 3 (Nat.le_of_ble_eq_true rfl)⟩, .inr ⟨rfl, cav_trunc _ _⟩, trivial⟩
        refine wp_as (Code.nav [1, 1, 1, 1] eaB) (by kernel_rfl) (At.codeK ok_nil 100 [4] (ea_5 _ _) hs fun a w hs => ?_)
        exact ⟨.inr rfl, _, _, _, hs.tell 0 (recB rt oo o' (aOf f) (bOf f) i) (.tabO oo o' f 2 i rt) rfl rfl (fun m o h => rk_back hrk h) (fun _ _ _ => trivial), rfl, rfl⟩
  · cases hF
#print axioms each_con

/-! ### A first step -/
theorem ok_Li : EnvOk Tryz.prog (envLi stepC stepP szOk toldP) := EnvOk.p (EnvOk.p ok_nil en_told told_con) en_step step_conK
theorem zero_idle : idle (nm Cft.zero) 5 = false := by kernel_rfl
theorem zero_hear : (stH (nm Cft.zero) 5 Cr.eS).rd = (fun _ => none) ∧ (stH (nm Cft.zero) 5 Cr.eS).c.pl = Md.Pl.zero ∧ (stH (nm Cft.zero) 5 Cr.eS).s.sn.order = 0 := by
  have e0 : (nm (nm Cft.zero)).left ++ Cr.eS = Cr.eS := by
    rw [nm_left, nm_left]; rfl
  have es : Cr.scanP Cr.eS [] 0 = ⟨[], Cr.eS, 0⟩ := by rw [Cr.scanP, if_pos (show Cr.eS.size = 0 from rfl)]
  have e1 : scF Cr.eS = [] := by unfold scF; rw [es]
  have e2 : ovP Cr.eS = 0 := by unfold ovP; rw [es]; rfl
  unfold stH hearP
  rw [e0, e1, e2, if_neg (by decide)]
  refine ⟨rfl, ?_, ?_⟩
  · show (nm (nm Cft.zero)).pl = _
    rw [nm_pl, nm_pl]; rfl
  · show (nms (st1 (nm Cft.zero) 5)).sn.order = 0
    rw [nms_sn]; rfl
theorem zero_mode (h : Hst) (hr : h.rd = fun _ => none) (hp : h.c.pl = Md.Pl.zero) (ho : h.s.sn.order = 0) (t : Int) : (nextP h t).pl.mode = 0 := by
  have hl := ((guess_like h).trans (Like.nm (guessP h))).pl
  have hk := saw_keeps h
  have hn : (Md.nextP (nm (guessP h)).pl (nms (sawP h)).sn).mode = 0 := by
    rw [hl, hp, nms_sn]
    unfold Md.nextP
    rw [if_neg (by rw [hk.2.1, ho]; decide), if_neg (by decide), if_pos (show Md.Pl.zero.mode = 0 from rfl)]
    have hgy : (sawP h).sn.gy = false := by
      rw [hk.2.2.2, hr]; rfl
    rw [hgy]
    rfl
  show (planP (nm (guessP h)) (nms (sawP h))).pl.mode = 0
  rcases plan_pl (nm (guessP h)) (nms (sawP h)) with e | ⟨e, _⟩
  · rw [e]; exact hn
  · rw [hn] at e; cases e
theorem lights_con : PureOk Tryz.prog 6 anyArgs (fun args => match args with | [] => some (.bool true) | _ => none) := by
  refine pure_of ok_Li 60 _ _ _ ?_
  rintro args v - h
  split at h
  · cases h
    refine ⟨rfl, rfl, (lights_raw stepC stepP szOk toldP).trans ?_⟩
    obtain ⟨h1, _, h3, h4, h5⟩ := step_told (c := nm Cft.zero) (t := 5) Cr.eS Inv.zero.nm zero_idle
    obtain ⟨z1, z2, z3⟩ := zero_hear
    have hm := zero_mode _ z1 z2 z3 5
    have hc := (Good.zero.fits (b := Cr.eS) (by decide)).1
    rw [hc, h1]
    show lightsT true (szOk (outP (stH (nm Cft.zero) 5 Cr.eS) 5)) (nextP (stH (nm Cft.zero) 5 Cr.eS) 5).on (toldP (outP (stH (nm Cft.zero) 5 Cr.eS) 5)) = _
    rw [h3, h4]
    unfold lightsT
    rw [bt, bt]
    have t1 : (tellT (nm (nextP (stH (nm Cft.zero) 5 Cr.eS) 5)) (nms (sawP (stH (nm Cft.zero) 5 Cr.eS)))).m = 0 := by
      show (nm (nextP (stH (nm Cft.zero) 5 Cr.eS) 5)).pl.mode = 0
      rw [nm_pl, hm]
    have t2 : (tellT (nm (nextP (stH (nm Cft.zero) 5 Cr.eS) 5)) (nms (sawP (stH (nm Cft.zero) 5 Cr.eS)))).t = 5 := by
      show (nms (sawP (stH (nm Cft.zero) 5 Cr.eS))).tick = 5
      rw [nms_tick, h5]
    rw [show (nextP (stH (nm Cft.zero) 5 Cr.eS) 5).on = true from rfl, bt]
    simp only
    rw [t1, t2]
    rfl
  · cases h
#print axioms lights_con

/-! ### The law -/
/-! ### Their guards told apart -/
def liG (rk : Nat → (Nat → List AV) → Bool) (args : List AV) (H : List AB) : Bool :=
  match args, H with
  | [.agg [.int .i64 _, .slice 0 o' n' _]], .tabO _ o f k n _ :: _ => Nat.beq o' o && Nat.beq n' n && Nat.beq k 2 && rk n f
  | _, _ => false
def liV (lv : Int → Nat → (Nat → List AV) → Bool) (args : List AV) (H : List AB) : Option (AV × List AB) :=
  match args, H with
  | [.agg [.int .i64 bg, .slice 0 _ _ _]], .tabO oo o f k n t :: r => some (.bool (lv bg n f), .tabO oo o f k n t :: r)
  | _, _ => none
theorem light_g : GuardOk Tryz.prog 7 (liG rkP) (liV fun bg n f => lightV bg n (bOf f)) := peek_guard light_con fun args H v H' hG hv => by
  unfold liV at hv
  split at hv
  · rename_i bg o' n' cp oo o f k n t r
    have hG : (Nat.beq o' o && Nat.beq n' n && Nat.beq k 2 && rkP n f) = true := hG
    cases hv
    show (match (bif Nat.beq o' o && Nat.beq n' n && Nat.beq k 2 && rkP n f then some (AV.bool (lightV bg n (bOf f))) else none) with | some v => some (v, AB.tabO oo o f k n t :: r) | none => none) = _
    rw [hG]; rfl
  · cases hv
def eaG (rk : Nat → (Nat → List AV) → Bool) (lv : Int → Nat → (Nat → List AV) → Bool) (args : List AV) (H : List AB) : Bool :=
  match args, H with
  | [.agg [.int .i64 bg, .slice 0 o' n' _], .fn fi []], .tabO _ o f k n _ :: _ => Nat.beq o' o && Nat.beq n' n && Nat.beq k 2 && Nat.beq fi 9 && rk n f && lv bg n f
  | _, _ => false
def eaV (args : List AV) (H : List AB) : Option (AV × List AB) :=
  match args, H with
  | [.agg [.int .i64 _, .slice 0 _ _ _], .fn _ []], .tabO oo o f k n t :: r => some (.bool true, .tabO oo o f k n t :: r)
  | _, _ => none
theorem each_g : GuardOk Tryz.prog 8 (eaG rkP fun bg n f => lightV bg n (bOf f)) eaV := peek_guard each_con fun args H v H' hG hv => by
  unfold eaV at hv
  split at hv
  · rename_i bg o' n' cp fi oo o f k n t r
    have hG : (Nat.beq o' o && Nat.beq n' n && Nat.beq k 2 && Nat.beq fi 9 && rkP n f && lightV bg n (bOf f)) = true := hG
    cases hv
    show (match (bif Nat.beq o' o && Nat.beq n' n && Nat.beq k 2 && Nat.beq fi 9 && rkP n f && lightV bg n (bOf f) then some (AV.bool true) else none) with | some v => some (v, AB.tabO oo o f k n t :: r) | none => none) = _
    rw [hG]; rfl
  · cases hv
theorem en_light : EnterOk Tryz.prog 7 := enter_at (nt := 35) (res := [.tmp 2]) (by kernel_rfl)
theorem en_each : EnterOk Tryz.prog 8 := enter_at (nt := 60) (res := [.tmp 4]) (by kernel_rfl)

/-! ### The law -/
def yesL : List AV → Option AV := fun args => match args with | [] => some (.bool true) | _ => none
def envL : Env := [(6, .pure anyArgs yesL)]
theorem ok_L : EnvOk Tryz.prog envL := EnvOk.p ok_nil (enter_of Tryz.func6 (by kernel_rfl) rfl) lights_con
noncomputable def wB : Code := bodyOf Tryz.prog 3
section
variable (rk : Nat → (Nat → List AV) → Bool) (lv : Int → Nat → (Nat → List AV) → Bool) (bg : Int) (rt : TypeId) (oo : Obj) (o n cp : Nat) (f : Nat → List AV) (x : Bool) (B : AB)
theorem wl_0 : acode Tryz.prog [] 100 10 (Code.nav [0] wB) [(0, .agg (plA bg o n cp))] [B] (keepK [1]) = some (.normal, [(1, .ptr 1 0)], [B, plB bg o n cp]) := by kernel_rfl
theorem wl_1 : acode Tryz.prog envL 100 10 (Code.nav [1, 0] wB) [(1, .ptr 1 0)] [B, plB bg o n cp] (keepK [1]) = some (.normal, [(1, .ptr 1 0)], [B, plB bg o n cp]) := by kernel_rfl
theorem wl_2 : aops Tryz.prog (dcG 7 (liG rk) (liV lv)) (regOps (Code.nav [1, 1, 0, 0] wB)) 10 (regOps (Code.nav [1, 1, 0, 0] wB)).toList [(1, .ptr 1 0)] [.tabO oo o f 2 n rt, plB bg o n cp] (keepR [1, 7]) =
    bif (Nat.beq o o && Nat.beq n n && Nat.beq 2 2 && rk n f) then some ([(1, .ptr 1 0), (7, .bool (!(lv bg n f)))], [.tabO oo o f 2 n rt, plB bg o n cp]) else none := by kernel_rfl
theorem wl_3 : acode Tryz.prog [] 100 10 (Code.nav [1, 1, 0, 1] wB) [(1, .ptr 1 0), (7, .bool x)] [B, plB bg o n cp] (keepK [1, 2]) =
    bif x then some (.ret, [(1, .ptr 1 0), (2, .bool true)], [B, plB bg o n cp]) else some (.normal, [(1, .ptr 1 0), (2, .any)], [B, plB bg o n cp]) := by kernel_rfl
theorem wl_4 : aops Tryz.prog (dcG 8 (eaG rk lv) eaV) (regOps (Code.nav [1, 1, 1, 0] wB)) 10 (regOps (Code.nav [1, 1, 1, 0] wB)).toList [(1, .ptr 1 0), (2, .any)] [.tabO oo o f 2 n rt, plB bg o n cp] (keepR [2]) =
    bif (Nat.beq o o && Nat.beq n n && Nat.beq 2 2 && Nat.beq 9 9 && rk n f && lv bg n f) then some ([(2, .bool true)], [.tabO oo o f 2 n rt, plB bg o n cp]) else none := by kernel_rfl
theorem wl_5 : acode Tryz.prog [] 100 10 (Code.nav [1, 1, 1, 1] wB) [(2, .bool true)] [B, plB bg o n cp] (keepK [2]) = some (.ret, [(2, .bool true)], [B, plB bg o n cp]) := by kernel_rfl
theorem wl_nil : acall Tryz.prog [(6, .pure anyArgs yesL), (7, .text), (8, .text)] 60 3 [.agg [.int .i64 bg, .nils]] [] ansK =
    bif !(bif bif decide ((0 : Int) ≤ 30) then decide (bg ≥ 0) else false then decide (bg ≤ 157766400000) else false) then some true else some true := by kernel_rfl
end
theorem beqN (n : Nat) : Nat.beq n n = true := Nat.beq_refl n
/-- The law's body, of steps that lie in a block. -/
theorem orders_calls (bg : Int) (rt : TypeId) (oo : Obj) (o n cp : Nat) (f : Nat → List AV) (hrk : rkP n f = true) {m : List Nat} {Args : Array Value} {w : World} (hA : RL m [.agg (plA bg o n cp)] Args.toList) (hH : HR m [.tabO oo o f 2 n rt] w) :
    Calls Tryz.prog 3 Args w fun e w' => e = .returned (.bool true) ∧ ∃ m', Ext m w m' w' ∧ HR m [.tabO oo o f 2 n rt] w' := by
  obtain ⟨fn, hfn, hbody, hnt, hres, _⟩ := hasBody_ok (P := Tryz.prog) (f := 3) (nt := 10) (res := [.tmp 2]) (by kernel_rfl)
  have hm : m.length = 1 := hH.len
  obtain ⟨hn, hf⟩ := rk_is hrk
  have hin : ∀ L, (AB.tabO oo o f 2 n rt).inL L 0 := fun L j hj => by rw [(hf j hj).1]; rfl
  refine calls_at (m := m) hfn hbody (by rw [hnt]; exact Nat.le_of_ble_eq_true rfl) hA hH fun a h0 => ?_
  rw [hnt] at h0 ⊢
  rw [hres]
  have h0 : At m w 10 [(0, .agg (plA bg o n cp))] [.tabO oo o f 2 n rt] a w := h0
  have fin : ∀ {e : Exit} {a' : Act} {w' : World} {T : List (Nat × AV)}, e = .ret → get T 2 = .bool true → At m w 10 T [.tabO oo o f 2 n rt, plB bg o n cp] a' w' →
      (e = .normal ∨ e = .ret) ∧ ∃ T' H' vs, At m w 10 T' H' a' w' ∧ ares Tryz.prog T' H' [.tmp 2] = some vs ∧ ∀ V m', R m' (tupOf vs) V → HR m' H' w' → Ext m w m' w' → Ending.returned V = .returned (.bool true) ∧ ∃ m', Ext m w m' w' ∧ HR m [.tabO oo o f 2 n rt] w' := by
    intro e a' w' T he hT hs
    refine ⟨.inr he, T, _, [get T 2], hs, rfl, fun V m' h1 h2 h3 => ?_⟩
    rw [hT] at h1
    simp only [tupOf, R] at h1
    rw [h1]
    refine ⟨rfl, m', h3, ?_⟩
    have hk : At m w 10 [] [.tabO oo o f 2 n rt] a' w' := hs.keep (by rw [hm]; exact Nat.le_refl _) (by simp) trivial ⟨.inr ⟨rfl, hin 1⟩, trivial⟩
    obtain ⟨⟨m2, _, q2, q3⟩, _⟩ := hk
    obtain ⟨x, hx, _⟩ := q3.pre
    have : x = [] := by
      have := q2.len
      rw [hx, List.length_append, hm] at this
      simpa using this
    rw [hx, this, List.append_nil] at q2
    exact q2
  refine wp_as wB rfl ?_
  refine wp_seqN (by kernel_rfl) (wp_as (Code.nav [0] wB) (by kernel_rfl) (At.codeK ok_nil 100 [1] (wl_0 bg o n cp (.tabO oo o f 2 n rt)) h0 fun a w hs => then_normal ?_))
  refine wp_seqN (by kernel_rfl) (wp_as (Code.nav [1, 0] wB) (by kernel_rfl) (At.codeK ok_L 100 [1] (wl_1 bg o n cp _) hs fun a w hs => then_normal ?_))
  refine wp_seqN (by kernel_rfl) (wp_as (Code.nav [1, 1, 0] wB) (by kernel_rfl) ?_)
  have r2 := wl_2 rkP (fun bg n f => lightV bg n (bOf f)) bg rt oo o n cp f
  rw [beqN, beqN, hrk] at r2
  refine wp_seqN (by kernel_rfl) (wp_as (Code.nav [1, 1, 0, 0] wB) (by kernel_rfl) (At.region en_light light_g [1, 7] (by kernel_rfl) r2 hs fun a w hs => then_normalN ?_))
  have r3 := wl_3 bg o n cp (!(lightV bg n (bOf f))) (.tabO oo o f 2 n rt)
  cases hl : lightV bg n (bOf f) with
  | false =>
    rw [hl] at r3 hs
    exact wp_as (Code.nav [1, 1, 0, 1] wB) (by kernel_rfl) (At.codeK ok_nil 100 [1, 2] r3 hs fun a w hs => then_ret (fin rfl rfl hs))
  | true =>
    rw [hl] at r3 hs
    refine wp_as (Code.nav [1, 1, 0, 1] wB) (by kernel_rfl) (At.codeK ok_nil 100 [1, 2] r3 hs fun a w hs => then_normal ?_)
    have r4 := wl_4 rkP (fun bg n f => lightV bg n (bOf f)) bg rt oo o n cp f
    rw [beqN, beqN, hrk, hl] at r4
    refine wp_seqN (by kernel_rfl) (wp_as (Code.nav [1, 1, 1, 0] wB) (by kernel_rfl) (At.region en_each each_g [2] (by kernel_rfl) r4 hs fun a w hs => then_normalN ?_))
    exact wp_as (Code.nav [1, 1, 1, 1] wB) (by kernel_rfl) (At.codeK ok_nil 100 [2] (wl_5 bg o n cp _) hs fun a w hs => fin rfl rfl hs)
#print axioms orders_calls
end Go.Proofs.YtdojnnlhaiennaaGreat.Tp

/- An argument that holds a slice of steps: how it is opened. Conditions: none. -/
namespace Go.Proofs.YtdojnnlhaiennaaGreat.Row
open Go Go.Proofs.YtdojnnlhaiennaaGreat.Ae Go.RowKit Go.ChangeShapes Go.WideShapes Go.Deep
open Go.Proofs.YtdojnnlhaiennaaGreat.Tp (rkP isRec)

section
variable {H : Type} {enc : TypeId × Value → H}
theorem weightsAll_mem {P : Program} {e : TypeId} : ∀ {ds : List (DataW H)} {d : DataW H} {n : Nat}, d ∈ ds → n ∈ d.weights P e → n ∈ DataW.weightsAll P e ds
  | [], _, _, h, _ => by cases h
  | c :: ds, d, n, h, hn => by
    simp only [DataW.weightsAll, List.mem_append]
    rcases List.mem_cons.1 h with rfl | h
    · exact .inl hn
    · exact .inr (weightsAll_mem h hn)
def intV : Value → Int
  | .int _ n => n
  | _ => 0
def strV : Value → ByteArray
  | .string s => s
  | _ => ⟨#[]⟩
set_option maxRecDepth 100000 in
theorem open_play {W : World} {b0 : Nat} {v : Value} {d : DataW H} {ps : List MemPlace} (hval : Value.okWide Tryz.prog W .any b0 24 v) (h : DataW.Trod enc Tryz.prog W 0 (fun _ => true) true 24 v d ps)
    (hw : ∀ n ∈ d.weights Tryz.prog 24, n ≤ reachBytes) :
    ∃ bg : Int, v = .agg ⟨[.int .i64 bg, .slice none 0 0]⟩ ∨ ∃ (b o n c : Nat) (ob : Obj) (rt : TypeId) (f : Nat → List AV), v = .agg ⟨[.int .i64 bg, .slice (some ⟨b, o, none⟩) n c]⟩ ∧ W.heap[b]? = some ob ∧ rkP n f = true ∧ ∀ m, RB m (.tabO ob o f 2 n rt) ob := by
  unfold Value.okWide at hval
  rw [Tryz.underlying24] at hval
  simp only at hval
  obtain ⟨cs, rfl, hsz, hrow⟩ := hval
  obtain ⟨fuel, ht⟩ := h
  have ht : DataW.trod enc Tryz.prog W 0 (fun _ => true) true fuel 24 cs.toList = some (d, ps) := ht
  obtain ⟨y0, y1, k, hx, hl, h0, h1⟩ := trod_struct2 Tryz.underlying24 ht
  have c2 : Tryz.prog.cellsOf 2 = 1 := by kernel_rfl
  have c22 : Tryz.prog.cellsOf 22 = 1 := by kernel_rfl
  have c24 : Tryz.prog.cellsOf 24 = 2 := by kernel_rfl
  rw [c24] at hl
  match hcs : cs.toList, hl with
  | [x0, x1], _ =>
    rw [hcs] at h0 h1
    simp only [c2, c22, List.drop_zero, List.take_succ_cons, List.take_zero, List.drop_succ_cons] at h0 h1
    obtain ⟨bg, e0, e0', _⟩ := DataW.trod_int Tryz.underlying2 h0
    simp only [List.cons.injEq, and_true] at e0
    subst e0
    have hcs' : cs = ⟨[.int .i64 bg, x1]⟩ := Array.toList_inj.1 hcs
    refine ⟨bg, ?_⟩
    rcases open_slice_pairs Tryz.underlying22 Tryz.underlying66 (by kernel_rfl) rfl rfl (by kernel_rfl) (by kernel_rfl) h1 with ⟨e1, _⟩ | ⟨a, len, cap, m, n', V0, V1, D0, D1, P0, P1, e1, hb, hle, hmax, hm, hy, hc⟩
    · simp only [List.cons.injEq, and_true] at e1
      subst e1
      exact .inl (by rw [hcs'])
    · simp only [List.cons.injEq, and_true] at e1
      subst e1
      simp only [if_true] at hm
      subst hm
      obtain ⟨ts, hts, _, hcell⟩ := hrow
      have hts' : Tryz.prog.cellTypes Tryz.prog.depth 24 = some [2, 22] := by kernel_rfl
      rw [hts'] at hts
      cases hts
      obtain ⟨u, hu, hok⟩ := hcell 1 (.slice (some a) len m) (by rw [hcs']; rfl)
      have hu : some 22 = some u := hu
      cases hu
      unfold Cell.okWide at hok
      rw [Tryz.underlying22] at hok
      simp only [Cell.ok] at hok
      rw [Tryz.underlying22] at hok
      simp only at hok
      obtain ⟨_, _, _, hspot, rt, cells, hshape, _⟩ := hok
      obtain ⟨b, o, sp⟩ := a
      simp only at hspot
      subst hspot
      simp only [World.shape?] at hshape
      split at hshape
      · rename_i carr el fz hheap
        have hwd : ∀ x ∈ (DataW.slice ((List.range len).map fun i => DataW.agg [D0 i, D1 i]) ((List.range (m - len)).map fun j => DataW.agg [D0 (len + j), D1 (len + j)])).weights Tryz.prog 22, x ≤ reachBytes := fun x hxm => by
          refine hw x ?_
          simp only [Prod.mk.injEq] at hx
          rw [hx.1, e0', hy]
          simp only [DataW.weights, Tryz.underlying24, List.map, DataW.weightsEach, List.nil_append, List.append_nil]
          simpa [DataW.weights] using hxm
        have hlen : len ≤ 140737488355328 := by
          have := hwd _ (by simp only [DataW.weights, Tryz.underlying22]; exact List.mem_cons_self ..)
          have hby : Tryz.prog.bytesOf 66 = 24 := by kernel_rfl
          rw [hby] at this
          have hr := reachBytes_lt
          simp only [List.length_map, List.length_range] at this
          omega
        have hV0 : ∀ i, i < len → V0 i = .int .i64 (intV (V0 i)) := fun i hi => by
          obtain ⟨q, hq, _, _⟩ := DataW.trod_int Tryz.underlying2 (hc i (by omega)).2.2.1
          simp only [List.cons.injEq, and_true] at hq
          rw [hq]; rfl
        have hV1 : ∀ i, i < len → V1 i = .string (strV (V1 i)) ∧ (strV (V1 i)).size ≤ 140737488355328 := fun i hi => by
          obtain ⟨s, hq, hq2, _⟩ := DataW.trod_string Tryz.underlying9 (hc i (by omega)).2.2.2
          simp only [List.cons.injEq, and_true] at hq
          simp only [Prod.mk.injEq] at hq2
          rw [hq]
          refine ⟨rfl, ?_⟩
          have hmem : s.data.toList.length ∈ (DataW.slice ((List.range len).map fun i => DataW.agg [D0 i, D1 i]) ((List.range (m - len)).map fun j => DataW.agg [D0 (len + j), D1 (len + j)])).weights Tryz.prog 22 := by
            simp only [DataW.weights, Tryz.underlying22]
            refine List.mem_cons_of_mem _ (List.mem_append_left _ (weightsAll_mem (d := .agg [D0 i, D1 i]) (List.mem_map.2 ⟨i, List.mem_range.2 hi, rfl⟩) ?_))
            simp only [DataW.weights, Tryz.underlying66, List.map, DataW.weightsEach]
            refine List.mem_append_right _ (List.mem_append_left _ ?_)
            rw [hq2.1]
            simp [DataW.weights]
          have := hwd _ hmem
          have hr := reachBytes_lt
          rw [Array.length_toList] at this
          show s.data.size ≤ _
          omega
        refine .inr ⟨b, o, len, m, _, el, fun i => [.int .i64 (intV (V0 i)), .str (strV (V1 i))], by rw [hcs'], hheap, ?_, fun mm => ⟨rfl, carr.toList, fz, rfl, fun i hi => ?_⟩⟩
        · unfold rkP
          rw [Nat.ble_eq_true_of_le hlen, Bool.true_and, List.all_eq_true]
          intro i hi
          exact Nat.ble_eq_true_of_le (hV1 i (List.mem_range.1 hi)).2
        · have g0 := (hc i (by omega)).1
          have g1 := (hc i (by omega)).2.1
          have ea : ∀ q, (⟨b, o, none⟩ : Addr).add q = ⟨b, o + q, none⟩ := fun q => addr_add _ _ _
          rw [ea, World.cell?, hheap] at g0 g1
          simp only [Option.isSome_none] at g0 g1
          have g0' : carr.toList[o + i * 2]? = some (V0 i) := by simpa using g0
          have g1' : carr.toList[o + i * 2 + 1]? = some (V1 i) := by simpa [Nat.add_assoc] using g1
          have l1 := (List.getElem?_eq_some_iff.1 g1').1
          refine ⟨by omega, rfl, ?_⟩
          have e : (carr.toList.drop (o + i * 2)).take 2 = [V0 i, V1 i] := by
            rw [List.drop_eq_getElem_cons (by omega), List.drop_eq_getElem_cons l1]
            rw [List.getElem?_eq_getElem (by omega)] at g0'
            rw [List.getElem?_eq_getElem l1] at g1'
            rw [Option.some.inj g0', Option.some.inj g1']
            rfl
          rw [e]
          exact RL.cons (by simp only [R]; exact hV0 i hi) (RL.cons (by simp only [R]; exact (hV1 i hi).1) (RL_nil.2 rfl))
      · cases hshape
end
end Go.Proofs.YtdojnnlhaiennaaGreat.Row

/- WholeOrders, of what came as its argument. Conditions: none. -/
namespace Go.Proofs.YtdojnnlhaiennaaGreat.Tp
open Go Go.Proofs.YtdojnnlhaiennaaGreat.Ae Go.Proofs.YtdojnnlhaiennaaGreat.Fx Go.RowKit Go.Proofs.YtdojnnlhaiennaaGreat.Row

/-- Old memory is as it was, where the one block that was known is known wholly. -/
theorem below_of {m : List Nat} {b : Nat} {w w' : World} {m' : List Nat} {ob : Obj} {o n : Nat} {rt : TypeId} {f : Nat → List AV} (hm : m = [b]) (hob : w.heap[b]? = some ob) (he : Ext m w m' w') (hh : HR m [.tabO ob o f 2 n rt] w') : Below w.heap.size w w' := by
  refine ⟨he.os, he.tape, he.output, he.size, fun k hk => ?_⟩
  by_cases hkb : k = b
  · subst hkb
    obtain ⟨b', o', h1, h2, h3, _⟩ := hh.all 0 _ rfl rfl
    rw [hm] at h1
    have h1 : some k = some b' := h1
    cases h1
    rw [h2, hob, h3.1]
  · exact he.block k hk (by rw [hm]; simpa using hkb)
theorem hr_one {b : Nat} {w : World} {ob : Obj} {o n : Nat} {rt : TypeId} {f : Nat → List AV} (hob : w.heap[b]? = some ob) (hR : ∀ m, RB m (.tabO ob o f 2 n rt) ob) : HR [b] [.tabO ob o f 2 n rt] w := by
  refine ⟨rfl, fun i j c B C h1 h2 _ _ _ _ => ?_, fun i B hB _ => ?_⟩
  · have a1 := (List.getElem?_eq_some_iff.1 h1).1
    have a2 := (List.getElem?_eq_some_iff.1 h2).1
    simp at a1 a2
    omega
  · cases i with
    | zero =>
      simp at hB
      subst hB
      exact ⟨b, ob, rfl, hob, hR [b], trivial⟩
    | succ i => simp at hB
theorem orders_walk {W : World} {v : Value} (hv : ∃ bg : Int, v = .agg ⟨[.int .i64 bg, .slice none 0 0]⟩ ∨ ∃ (b o n c : Nat) (ob : Obj) (rt : TypeId) (f : Nat → List AV), v = .agg ⟨[.int .i64 bg, .slice (some ⟨b, o, none⟩) n c]⟩ ∧ W.heap[b]? = some ob ∧ rkP n f = true ∧ ∀ m, RB m (.tabO ob o f 2 n rt) ob) :
    Calls Tryz.prog 3 #[v] W fun e w' => e = .returned (.bool true) ∧ Below W.heap.size W w' := by
  obtain ⟨bg, rfl | ⟨b, o, n, c, ob, rt, f, rfl, hob, hrk, hR⟩⟩ := hv
  · refine law_true (env := [(6, .pure anyArgs yesL), (7, .text), (8, .text)]) (EnvOk.p (EnvOk.t (EnvOk.t ok_nil en_each) en_light) (enter_of Tryz.func6 (by kernel_rfl) rfl) lights_con) (fuel := 60) ((wl_nil bg).trans ?_) (RL.cons ?_ (RL_nil.2 rfl))
    · cases (bif bif decide ((0 : Int) ≤ 30) then decide (bg ≥ 0) else false then decide (bg ≤ 157766400000) else false) <;> rfl
    · simp only [R]
      exact ⟨_, rfl, RL.cons (by simp only [R]) (RL.cons (by simp only [R]) (RL_nil.2 rfl))⟩
  · have hA : RL [b] [.agg (plA bg o n c)] (#[Value.agg ⟨[.int .i64 bg, .slice (some ⟨b, o, none⟩) n c]⟩] : Array Value).toList := by
      refine RL.cons ?_ (RL_nil.2 rfl)
      simp only [R]
      exact ⟨_, rfl, RL.cons (by simp only [R]) (RL.cons (by simp only [R]; exact ⟨b, rfl, rfl⟩) (RL_nil.2 rfl))⟩
    refine (orders_calls bg rt ob o n c f hrk hA (hr_one hob hR)).mono fun e w' ⟨h1, m', h2, h3⟩ => ⟨h1, below_of rfl hob h2 h3⟩
#print axioms orders_walk
end Go.Proofs.YtdojnnlhaiennaaGreat.Tp
