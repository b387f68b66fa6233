/- A step, piece by piece. Conditions: none. -/
import Derived.Test.YtdojnnlhaiennaaGreatKp
import Derived.Test.YtdojnnlhaiennaaGreatKj
namespace Go.Proofs.YtdojnnlhaiennaaGreat.Cs
open Go Go.Proofs.YtdojnnlhaiennaaGreat.Ae Go.Proofs.YtdojnnlhaiennaaGreat.Fx
open Go.Proofs.YtdojnnlhaiennaaGreat.Md (J Pl Sn)
open Go.Proofs.YtdojnnlhaiennaaGreat.Orb (El RO)
open Go.Proofs.YtdojnnlhaiennaaGreat.Ve (V3)
open Go.Proofs.YtdojnnlhaiennaaGreat.Qx (Ns)

noncomputable def stB : Code := bodyOf Tryz.prog 13
def nm (c : Cft) : Cft := (Cft.of c.av).getD Cft.zero
def st0 (t : Int) : Stp := ⟨t, 0, zer, zer, ⟨false, false, false, false, false, false, false, 0⟩⟩
def nms (s : Stp) : Stp := (Stp.of s.av).getD (st0 0)
theorem nm_of (c : Cft) : Cft.of c.av = some (nm c) := by
  have h : (Cft.of c.av).isSome = true := by kernel_rfl
  obtain ⟨d, hd⟩ := Option.isSome_iff_exists.1 h
  unfold nm
  rw [hd]; rfl
theorem nm_av (c : Cft) : (nm c).av = c.av := (Cft.of_av (nm_of c)).symm
theorem nms_of (s : Stp) : Stp.of s.av = some (nms s) := by
  have h : (Stp.of s.av).isSome = true := by kernel_rfl
  obtain ⟨d, hd⟩ := Option.isSome_iff_exists.1 h
  unfold nms
  rw [hd]; rfl
theorem nms_av (s : Stp) : (nms s).av = s.av := (Stp.of_av (nms_of s)).symm
def isTick (t : Int) : Bool := bif decide (0 ≤ t) then decide (t ≤ 157766400000) else false
def idle (c : Cft) (t : Int) : Bool := bif !isTick t then true else bif c.on then decide (t ≤ c.tick) else false
def gapD (c : Cft) (t : Int) : Int := wr .u64 (wr .u64 t - wr .u64 c.tick)
def gapB (c : Cft) (t : Int) : Bool := bif (bif c.on then decide (gapD c t ≥ 10) else false) then decide (gapD c t ≤ 10000) else false
def envS0 : Env := [(30, .text)]
theorem ok_S0 : EnvOk Tryz.prog envS0 := EnvOk.t ok_nil (enter_of Tryz.func30 (by kernel_rfl) rfl)
section
variable (c z : Cft) (t : Int) (b : ByteArray) (s : Stp) (G : Int → Nat → Int) (P : Int → Bool)
abbrev sT : List (Nat × AV) := [(1, J t), (2, .str b), (3, .ptr 0 0), (6, .ptr 1 0)]
abbrev sU : List (Nat × AV) := [(1, J t), (2, .str b), (3, .ptr 0 0), (6, .ptr 1 0), (8, .ptr 3 0)]
abbrev s4 (M : AB) : List AB := [cB c, cB z, M, sB s]
theorem st_0 : acode Tryz.prog [] 100 106 (Code.nav [0] stB) [(0, .agg c.av), (1, J t), (2, .str b)] [] (keepK [1, 2, 3, 6]) = some (.normal, sT t b, [cB c, cB Cft.zero]) := by kernel_rfl
theorem st_1 : acode Tryz.prog envS0 100 106 (Code.nav [1, 0] stB) (sT t b) [cB c, cB z] (keepK [1, 2, 3, 6, 7]) =
    bif idle c t then some (.ret, [(1, J t), (2, .str b), (3, .ptr 0 0), (6, .ptr 1 0), (7, .str Cr.eS)], [cB c, cB c]) else some (.normal, [(1, J t), (2, .str b), (3, .ptr 0 0), (6, .ptr 1 0), (7, .any)], [cB c, cB z]) := by kernel_rfl
theorem st_3 : acode Tryz.prog [] 100 106 (Code.nav [1, 1, 0] stB) (sT t b) [cB c, cB z] (keepK [1, 2, 3, 6, 8]) = some (.normal, sU t b, s4 c z (st0 t) (.map false [])) := by kernel_rfl
theorem st_4 : acode Tryz.prog [] 100 106 (Code.nav [1, 1, 1, 0] stB) (sU t b) (s4 c z (st0 t) (.map false [])) (keepK [1, 2, 3, 6, 8]) =
    some (.normal, sU t b, [cB c, cB z, .map false [], .cells (mergeL (gapB c t) { st0 t with gap := wr .i64 (gapD c t) }.av (st0 t).av) 104]) := by kernel_rfl
theorem st_7 (M : AB) : acode Tryz.prog [] 100 106 (Code.nav [1, 1, 1, 1, 0] stB) (sU t b) (s4 c z s M) (keepK [1, 2, 3, 6, 8]) =
    some (.normal, sU t b, s4 c z { s with sn := { s.sn with gp := s.gap == 0 } } M) := by kernel_rfl
theorem st_8 (F : List AV → List AB → Option (AV × List AB)) (M : AB) : acode Tryz.prog [(31, .eff anyArgs F)] 100 106 (Code.nav [1, 1, 1, 1, 1, 0] stB) (sU t b) (s4 c z s M) (keepK [1, 2, 3, 6, 8]) =
    match F [.ptr 3 0, .str b] (s4 c z s M) with
    | some (_, H') => some (.normal, sU t b, H')
    | none => none := by kernel_rfl
def stDs (ds : QF) : Nat → Int := (ds ((Sh.takeL [.agg (.flag :: Ns 7), Qx.V, Qx.N1] [.agg (drA c.dr), (rvec G P 3).av, J (bif P 3 then G 3 1 else 0)]).getD []) false).1
theorem st_9 (ds : QF) : acode Tryz.prog [(32, .flow FT (shF [.agg (.flag :: Ns 7), Qx.V, Qx.N1] (.agg (.flag :: Ns 7)) ds))] 100 106 (Code.nav [1, 1, 1, 1, 1, 1, 0] stB) (sU t b) (s4 c z s (.mapN 5 G P)) (keepL [1, 2, 3, 6, 8] 4) =
    bif P 3 then some (.normal, sU t b, s4 { c with dr := stDs c G P ds } z s (.mapN 5 G P)) else some (.normal, sU t b, s4 c z s (.mapN 5 G P)) := by kernel_rfl
theorem st_12 (F : List AV → List AB → Option (AV × List AB)) (M : AB) : acode Tryz.prog [(33, .eff anyArgs F)] 100 106 (Code.nav [1, 1, 1, 1, 1, 1, 1, 0] stB) (sU t b) (s4 c z s M) (keepK [1, 2, 3, 6, 8]) =
    match F [.ptr 3 0] (s4 c z s M) with
    | some (_, H') => some (.normal, sU t b, H')
    | none => none := by kernel_rfl
theorem st_13 (F : List AV → List AB → Option (AV × List AB)) (M : AB) : acode Tryz.prog [(34, .eff anyArgs F)] 100 106 (Code.nav [1, 1, 1, 1, 1, 1, 1, 1, 0] stB) (sU t b) (s4 c z s M) (keepK [1, 2, 3, 6, 8]) =
    bif (bif c.pl.mode == 2 then !s.sn.gp else false) then
      (match F [.ptr 3 0] (s4 c z s M) with
      | some (_, H') => some (.normal, sU t b, H')
      | none => none)
    else some (.normal, sU t b, s4 c z s M) := by kernel_rfl
theorem st_15 (F : List AV → List AB → Option (AV × List AB)) (M : AB) : acode Tryz.prog [(35, .eff anyArgs F)] 100 106 (Code.nav [1, 1, 1, 1, 1, 1, 1, 1, 1, 0] stB) (sU t b) (s4 c z s M) (keepK [1, 2, 3, 6, 8]) =
    match F [.ptr 3 0] (s4 c z s M) with
    | some (_, H') => some (.normal, sU t b, H')
    | none => none := by kernel_rfl
theorem st_16 (M : AB) : acode Tryz.prog [] 100 106 (Code.nav [1, 1, 1, 1, 1, 1, 1, 1, 1, 1, 0] stB) (sU t b) (s4 c z s M) (keepK [3, 6, 8]) =
    some (.normal, [(3, .ptr 0 0), (6, .ptr 1 0), (8, .ptr 3 0)], s4 { c with on := true, tick := t } z s M) := by kernel_rfl
theorem st_17 (tl : Cft → Stp → ByteArray) : acode Tryz.prog [(36, .see (tellF tl))] 100 106 (Code.nav [1, 1, 1, 1, 1, 1, 1, 1, 1, 1, 1] stB) [(3, .ptr 0 0), (6, .ptr 1 0), (8, .ptr 3 0)] (s4 c z s (.mapN 5 G P)) (keepK [6, 7]) =
    some (.ret, [(6, .ptr 1 0), (7, .str (tl (nm c) (nms s)))], s4 c c (nms s) (.mapN 5 G P)) := by kernel_rfl
end
end Go.Proofs.YtdojnnlhaiennaaGreat.Cs

/- A step: a contract. Conditions: none. -/
namespace Go.Proofs.YtdojnnlhaiennaaGreat.Cs
open Go Go.Proofs.YtdojnnlhaiennaaGreat.Ae Go.Proofs.YtdojnnlhaiennaaGreat.Fx
open Go.Proofs.YtdojnnlhaiennaaGreat.Md (J Pl Sn)
open Go.Proofs.YtdojnnlhaiennaaGreat.Orb (El RO)
open Go.Proofs.YtdojnnlhaiennaaGreat.Ve (V3)
open Go.Proofs.YtdojnnlhaiennaaGreat.Qx (Ns)

section
variable (c z : Cft) (s : Stp) (G : Int → Nat → Int) (P : Int → Bool) (b : ByteArray)
theorem nm_cB : cB (nm c) = cB c := by unfold cB; rw [nm_av]
theorem nms_sB : sB (nms s) = sB s := by unfold sB; rw [nms_av]
theorem hearF_at (ft : Cft → ByteArray → Bool) (hp : Cft → Stp → ByteArray → Hst) : hearF ft hp [.ptr 3 0, .str b] (s4 c z s (.map false [])) =
    bif ft (nm c) b then some (.tup [], [cB (hp (nm c) (nms s) b).c, cB z, rdB (hp (nm c) (nms s) b).rd, sB (hp (nm c) (nms s) b).s]) else none := by
  unfold hearF
  simp only [nm_of, nms_of, nm_cB]
  rfl
theorem lookF_at (lp : Cft → Stp → (Int → Nat → Int) → (Int → Bool) → Stp) : lookF lp [.ptr 3 0] (s4 c z s (.mapN 5 G P)) = some (.tup [], s4 c z (lp (nm c) (nms s) G P) (.mapN 5 G P)) := by
  unfold lookF
  simp only [nm_of, nms_of, nm_cB]
  rfl
theorem filtF_at (fc : Cft → Stp → (Int → Nat → Int) → (Int → Bool) → Cft) (fs : Cft → Stp → (Int → Nat → Int) → (Int → Bool) → Stp) : filtF fc fs [.ptr 3 0] (s4 c z s (.mapN 5 G P)) = some (.tup [], s4 (fc (nm c) (nms s) G P) z (fs (nm c) (nms s) G P) (.mapN 5 G P)) := by
  unfold filtF
  simp only [nm_of, nms_of, nm_cB]
  rfl
theorem planF_at (om : Int → Bool) (pp : Cft → Stp → Cft) : planF om pp [.ptr 3 0] (s4 c z s (.mapN 5 G P)) = bif om c.pl.mode then some (.tup [], s4 (pp (nm c) (nms s)) z s (.mapN 5 G P)) else none := by
  unfold planF
  simp only [nm_of, nms_of, nm_cB, nms_sB]
  rfl
end

/-! ### What a step is -/
noncomputable section
def gapV (c : Cft) (t : Int) : Int := if gapB c t = true then wr .i64 (gapD c t) else 0
def st1 (c : Cft) (t : Int) : Stp := { st0 t with gap := gapV c t, sn := { (st0 t).sn with gp := gapV c t == 0 } }
def stH (c : Cft) (t : Int) (b : ByteArray) : Hst := hearP (nm c) (nms (st1 c t)) b
def rdG (rd : Rds) : Int → Nat → Int := fun k => Rdg.num (rdg rd k)
def rdP (rd : Rds) : Int → Bool := fun k => (rd k).isSome
def driftP (h : Hst) : Cft := if rdP h.rd 3 = true then { h.c with dr := stDs h.c (rdG h.rd) (rdP h.rd) Qx.qbSte } else h.c
/-- What stands before the plan: the craft, the step. -/
def seenP (h : Hst) : Stp := lookP (nm (driftP h)) (nms h.s) (rdG h.rd) (rdP h.rd)
def goes (c : Cft) (s : Stp) : Bool := bif c.pl.mode == 2 then !s.sn.gp else false
def guessP (h : Hst) : Cft := if goes (driftP h) (seenP h) = true then filtC (nm (driftP h)) (nms (seenP h)) (rdG h.rd) (rdP h.rd) else driftP h
def sawP (h : Hst) : Stp := if goes (driftP h) (seenP h) = true then filtS (nm (driftP h)) (nms (seenP h)) (rdG h.rd) (rdP h.rd) else seenP h
def nextP (h : Hst) (t : Int) : Cft := { planP (nm (guessP h)) (nms (sawP h)) with on := true, tick := t }
def outP (h : Hst) (t : Int) : ByteArray := tellP (nm (nextP h t)) (nms (sawP h))
structure Sres where
  c : Cft
  out : ByteArray
def stepP (c : Cft) (t : Int) (b : ByteArray) : Sres := if idle c t = true then ⟨c, Cr.eS⟩ else ⟨nextP (stH c t b) t, outP (stH c t b) t⟩
def stepC (c : Cft) (b : ByteArray) : Bool := fitP c b && Md.modeOk c.pl.mode
def stepF (sc : Cft → ByteArray → Bool) (sp : Cft → Int → ByteArray → Sres) : List AV → Option AV
  | [.agg l, .int .i64 t, .str b] =>
    match Cft.of l with
    | some c => bif sc c b then some (.tup [.agg (sp c t b).c.av, .str (sp c t b).out]) else none
    | none => none
  | _ => none
end
theorem hear_mode (c : Cft) (s : Stp) (b : ByteArray) : (hearP c s b).c.pl.mode = c.pl.mode := by
  have step : ∀ (h : Hst) x, (frmP h x).c.pl.mode = h.c.pl.mode := by
    intro h x
    unfold frmP
    repeat' split
    all_goals (try unfold sensP) <;> (try unfold ordP) <;> (try (repeat' split)) <;> rfl
  have all : ∀ (l : List Cr.Frm) (h : Hst), (l.foldl frmP h).c.pl.mode = h.c.pl.mode := by
    intro l
    induction l with
    | nil => intro h; rfl
    | cons x l ih => intro h; rw [List.foldl_cons, ih, step]
  unfold hearP
  rw [all]
  split <;> rfl
theorem nm_mode (c : Cft) : (nm c).pl.mode = c.pl.mode := by kernel_rfl
theorem guess_mode (h : Hst) : (guessP h).pl.mode = h.c.pl.mode := by
  have e : (driftP h).pl.mode = h.c.pl.mode := by unfold driftP; split <;> rfl
  unfold guessP
  split
  · show (nm (driftP h)).pl.mode = _
    rw [nm_mode, e]
  · exact e
theorem st1_eq (c z : Cft) (t : Int) : [cB c, cB z, .map false [], .cells (mergeL (gapB c t) { st0 t with gap := wr .i64 (gapD c t) }.av (st0 t).av) 104] = s4 c z { st0 t with gap := gapV c t } (.map false []) := by
  unfold gapV
  cases gapB c t with
  | true => rw [if_pos rfl]; rfl
  | false => rw [if_neg (by simp)]; rfl
theorem cav_noPtr (c : Cft) : AV.noPtrL c.av = true := by kernel_rfl
theorem st_res (c d : Cft) (o : ByteArray) (l : List (Nat × AV)) (X : List AB) : ares Tryz.prog ((6, .ptr 1 0) :: (7, .str o) :: l) (cB d :: cB c :: X) [.cell 6 44, .tmp 7] = some [.agg c.av, .str o] := by kernel_rfl
theorem st_res0 (c d : Cft) (t : Int) (b o : ByteArray) : ares Tryz.prog [(1, J t), (2, .str b), (3, .ptr 0 0), (6, .ptr 1 0), (7, .str o)] [cB d, cB c] [.cell 6 44, .tmp 7] = some [.agg c.av, .str o] := by kernel_rfl
theorem ok1 {f : FuncId} {F : List AV → List AB → Option (AV × List AB)} (he : EnterOk Tryz.prog f) (h : EffOk Tryz.prog f anyArgs F) : EnvOk Tryz.prog [(f, .eff anyArgs F)] := EnvOk.cons ⟨he, h⟩ (EnvOk.nil _)
theorem ok1s {f : FuncId} {F : List AV → List AB → Option (AV × AB)} (he : EnterOk Tryz.prog f) (h : EffOk Tryz.prog f anyArgs (seeSpec F)) : EnvOk Tryz.prog [(f, .see F)] := EnvOk.cons ⟨he, h⟩ (EnvOk.nil _)
theorem step_con : PureOk Tryz.prog 13 anyArgs (stepF stepC stepP) := by
  refine pure_at (nt := 106) (res := [.cell 6 44, .tmp 7]) (by kernel_rfl) fun args v hF => ?_
  unfold stepF at hF
  split at hF
  · rename_i l t b
    split at hF
    · rename_i c hc
      have hl := Cft.of_av hc
      subst hl
      cases hb : stepC c b with
      | false => rw [hb] at hF; cases hF
      | true =>
        rw [hb] at hF
        simp only [cond_true, Option.some.injEq] at hF
        subst hF
        unfold stepC at hb
        simp only [Bool.and_eq_true] at hb
        obtain ⟨hfit, hmode⟩ := hb
        refine ⟨?_, ?_, Nat.le_of_ble_eq_true rfl, fun w0 a h0 => ?_⟩
        · show (AV.noPtrL (stepP c t b).c.av && true) = true
          rw [cav_noPtr]; rfl
        · show (AV.noPtrL c.av && true) = true
          rw [cav_noPtr]; rfl
        · have h0 : At [] w0 106 [(0, .agg c.av), (1, J t), (2, .str b)] [] a w0 := h0
          refine wp_as stB rfl ?_
          refine wp_seqN (by kernel_rfl) (wp_as (Code.nav [0] stB) (by kernel_rfl) (At.codeK ok_nil 100 [1, 2, 3, 6] (st_0 c t b) h0 fun a w hs => then_normal ?_))
          have r1 := st_1 c Cft.zero t b
          by_cases hi : idle c t = true
          · rw [hi, bt] at r1
            refine wp_seqN (by kernel_rfl) (wp_as (Code.nav [1, 0] stB) (by kernel_rfl) (At.codeK ok_S0 100 [1, 2, 3, 6, 7] r1 hs fun a w hs => then_ret ?_))
            refine ⟨.inr rfl, _, _, _, hs, st_res0 c c t b Cr.eS, ?_⟩
            unfold stepP
            rw [if_pos hi]
            rfl
          · have hif : idle c t = false := by simpa using hi
            rw [hif, bf] at r1
            refine wp_seqN (by kernel_rfl) (wp_as (Code.nav [1, 0] stB) (by kernel_rfl) (At.codeK ok_S0 100 [1, 2, 3, 6, 7] r1 hs fun a w hs => then_normal ?_))
            have hs : At [] w0 106 (sT t b) [cB c, cB Cft.zero] a w := hs.keep (Nat.zero_le _) (Nat.le_refl _) ⟨⟨rfl, rfl⟩, ⟨rfl, rfl⟩, ⟨rfl, rfl⟩, ⟨rfl, rfl⟩, trivial⟩ ⟨.inr ⟨rfl, cav_trunc _ _⟩, .inr ⟨rfl, cav_trunc _ _⟩, trivial⟩
            refine wp_seqN (by kernel_rfl) (wp_as (Code.nav [1, 1, 0] stB) (by kernel_rfl) (At.codeK ok_nil 100 [1, 2, 3, 6, 8] (st_3 c Cft.zero t b) hs fun a w hs => then_normal ?_))
            refine wp_seqN (by kernel_rfl) (wp_as (Code.nav [1, 1, 1, 0] stB) (by kernel_rfl) (At.codeK ok_nil 100 [1, 2, 3, 6, 8] (st_4 c Cft.zero t b) hs fun a w hs => then_normal ?_))
            rw [st1_eq] at hs
            refine wp_seqN (by kernel_rfl) (wp_as (Code.nav [1, 1, 1, 1, 0] stB) (by kernel_rfl) (At.codeK ok_nil 100 [1, 2, 3, 6, 8] (st_7 c Cft.zero t b { st0 t with gap := gapV c t } (.map false [])) hs fun a w hs => then_normal ?_))
            have hs : At [] w0 106 (sU t b) (s4 c Cft.zero (st1 c t) (.map false [])) a w := hs
            have r8 := st_8 c Cft.zero t b (st1 c t) (hearF fitP hearP) (.map false [])
            rw [hearF_at, show fitP (nm c) b = true from hfit, bt] at r8
            refine wp_seqN (by kernel_rfl) (wp_as (Code.nav [1, 1, 1, 1, 1, 0] stB) (by kernel_rfl) (At.codeK (ok1 (enter_at (nt := 79) (res := []) (by kernel_rfl)) hear_con) 100 [1, 2, 3, 6, 8] r8 hs fun a w hs => then_normal ?_))
            have hs : At [] w0 106 (sU t b) (s4 (stH c t b).c Cft.zero (stH c t b).s (rdB (stH c t b).rd)) a w := hs
            have ho : stepP c t b = ⟨nextP (stH c t b) t, outP (stH c t b) t⟩ := by unfold stepP; rw [if_neg hi]
            have hm : (stH c t b).c.pl.mode = c.pl.mode := by unfold stH; rw [hear_mode, nm_mode]
            rw [← hm] at hmode
            rw [ho]
            generalize stH c t b = h at hs hmode
            clear ho hm r8 r1 hfit hi hif hc
            have r9 := st_9 h.c Cft.zero t b h.s (rdG h.rd) (rdP h.rd) Qx.qbSte
            have r9' : acode Tryz.prog [(32, .flow FT (shF [.agg (.flag :: Ns 7), Qx.V, Qx.N1] (.agg (.flag :: Ns 7)) Qx.qbSte))] 100 106 (Code.nav [1, 1, 1, 1, 1, 1, 0] stB) (sU t b) (s4 h.c Cft.zero h.s (.mapN 5 (rdG h.rd) (rdP h.rd))) (keepL [1, 2, 3, 6, 8] 4) =
                some (.normal, sU t b, s4 (driftP h) Cft.zero h.s (.mapN 5 (rdG h.rd) (rdP h.rd))) := by
              rw [r9]
              unfold driftP
              cases rdP h.rd 3 with
              | true => rw [bt, if_pos rfl]
              | false => rw [bf, if_neg (by simp)]
            refine wp_seqN (by kernel_rfl) (wp_as (Code.nav [1, 1, 1, 1, 1, 1, 0] stB) (by kernel_rfl) (At.codeKL (EnvOk.f ok_nil (enter_of Tryz.func32 (by kernel_rfl) rfl) Qx.qbSte_con) 100 [1, 2, 3, 6, 8] 4 r9' hs fun X a w hs => then_normal ?_))
            have hs : At [] w0 106 (sU t b) (s4 (driftP h) Cft.zero h.s (.mapN 5 (rdG h.rd) (rdP h.rd))) a w := hs.keep (Nat.zero_le _) (by rw [List.length_append]; exact Nat.le_add_right _ _) ⟨⟨rfl, rfl⟩, ⟨rfl, rfl⟩, ⟨rfl, rfl⟩, ⟨rfl, rfl⟩, ⟨rfl, rfl⟩, trivial⟩ ⟨.inr ⟨rfl, cav_trunc _ _⟩, .inr ⟨rfl, cav_trunc _ _⟩, .inr ⟨rfl, trivial⟩, .inr ⟨rfl, sav_trunc _ _ (Nat.le_of_ble_eq_true rfl)⟩, trivial⟩
            have r12 := st_12 (driftP h) Cft.zero t b h.s (lookF lookP) (.mapN 5 (rdG h.rd) (rdP h.rd))
            rw [lookF_at] at r12
            refine wp_seqN (by kernel_rfl) (wp_as (Code.nav [1, 1, 1, 1, 1, 1, 1, 0] stB) (by kernel_rfl) (At.codeK (ok1 (enter_of Tryz.func33 (by kernel_rfl) rfl) look_con) 100 [1, 2, 3, 6, 8] r12 hs fun a w hs => then_normal ?_))
            have hs : At [] w0 106 (sU t b) (s4 (driftP h) Cft.zero (seenP h) (.mapN 5 (rdG h.rd) (rdP h.rd))) a w := hs
            have r13 := st_13 (driftP h) Cft.zero t b (seenP h) (filtF filtC filtS) (.mapN 5 (rdG h.rd) (rdP h.rd))
            rw [filtF_at] at r13
            have r13' : acode Tryz.prog [(34, .eff anyArgs (filtF filtC filtS))] 100 106 (Code.nav [1, 1, 1, 1, 1, 1, 1, 1, 0] stB) (sU t b) (s4 (driftP h) Cft.zero (seenP h) (.mapN 5 (rdG h.rd) (rdP h.rd))) (keepK [1, 2, 3, 6, 8]) =
                some (.normal, sU t b, s4 (guessP h) Cft.zero (sawP h) (.mapN 5 (rdG h.rd) (rdP h.rd))) := by
              rw [r13]
              unfold guessP sawP
              show (bif goes (driftP h) (seenP h) then _ else _) = _
              cases goes (driftP h) (seenP h) with
              | true => rw [bt, if_pos rfl, if_pos rfl]
              | false => rw [bf, if_neg (by simp), if_neg (by simp)]
            refine wp_seqN (by kernel_rfl) (wp_as (Code.nav [1, 1, 1, 1, 1, 1, 1, 1, 0] stB) (by kernel_rfl) (At.codeK (ok1 (enter_of Tryz.func34 (by kernel_rfl) rfl) filt_con) 100 [1, 2, 3, 6, 8] r13' hs fun a w hs => then_normal ?_))
            have r15 := st_15 (guessP h) Cft.zero t b (sawP h) (planF Md.modeOk planP) (.mapN 5 (rdG h.rd) (rdP h.rd))
            rw [planF_at, guess_mode, hmode, bt] at r15
            refine wp_seqN (by kernel_rfl) (wp_as (Code.nav [1, 1, 1, 1, 1, 1, 1, 1, 1, 0] stB) (by kernel_rfl) (At.codeK (ok1 (enter_of Tryz.func35 (by kernel_rfl) rfl) plan_con) 100 [1, 2, 3, 6, 8] r15 hs fun a w hs => then_normal ?_))
            refine wp_seqN (by kernel_rfl) (wp_as (Code.nav [1, 1, 1, 1, 1, 1, 1, 1, 1, 1, 0] stB) (by kernel_rfl) (At.codeK ok_nil 100 [3, 6, 8] (st_16 (planP (nm (guessP h)) (nms (sawP h))) Cft.zero t b (sawP h) (.mapN 5 (rdG h.rd) (rdP h.rd))) hs fun a w hs => then_normal ?_))
            have hs : At [] w0 106 [(3, .ptr 0 0), (6, .ptr 1 0), (8, .ptr 3 0)] (s4 (nextP h t) Cft.zero (sawP h) (.mapN 5 (rdG h.rd) (rdP h.rd))) a w := hs
            refine wp_as (Code.nav [1, 1, 1, 1, 1, 1, 1, 1, 1, 1, 1] stB) (by kernel_rfl) (At.codeK (ok1s (enter_of Tryz.func36 (by kernel_rfl) rfl) tell_con) 100 [6, 7] (st_17 (nextP h t) Cft.zero (sawP h) (rdG h.rd) (rdP h.rd) tellP) hs fun a w hs => ?_)
            exact ⟨.inr rfl, _, _, _, hs, st_res (nextP h t) (nextP h t) _ _ _, rfl⟩
    · cases hF
  · cases hF
/-! ### The same, its guard told apart -/
def stpK (sc : Cft → ByteArray → Bool) : List AV → Bool
  | [.agg l, .int .i64 _, .str b] =>
    match Cft.of l with
    | some c => sc c b
    | none => false
  | _ => false
def stpG (sp : Cft → Int → ByteArray → Sres) : List AV → Option AV
  | [.agg l, .int .i64 t, .str b] =>
    match Cft.of l with
    | some c => some (.tup [.agg (sp c t b).c.av, .str (sp c t b).out])
    | none => none
  | _ => none
theorem step_conK : PureOk Tryz.prog 13 (stpK stepC) (stpG stepP) := by
  intro args v hC hv
  refine step_con args v rfl ?_
  unfold stpG at hv
  split at hv
  · rename_i l t b
    have hC : (match Cft.of l with | some c => stepC c b | none => false) = true := hC
    show (match Cft.of l with | some c => bif stepC c b then some (AV.tup [.agg (stepP c t b).c.av, .str (stepP c t b).out]) else none | none => none) = some v
    cases hc : Cft.of l with
    | none => rw [hc] at hv; cases hv
    | some c =>
      rw [hc] at hv hC
      have hC : stepC c b = true := hC
      have hv : some (AV.tup [.agg (stepP c t b).c.av, .str (stepP c t b).out]) = some v := hv
      show (bif stepC c b then some (AV.tup [.agg (stepP c t b).c.av, .str (stepP c t b).out]) else none) = some v
      rw [hC]
      exact hv
  · cases hv
end Go.Proofs.YtdojnnlhaiennaaGreat.Cs

/- What is written is read as that, and what is read is written as that; the laws of layer 16. Conditions: none. -/
namespace Go.Proofs.YtdojnnlhaiennaaGreat.Orb
open Go Go.Proofs.YtdojnnlhaiennaaGreat.Ae Go.Proofs.YtdojnnlhaiennaaGreat.Fx Go.Proofs.YtdojnnlhaiennaaGreat.Lx Go.Proofs.YtdojnnlhaiennaaGreat.Tx Go.Proofs.YtdojnnlhaiennaaGreat.Te Go.Proofs.YtdojnnlhaiennaaGreat.Rx Go.Proofs.YtdojnnlhaiennaaGreat.Row

/-! ### Eight bytes -/
theorem tk_gen {t b : Int} (hb : 0 ≤ b ∧ b < 256) : tk t b = wr .i64 (t * 256 + b) := by
  unfold tk
  rw [p2_8, w64_in (n := b) (by omega) (by omega)]
  have h : bor .i64 (wr .i64 (t * 256)) b = wr .i64 ((BitVec.ofInt 64 (wr .i64 (t * 256)) ||| BitVec.ofInt 64 b).toNat : Int) := by unfold bor; rw [wr_eq]; rfl
  have e64 : ((2 ^ 64 : Nat) : Int) = 18446744073709551616 := by kernel_rfl
  have h1 : (BitVec.ofInt 64 (wr .i64 (t * 256))).toNat = 256 * (t % 72057594037927936).toNat := by
    rw [BitVec.toNat_ofInt, e64, wr_i64]
    omega
  have h2 : (BitVec.ofInt 64 b).toNat = b.toNat := ofInt_toNat (by omega) (by omega)
  rw [h, BitVec.toNat_or, h1, h2, or_small (by omega), wr_i64, wr_i64]
  omega
theorem wr_step (X b : Int) : wr .i64 (wr .i64 X * 256 + b) = wr .i64 (X * 256 + b) := by
  simp only [wr_i64]; omega
def sum8 (g : Nat → Int) (i : Nat) : Int := ((((((g (i + 0) * 256 + g (i + 1)) * 256 + g (i + 2)) * 256 + g (i + 3)) * 256 + g (i + 4)) * 256 + g (i + 5)) * 256 + g (i + 6)) * 256 + g (i + 7)
theorem num_eq {g : Nat → Int} (hg : B g) (i : Nat) : num g i = wr .i64 (sum8 g i) := by
  unfold num sum8
  rw [tk_gen (hg (i + 0)), tk_gen (hg (i + 1)), tk_gen (hg (i + 2)), tk_gen (hg (i + 3)), tk_gen (hg (i + 4)), tk_gen (hg (i + 5)), tk_gen (hg (i + 6)), tk_gen (hg (i + 7))]
  simp only [wr_step, Int.zero_mul, Int.zero_add]
/-! ### The laws' shapes -/
def elEq (x y : El) : Bool := (x.a == y.a) && ((x.e == y.e) && ((x.i == y.i) && ((x.node == y.node) && ((x.peri == y.peri) && ((x.m == y.m) && ((x.t == y.t) && true))))))
section
variable (wf rwf : Ord → Fr) (rd : Int → ByteArray → RO)
end

/-! ### They are true -/
def in64 (n : Int) : Prop := -9223372036854775808 ≤ n ∧ n < 9223372036854775808
structure El.In (o : El) : Prop where
  a : in64 o.a
  e : in64 o.e
  i : in64 o.i
  node : in64 o.node
  peri : in64 o.peri
  m : in64 o.m
  t : in64 o.t
theorem elEq_refl (x : El) : elEq x x = true := by unfold elEq; simp
end Go.Proofs.YtdojnnlhaiennaaGreat.Orb

/- The reference's reading of an order is the program's. Conditions: none. -/
namespace Go.Proofs.YtdojnnlhaiennaaGreat.Orb
open Go Go.Proofs.YtdojnnlhaiennaaGreat.Ae Go.Proofs.YtdojnnlhaiennaaGreat.Fx Go.Proofs.YtdojnnlhaiennaaGreat.Lx Go.Proofs.YtdojnnlhaiennaaGreat.Tx Go.Proofs.YtdojnnlhaiennaaGreat.Te Go.Proofs.YtdojnnlhaiennaaGreat.Rx Go.Proofs.YtdojnnlhaiennaaGreat.Row

def rtk (n b : Int) : Int := wr .u64 (wr .u64 (n * 256) + wr .u64 b)
def rnum (g : Nat → Int) (i : Nat) : Int := wr .i64 (rtk (rtk (rtk (rtk (rtk (rtk (rtk (rtk 0 (g (i + 0))) (g (i + 1))) (g (i + 2))) (g (i + 3))) (g (i + 4))) (g (i + 5))) (g (i + 6))) (g (i + 7)))
def rrdEl (g : Nat → Int) : El := ⟨rnum g 2, rnum g 10, rnum g 18, rnum g 26, rnum g 34, rnum g 42, rnum g 50⟩
theorem rtk_eq {n m b : Int} (h : n = wr .u64 m) (hb : 0 ≤ b ∧ b < 256) : rtk n b = wr .u64 (m * 256 + b) := by
  unfold rtk; subst h; simp only [wr_u64]; omega
theorem rnum_eq {g : Nat → Int} (hg : B g) (i : Nat) : rnum g i = num g i := by
  rw [num_eq hg]
  unfold rnum sum8
  rw [rtk_eq (rtk_eq (rtk_eq (rtk_eq (rtk_eq (rtk_eq (rtk_eq (rtk_eq (m := 0) (by rw [wr_u64]; rfl) (hg (i + 0))) (hg (i + 1))) (hg (i + 2))) (hg (i + 3))) (hg (i + 4))) (hg (i + 5))) (hg (i + 6))) (hg (i + 7))]
  simp only [wr_u64, wr_i64, Int.zero_mul, Int.zero_add]
  omega
theorem rrdEl_eq {g : Nat → Int} (hg : B g) : rrdEl g = rdEl g := by
  unfold rrdEl rdEl
  simp only [rnum_eq hg]
section
variable (rt : El → Bool) (k : Int) (s : ByteArray) (g : Nat → Int)
def envRR : Env := [(28, .pure anyArgs (elF rt)), (27, .text)]
def rLong (c : Int) : Int := bif c == 3 then 58 else 2
def rTail (q c : Int) (b : Bool) (x3 : Option AV) : Option AV := bif (bif decide (c < 1) then true else decide (c > 4)) then ro q 0 El.zero 2 else bif b then ro q 0 El.zero 1 else bif c == 3 then x3 else ro q c El.zero 0
theorem rread0_raw : acall Tryz.prog (envRR rt) 120 11 [.agg [I k, .strG s 0 g]] [] pK = bif (bif k != 16 then true else true) then ro 0 0 El.zero 1 else none := by kernel_rfl
theorem rread1_raw : acall Tryz.prog (envRR rt) 120 11 [.agg [I k, .strG s 1 g]] [] pK = bif (bif k != 16 then true else true) then ro 0 0 El.zero 1 else none := by kernel_rfl
theorem rread2_raw : acall Tryz.prog (envRR rt) 120 11 [.agg [I k, .strG s 2 g]] [] pK =
    bif (bif k != 16 then true else false) then ro 0 0 El.zero 1 else rTail (wr .i64 (g 0)) (wr .i64 (g 1)) (2 != rLong (wr .i64 (g 1))) none := by kernel_rfl
theorem rread58_raw : acall Tryz.prog (envRR rt) 120 11 [.agg [I k, .strG s 58 g]] [] pK =
    bif (bif k != 16 then true else false) then ro 0 0 El.zero 1 else rTail (wr .i64 (g 0)) (wr .i64 (g 1)) (58 != rLong (wr .i64 (g 1))) (bif !(rt (rrdEl g)) then ro (wr .i64 (g 0)) 0 El.zero 3 else ro (wr .i64 (g 0)) (wr .i64 (g 1)) (rrdEl g) 0) := by kernel_rfl
theorem rreadF_raw : acall Tryz.prog (envRR rt) 120 11 [.agg [I k, .strF s 2 g [2, 58]]] [] pK =
    bif (bif k != 16 then true else false) then ro 0 0 El.zero 1 else
    bif (bif decide (wr .i64 (g 1) < 1) then true else decide (wr .i64 (g 1) > 4)) then ro (wr .i64 (g 0)) 0 El.zero 2 else
    bif ([2, 58].any fun c => c == rLong (wr .i64 (g 1))) then ro (wr .i64 (g 0)) 0 El.zero 1 else
    bif ((s.size : Int) != rLong (wr .i64 (g 1))) then ro (wr .i64 (g 0)) 0 El.zero 1 else
    bif wr .i64 (g 1) == 3 then none else ro (wr .i64 (g 0)) (wr .i64 (g 1)) El.zero 0 := by kernel_rfl
end
theorem envRR_ok : EnvOk Tryz.prog (envRR rightO) := EnvOk.p (EnvOk.t ok_nil (enter_of Tryz.func27 (by kernel_rfl) rfl)) (enter_of Tryz.func28 (by kernel_rfl) rfl) roright_con
/-- The reference's tree, by its parts. -/
theorem rTail_eq {q c : Int} {b : Bool} {x3 n1 n2 : Option AV} (h1 : c = 1 ∨ c = 2 ∨ c = 4 → (if b = true then ro q 0 El.zero 1 else ro q c El.zero 0) = n1) (h3 : c = 3 → (if b = true then ro q 0 El.zero 1 else x3) = n2) :
    rTail q c b x3 = if c = 1 ∨ c = 2 ∨ c = 4 then n1 else if c = 3 then n2 else ro q 0 El.zero 2 := by
  unfold rTail
  by_cases h0 : c < 1
  · rw [decide_eq_true h0, bt, bt, if_neg (by omega), if_neg (by omega)]
  rw [decide_eq_false h0, bf]
  by_cases h4 : c > 4
  · rw [decide_eq_true h4, bt, if_neg (by omega), if_neg (by omega)]
  rw [decide_eq_false h4, bf]
  by_cases c3 : c = 3
  · rw [if_neg (by omega), if_pos c3, ← h3 c3, eq_t c3, bt]
    cases b <;> rfl
  · have h := h1 (by omega)
    rw [if_pos (by omega), ← h, eq_f c3, bf]
    cases b <;> rfl
theorem rLong_3 {c : Int} (h : c = 3) : rLong c = 58 := by unfold rLong; rw [eq_t h, bt]
theorem rLong_n {c : Int} (h : ¬ c = 3) : rLong c = 2 := by unfold rLong; rw [eq_f h, bf]
theorem rread_con : PureOk Tryz.prog 11 anyArgs (oreadF readO) := by
  refine pure_of' envRR_ok 120 _ _ _ ?_
  rintro args v - h
  obtain ⟨k, s, rfl, rfl⟩ := oreadF_some h
  refine ⟨rfl, ?_⟩
  have strG : ∀ n, s.size = n → ∀ m Vs, RL m [.agg [I k, .str s]] Vs → RL m [.agg [I k, .strG s n (gOf s)]] Vs := fun n hn m Vs hv => RL_frame (fun V hV => by rw [← hn]; exact R_strG m s hV) hv
  have none1 : ¬ (k = 16 ∧ 2 ≤ s.size) → some (readO k s).av = ro 0 0 El.zero 1 := fun hn => by unfold readO; rw [if_neg hn]; rfl
  have kind : ∀ (X : Option AV), (k = 16 → X = some (readO k s).av) → 2 ≤ s.size → (bif (bif k != 16 then true else false) then ro 0 0 El.zero 1 else X) = some (readO k s).av := fun X hX h2 => by
    by_cases hk : k = 16
    · rw [ne_f hk, bf, bf, hX hk]
    · rw [ne_t hk, bt, bt, none1 (fun h => hk h.1)]
  rcases Nat.lt_or_ge s.size 2 with hlt | hge
  · rcases (show s.size = 0 ∨ s.size = 1 by omega) with hs | hs
    · exact ⟨_, rfl, strG 0 hs, (rread0_raw rightO k s (gOf s)).trans (by rw [none1 (fun h => by omega)]; cases (k != 16) <;> rfl)⟩
    · exact ⟨_, rfl, strG 1 hs, (rread1_raw rightO k s (gOf s)).trans (by rw [none1 (fun h => by omega)]; cases (k != 16) <;> rfl)⟩
  · have rd : ∀ (hk : k = 16), some (readO k s).av = if gOf s 1 = 1 ∨ gOf s 1 = 2 ∨ gOf s 1 = 4 then (if s.size = 2 then ro (gOf s 0) (gOf s 1) El.zero 0 else ro (gOf s 0) 0 El.zero 1) else if gOf s 1 = 3 then
        (if s.size = 58 then (if rightO (rdEl (gOf s)) then ro (gOf s 0) 3 (rdEl (gOf s)) 0 else ro (gOf s 0) 0 El.zero 3) else ro (gOf s 0) 0 El.zero 1) else ro (gOf s 0) 0 El.zero 2 := fun hk => by
      unfold readO
      rw [if_pos ⟨hk, hge⟩]
      repeat' split
      all_goals first | rfl | contradiction
    by_cases hs : s.size = 2
    · refine ⟨_, rfl, strG 2 hs, (rread2_raw rightO k s (gOf s)).trans (kind _ (fun hk => ?_) hge)⟩
      rw [rd hk, if_pos hs, if_neg (show ¬ s.size = 58 by omega), gw, gw]
      exact rTail_eq (fun e => by rw [rLong_n (by omega)]; rfl) (fun e => by rw [rLong_3 e]; rfl)
    · by_cases hs' : s.size = 58
      · refine ⟨_, rfl, strG 58 hs', (rread58_raw rightO k s (gOf s)).trans (kind _ (fun hk => ?_) hge)⟩
        rw [rd hk, if_neg hs, if_pos hs', gw, gw, rrdEl_eq (gOf_B s)]
        refine rTail_eq (fun e => by rw [rLong_n (by omega)]; rfl) (fun e => ?_)
        rw [rLong_3 e, e]
        cases rightO (rdEl (gOf s)) <;> rfl
      · refine ⟨[.agg [I k, .strF s 2 (gOf s) [2, 58]]], rfl, fun m Vs hv => RL_frame (fun V hV => R_strF m s 2 [2, 58] hge (by simp; omega) hV) hv, (rreadF_raw rightO k s (gOf s)).trans (kind _ (fun hk => ?_) hge)⟩
        rw [rd hk, if_neg hs, if_neg hs', gw, gw]
        refine Eq.trans ?_ (rTail_eq (q := gOf s 0) (c := gOf s 1) (b := true) (x3 := none) (fun _ => rfl) (fun _ => rfl))
        unfold rTail
        have e : ([2, 58].any fun c => c == rLong (gOf s 1)) = true := by
          by_cases h3 : gOf s 1 = 3
          · rw [rLong_3 h3]; rfl
          · rw [rLong_n h3]; rfl
        rw [e, bt, bt]
end Go.Proofs.YtdojnnlhaiennaaGreat.Orb

/- What a step's bytes tell: a contract. Conditions: none. -/
namespace Go.Proofs.YtdojnnlhaiennaaGreat.Tp
open Go Go.Proofs.YtdojnnlhaiennaaGreat.Ae Go.Proofs.YtdojnnlhaiennaaGreat.Fx Go.Proofs.YtdojnnlhaiennaaGreat.Te Go.Proofs.YtdojnnlhaiennaaGreat.Cs
open Go.Proofs.YtdojnnlhaiennaaGreat.Cr (opC opG kdI dtI opens opG_r)
open Go.Proofs.YtdojnnlhaiennaaGreat.Md (Pl Sn)
open Go.Proofs.YtdojnnlhaiennaaGreat.Orb (El RO)

def toldC (tc : ByteArray → Bool) : List AV → Bool
  | [.str s] => tc s
  | _ => false
def toldF (td : ByteArray → Rd) : List AV → Option AV
  | [.str s] => some (td s).av
  | _ => none
def envTd (kd : ByteArray → Int) (dt : ByteArray → ByteArray) (ok : ByteArray → Bool) (rd : Int → ByteArray → Rd) : Env := [(26, .pure (opC 90000) (opG kd dt ok)), (64, .pure anyArgs (readF rd))]
theorem told_raw (kd : ByteArray → Int) (dt : ByteArray → ByteArray) (ok : ByteArray → Bool) (rd : Int → ByteArray → Rd) (s : ByteArray) : acall Tryz.prog (envTd kd dt ok rd) 60 25 [.str s] [] pK =
    bif (Nat.ble 3 s.size && Nat.ble s.size 90000) then some (.tup [.agg (rd (kd s) (dt s)).t.av, .bool (bif ok s then (rd (kd s) (dt s)).ok else false)]) else none := by kernel_rfl
def szOk (s : ByteArray) : Bool := Nat.ble 3 s.size && Nat.ble s.size 90000
def toldP (s : ByteArray) : Rd := ⟨(readP (kdI s) (dtI s)).t, bif opens s then (readP (kdI s) (dtI s)).ok else false⟩
theorem ok_Td : EnvOk Tryz.prog (envTd kdI dtI opens readP) := EnvOk.p (EnvOk.p ok_nil (enter_of Tryz.func64 (by kernel_rfl) rfl) Te.rread_con) (enter_at (nt := 34) (res := [.cell 2 53, .tmp 3]) (by kernel_rfl)) opG_r
theorem told_con : PureOk Tryz.prog 25 (toldC szOk) (toldF toldP) := by
  refine pure_of' ok_Td 60 _ _ _ fun args v hC hv => ?_
  unfold toldF at hv
  split at hv
  · rename_i s
    cases hv
    have hC : szOk s = true := hC
    refine ⟨rfl, [.str s], rfl, fun m Vs h => h, (told_raw kdI dtI opens readP s).trans ?_⟩
    unfold szOk at hC
    rw [hC, bt]
    rfl
  · cases hv
theorem told_wrap (t : Tell) (h : rightP t = true) : szOk (Cr.wrapT (writeP t).s) = true ∧ toldP (Cr.wrapT (writeP t).s) = ⟨t, true⟩ := by
  have hw : writeP t = ⟨32, strOf (wBytes t), true⟩ := by unfold writeP; rw [if_pos h]
  have h26 : (strOf (wBytes t)).size = 26 := by rw [Cr.strOf_size]; rfl
  have hk : (writeP t).k = 32 := by rw [hw]
  have hs : (writeP t).s.size = 26 := by rw [hw]; exact h26
  have e : Cr.wrapT (writeP t).s = Cr.wrapB26 (writeP t).s := if_pos hs
  have ho := Cr.open_wrap (writeP t).s hs
  rw [Cr.openV_parts] at ho
  simp only [AV.tup.injEq, List.cons.injEq, AV.agg.injEq, AV.int.injEq, AV.str.injEq, AV.bool.injEq, true_and, and_true] at ho
  obtain ⟨⟨h1, h2⟩, h3⟩ := ho
  rw [e]
  refine ⟨?_, ?_⟩
  · have : (Cr.wrapB26 (writeP t).s).size = 31 := by
      unfold Cr.wrapB26 Cr.wrF
      rw [Cr.strOf_size]
      unfold Cr.tellL
      simp
    unfold szOk
    rw [this]; rfl
  · unfold toldP
    rw [h1, h2, h3, bt]
    have := readP_writeP t
    rw [hk, h, if_pos rfl] at this
    rw [this]
/-! ### A first step -/
def envLi (sc : Cft → ByteArray → Bool) (sp : Cft → Int → ByteArray → Sres) (tc : ByteArray → Bool) (td : ByteArray → Rd) : Env := [(13, .pure (stpK sc) (stpG sp)), (25, .pure (toldC tc) (toldF td))]
def lightsT (sc : Bool) (tc : Bool) (on : Bool) (t : Rd) : Option AV := bif sc then (bif tc then some (.bool (bif (bif (bif on then t.ok else false) then t.t.m == 0 else false) then t.t.t == 5 else false)) else none) else none
theorem lights_raw (sc : Cft → ByteArray → Bool) (sp : Cft → Int → ByteArray → Sres) (tc : ByteArray → Bool) (td : ByteArray → Rd) : acall Tryz.prog (envLi sc sp tc td) 60 6 [] [] pK =
    lightsT (sc (nm Cft.zero) Cr.eS) (tc (sp (nm Cft.zero) 5 Cr.eS).out) (sp (nm Cft.zero) 5 Cr.eS).c.on (td (sp (nm Cft.zero) 5 Cr.eS).out) := by kernel_rfl
end Go.Proofs.YtdojnnlhaiennaaGreat.Tp

/- What stays so of crafts, and what an order does. Conditions: none. -/
namespace Go.Proofs.YtdojnnlhaiennaaGreat.Tp
open Go Go.Proofs.YtdojnnlhaiennaaGreat.Ae Go.Proofs.YtdojnnlhaiennaaGreat.Fx Go.Proofs.YtdojnnlhaiennaaGreat.Cs
open Go.Proofs.YtdojnnlhaiennaaGreat.Te (Rd Tell rightP RightX rightX readP writeP i16 cutP_right Seven)
open Go.Proofs.YtdojnnlhaiennaaGreat.Cr (Frm scanP kdI dtI opens)
open Go.Proofs.YtdojnnlhaiennaaGreat.Md (Pl Sn)
open Go.Proofs.YtdojnnlhaiennaaGreat.Orb (El RO readO)

/-! ### Fields of what is parsed -/
theorem nm_left (c : Cft) : (nm c).left = c.left := by kernel_rfl
theorem nm_pl (c : Cft) : (nm c).pl = c.pl := by kernel_rfl
theorem nm_placed (c : Cft) : (nm c).placed = c.placed := by kernel_rfl
theorem nm_el (c : Cft) : (nm c).el = c.el := by kernel_rfl
theorem nm_ack (c : Cft) : (nm c).ack = c.ack := by kernel_rfl
theorem nm_err (c : Cft) : (nm c).err = c.err := by kernel_rfl
theorem nm_rej (c : Cft) : (nm c).rej = c.rej := by kernel_rfl
theorem nms_tick (s : Stp) : (nms s).tick = s.tick := by kernel_rfl
theorem nms_sn (s : Stp) : (nms s).sn = s.sn := by kernel_rfl

/-! ### What an order does -/
structure Orr where
  ack : Int
  err : Int
  placed : Bool
  el : El
  order : Int
def ordR (o : RO) (r : Orr) : Orr := ⟨o.o.q, o.e, if o.o.c = 3 then true else r.placed, if o.o.c = 3 then o.o.el else r.el, if o.o.c = 1 ∨ o.o.c = 2 then o.o.c else r.order⟩
def frmR (r : Orr) (x : Frm) : Orr := if x.1 = 16 then ordR (readO x.1 x.2) r else r
def orrOf (c : Cft) (n : Int) : Orr := ⟨c.ack, c.err, c.placed, c.el, n⟩
theorem readO_err (k : Int) (s : ByteArray) : ((readO k s).e ≠ 0 → (readO k s).o.c = 0) ∧ (0 ≤ (readO k s).o.q ∧ (readO k s).o.q ≤ 255) ∧ (0 ≤ (readO k s).e ∧ (readO k s).e ≤ 255) := by
  have h0 := Te.gOf_B s 0
  unfold readO
  repeat' split
  all_goals exact ⟨by simp, by dsimp only; omega, by dsimp only; omega⟩
theorem frm_orr (h : Hst) (x : Frm) : orrOf (frmP h x).c (frmP h x).s.sn.order = frmR (orrOf h.c h.s.sn.order) x := by
  have rej : ∀ (h : Hst), orrOf h.reject.c h.reject.s.sn.order = orrOf h.c h.s.sn.order := fun h => rfl
  unfold frmP frmR
  by_cases h3 : x.1 = 1 ∨ x.1 = 2 ∨ x.1 = 3
  · rw [if_pos h3, if_neg (by omega)]
    unfold sensP
    split <;> rfl
  rw [if_neg h3]
  by_cases h16 : x.1 = 16
  · rw [if_pos h16, if_pos h16]
    have he := (readO_err x.1 x.2).1
    generalize readO x.1 x.2 = o at *
    unfold ordP ordR
    by_cases e0 : o.e ≠ 0
    · rw [if_pos e0]
      have hc := he e0
      rw [if_neg (by omega), if_neg (by omega), if_neg (by omega)]
      rfl
    rw [if_neg e0]
    by_cases c12 : o.o.c = 1 ∨ o.o.c = 2
    · rw [if_pos c12, if_neg (by omega), if_neg (by omega), if_pos c12]; rfl
    rw [if_neg c12, if_neg c12]
    by_cases c3 : o.o.c = 3
    · rw [if_pos c3, if_pos c3, if_pos c3]; rfl
    rw [if_neg c3, if_neg c3, if_neg c3]
    split <;> rfl
  · rw [if_neg h16, if_neg h16]; rfl
theorem frms_orr : ∀ (l : List Frm) (h : Hst), orrOf (l.foldl frmP h).c (l.foldl frmP h).s.sn.order = l.foldl frmR (orrOf h.c h.s.sn.order)
  | [], h => rfl
  | x :: l, h => by rw [List.foldl_cons, List.foldl_cons, frms_orr l, frm_orr]
theorem hear_orr (c : Cft) (s : Stp) (b : ByteArray) : orrOf (hearP c s b).c (hearP c s b).s.sn.order = (scF (c.left ++ b)).foldl frmR (orrOf c s.sn.order) := by
  unfold hearP
  rw [frms_orr]
  congr 1
  split <;> rfl
theorem frm_left (h : Hst) (x : Frm) : (frmP h x).c.left = h.c.left ∧ (frmP h x).s.tick = h.s.tick := by
  unfold frmP
  repeat' split
  all_goals (try unfold sensP) <;> (try unfold ordP) <;> (try (repeat' split)) <;> exact ⟨rfl, rfl⟩
theorem frms_left : ∀ (l : List Frm) (h : Hst), (l.foldl frmP h).c.left = h.c.left ∧ (l.foldl frmP h).s.tick = h.s.tick
  | [], h => ⟨rfl, rfl⟩
  | x :: l, h => by rw [List.foldl_cons]; exact ⟨(frms_left l _).1.trans (frm_left h x).1, (frms_left l _).2.trans (frm_left h x).2⟩
theorem hear_left (c : Cft) (s : Stp) (b : ByteArray) : (hearP c s b).c.left = lfP (c.left ++ b) ∧ (hearP c s b).s.tick = s.tick := by
  unfold hearP
  refine ⟨(frms_left _ _).1.trans ?_, (frms_left _ _).2⟩
  split <;> rfl

/-! ### What stays so -/
structure Inv (c : Cft) : Prop where
  mode : Md.modeOk c.pl.mode = true
  faults : 0 ≤ c.pl.faults ∧ c.pl.faults ≤ 15
  ack : 0 ≤ c.ack ∧ c.ack ≤ 255
  err : 0 ≤ c.err ∧ c.err ≤ 255
  rej : 0 ≤ c.rej ∧ c.rej ≤ 65535
theorem rjct_in {r : Int} (h : 0 ≤ r ∧ r ≤ 65535) : rjct r = (if 65534 < r then 65535 else r + 1) ∧ 0 ≤ rjct r ∧ rjct r ≤ 65535 := by
  unfold rjct
  rw [wr_i64]
  by_cases h1 : (65534 : Int) < r
  · rw [if_pos h1, if_pos h1]; omega
  · rw [if_neg h1, if_neg h1]; omega
theorem Inv.reject {c : Cft} (h : Inv c) : Inv c.reject := ⟨h.mode, h.faults, h.ack, h.err, (rjct_in h.rej).2⟩
theorem Inv.frm {h : Hst} (hi : Inv h.c) (x : Frm) : Inv (frmP h x).c := by
  unfold frmP
  split
  · unfold sensP
    split
    · exact hi
    · exact hi.reject
  split
  · obtain ⟨h1, h2, h3⟩ := readO_err x.1 x.2
    generalize readO x.1 x.2 = o at *
    have ht : Inv (h.c.told o) := ⟨hi.mode, hi.faults, h2, h3, hi.rej⟩
    unfold ordP
    split
    · exact ht.reject
    split
    · exact ht
    split
    · exact ⟨ht.mode, ht.faults, ht.ack, ht.err, ht.rej⟩
    split
    · exact ⟨ht.mode, ⟨Int.le_refl 0, (by decide : (0 : Int) ≤ 15)⟩, ht.ack, ht.err, ⟨Int.le_refl 0, (by decide : (0 : Int) ≤ 65535)⟩⟩
    · exact ht
  · exact hi.reject
theorem Inv.frms : ∀ (l : List Frm) {h : Hst} (_ : Inv h.c), Inv (l.foldl frmP h).c
  | [], h, hi => hi
  | x :: l, h, hi => by rw [List.foldl_cons]; exact Inv.frms l (hi.frm x)
theorem Inv.hear {c : Cft} (h : Inv c) (s : Stp) (b : ByteArray) : Inv (hearP c s b).c := by
  unfold hearP
  refine Inv.frms _ ?_
  have h1 : Inv { c with left := lfP (c.left ++ b) } := ⟨h.mode, h.faults, h.ack, h.err, h.rej⟩
  show Inv (if ovP (c.left ++ b) > 0 then { c with left := lfP (c.left ++ b) }.reject else { c with left := lfP (c.left ++ b) })
  split
  · exact h1.reject
  · exact h1
theorem Inv.nm {c : Cft} (h : Inv c) : Inv (nm c) := ⟨by rw [nm_pl]; exact h.mode, by rw [nm_pl]; exact h.faults, by rw [nm_ack]; exact h.ack, by rw [nm_err]; exact h.err, by rw [nm_rej]; exact h.rej⟩
/-- What is not touched on the way to the plan. -/
structure Like (c d : Cft) : Prop where
  left : d.left = c.left
  pl : d.pl = c.pl
  placed : d.placed = c.placed
  el : d.el = c.el
  ack : d.ack = c.ack
  err : d.err = c.err
  rej : d.rej = c.rej
theorem Like.trans {a b c : Cft} (h : Like a b) (k : Like b c) : Like a c := ⟨k.left.trans h.left, k.pl.trans h.pl, k.placed.trans h.placed, k.el.trans h.el, k.ack.trans h.ack, k.err.trans h.err, k.rej.trans h.rej⟩
theorem Like.refl (c : Cft) : Like c c := ⟨rfl, rfl, rfl, rfl, rfl, rfl, rfl⟩
theorem Like.nm (c : Cft) : Like c (nm c) := ⟨nm_left c, nm_pl c, nm_placed c, nm_el c, nm_ack c, nm_err c, nm_rej c⟩
theorem Inv.like {c d : Cft} (h : Inv c) (k : Like c d) : Inv d := ⟨by rw [k.pl]; exact h.mode, by rw [k.pl]; exact h.faults, by rw [k.ack]; exact h.ack, by rw [k.err]; exact h.err, by rw [k.rej]; exact h.rej⟩
theorem drift_like (h : Hst) : Like h.c (driftP h) := by
  unfold driftP
  split
  · exact ⟨rfl, rfl, rfl, rfl, rfl, rfl, rfl⟩
  · exact Like.refl _
theorem guess_like (h : Hst) : Like h.c (guessP h) := by
  refine (drift_like h).trans ?_
  unfold guessP
  split
  · refine (Like.nm _).trans ?_
    exact ⟨rfl, rfl, rfl, rfl, rfl, rfl, rfl⟩
  · exact Like.refl _
theorem look_keeps (c : Cft) (s : Stp) (G : Int → Nat → Int) (P : Int → Bool) : (lookP c s G P).tick = s.tick ∧ (lookP c s G P).sn.order = s.sn.order ∧ (lookP c s G P).sn.gp = s.sn.gp ∧ (lookP c s G P).sn.gy = P 1 := by
  unfold lookP Cs.lookS lkS
  generalize lkSlow _ G P = a
  generalize (bif P 1 then a else s.sn.sl) = sl
  cases !c.placed with
  | true => exact ⟨rfl, rfl, rfl, rfl⟩
  | false =>
    simp only [cond_false]
    cases (lkFld Orb.placeP Su.dirP Fd.skyP c.el s).2 <;> exact ⟨rfl, rfl, rfl, rfl⟩
theorem seen_keeps (h : Hst) : (seenP h).tick = h.s.tick ∧ (seenP h).sn.order = h.s.sn.order ∧ (seenP h).sn.gp = h.s.sn.gp ∧ (seenP h).sn.gy = rdP h.rd 1 := by
  unfold seenP
  have := look_keeps (nm (driftP h)) (nms h.s) (rdG h.rd) (rdP h.rd)
  rw [nms_tick, nms_sn] at this
  exact this
theorem filt_keeps (c : Cft) (s : Stp) (G : Int → Nat → Int) (P : Int → Bool) : (filtS c s G P).tick = s.tick ∧ (filtS c s G P).sn.order = s.sn.order ∧ (filtS c s G P).sn.gp = s.sn.gp ∧ (filtS c s G P).sn.gy = s.sn.gy := by
  unfold filtS fiS
  cases (s.sn.pr && s.sn.li) <;> exact ⟨rfl, rfl, rfl, rfl⟩
theorem saw_keeps (h : Hst) : (sawP h).tick = h.s.tick ∧ (sawP h).sn.order = h.s.sn.order ∧ (sawP h).sn.gp = h.s.sn.gp ∧ (sawP h).sn.gy = rdP h.rd 1 := by
  have hs := seen_keeps h
  unfold sawP
  split
  · have hf := filt_keeps (nm (driftP h)) (nms (seenP h)) (rdG h.rd) (rdP h.rd)
    rw [nms_tick, nms_sn] at hf
    exact ⟨hf.1.trans hs.1, hf.2.1.trans hs.2.1, hf.2.2.1.trans hs.2.2.1, hf.2.2.2.trans hs.2.2.2⟩
  · exact hs
/-- What the plan leaves. -/
theorem plan_keeps (c : Cft) (s : Stp) : (planP c s).left = c.left ∧ (planP c s).placed = c.placed ∧ (planP c s).el = c.el ∧ (planP c s).ack = c.ack ∧ (planP c s).err = c.err ∧ (planP c s).rej = c.rej := by
  unfold planP plC
  repeat' split
  all_goals exact ⟨rfl, rfl, rfl, rfl, rfl, rfl⟩
theorem plan_pl (c : Cft) (s : Stp) : (planP c s).pl = Md.nextP c.pl s.sn ∨ ((Md.nextP c.pl s.sn).mode = 2 ∧ (planP c s).pl = ⟨1, 0, 0, 0, 0, bor .i64 (Md.nextP c.pl s.sn).faults 4⟩) := by
  unfold planP plC
  repeat' split
  all_goals first
    | exact .inl rfl
    | exact .inr ⟨by assumption, rfl⟩
theorem Inv.plan {c : Cft} (h : Inv c) (s : Stp) : Inv (planP c s) := by
  obtain ⟨_, _, _, h4, h5, h6⟩ := plan_keeps c s
  have hf := Md.next_faults c.pl s.sn h.faults
  have hm : Md.modeOk (planP c s).pl.mode = true ∧ (0 ≤ (planP c s).pl.faults ∧ (planP c s).pl.faults ≤ 15) := by
    rcases plan_pl c s with e | ⟨_, e⟩
    · rw [e]; exact ⟨Md.next_mode c.pl s.sn h.mode, hf⟩
    · rw [e]; exact ⟨rfl, Md.bor_in hf (.inr (.inr (.inl rfl)))⟩
  exact ⟨hm.1, hm.2, by rw [h4]; exact h.ack, by rw [h5]; exact h.err, by rw [h6]; exact h.rej⟩
theorem plan_safe (c : Cft) (s : Stp) (h : s.sn.order = 1) : (planP c s).pl.mode = 3 := by
  have hn := Md.next_safe c.pl s.sn h
  rcases plan_pl c s with e | ⟨h2, _⟩
  · rw [e]; exact hn
  · rw [hn] at h2; cases h2
/-- The craft behind a step. -/
theorem next_keeps (h : Hst) (t : Int) : (nextP h t).left = h.c.left ∧ (nextP h t).placed = h.c.placed ∧ (nextP h t).el = h.c.el ∧ (nextP h t).ack = h.c.ack ∧ (nextP h t).err = h.c.err ∧ (nextP h t).rej = h.c.rej := by
  have k := plan_keeps (nm (guessP h)) (nms (sawP h))
  have l := (guess_like h).trans (Like.nm (guessP h))
  exact ⟨k.1.trans l.left, k.2.1.trans l.placed, k.2.2.1.trans l.el, k.2.2.2.1.trans l.ack, k.2.2.2.2.1.trans l.err, k.2.2.2.2.2.trans l.rej⟩
theorem Inv.next {h : Hst} (hi : Inv h.c) (t : Int) : Inv (nextP h t) := by
  have k := (hi.like ((guess_like h).trans (Like.nm (guessP h)))).plan (nms (sawP h))
  exact ⟨k.mode, k.faults, k.ack, k.err, k.rej⟩
theorem next_safe (h : Hst) (t : Int) (ho : h.s.sn.order = 1) : (nextP h t).pl.mode = 3 := by
  refine plan_safe (nm (guessP h)) (nms (sawP h)) ?_
  rw [nms_sn, (saw_keeps h).2.1]
  exact ho

/-! ### What is told -/
theorem tell_right (c : Cft) (s : Stp) (hi : Inv c) (ht : isTick s.tick = true) : rightP (tellT c s) = true := by
  have hc := cutP_right (Te.seven Fx.part (c.gs 0) (c.gs 1) (c.gs 2) (c.gs 3) (tlM c).x (tlM c).y (tlM c).z)
  obtain ⟨_, _, _, _, _, _, q0, q1, q2, q3, d0, d1, d2⟩ := rightX hc
  have h0 : 0 ≤ s.tick ∧ s.tick ≤ 157766400000 := by
    unfold isTick at ht
    by_cases h : 0 ≤ s.tick
    · rw [decide_eq_true h, bt] at ht
      exact ⟨h, of_decide_eq_true ht⟩
    · rw [decide_eq_false h, bf] at ht; cases ht
  have hm : 0 ≤ c.pl.mode ∧ c.pl.mode ≤ 3 := by
    have := of_decide_eq_true hi.mode
    omega
  show Te.rightP ⟨s.tick, c.pl.mode, c.pl.faults, c.ack, c.err, c.rej, _, _, _, _, _, _, _⟩ = true
  unfold Te.rightP Te.i16
  simp only [Bool.and_eq_true, decide_eq_true_eq]
  exact ⟨⟨⟨⟨⟨⟨⟨⟨⟨⟨⟨⟨h0, hm⟩, hi.faults⟩, hi.ack⟩, hi.err⟩, hi.rej⟩, q0⟩, q1⟩, q2⟩, q3⟩, d0⟩, d1⟩, d2⟩
theorem not_idle {c : Cft} {t : Int} (h : idle c t = false) : isTick t = true ∧ (c.on = true → c.tick < t) := by
  unfold idle at h
  cases ht : isTick t with
  | false => rw [ht] at h; cases h
  | true =>
    rw [ht] at h
    refine ⟨rfl, fun ho => ?_⟩
    rw [ho] at h
    have h : decide (t ≤ c.tick) = false := h
    have := of_decide_eq_false h
    omega
/-- A step that tells something: what is told is right, and is read as that. -/
theorem step_told {c : Cft} {t : Int} (b : ByteArray) (hi : Inv c) (h : idle c t = false) :
    stepP c t b = ⟨nextP (stH c t b) t, outP (stH c t b) t⟩ ∧ Inv (stH c t b).c ∧ szOk (outP (stH c t b) t) = true ∧ toldP (outP (stH c t b) t) = ⟨tellT (nm (nextP (stH c t b) t)) (nms (sawP (stH c t b))), true⟩ ∧ (sawP (stH c t b)).tick = t := by
  have hh : Inv (stH c t b).c := hi.nm.hear _ b
  have hst : (stH c t b).s.tick = t := by
    unfold stH
    rw [(hear_left _ _ b).2, nms_tick]; rfl
  have htk : (sawP (stH c t b)).tick = t := (saw_keeps _).1.trans hst
  have hr := tell_right (nm (nextP (stH c t b) t)) (nms (sawP (stH c t b))) (hh.next t).nm (by rw [nms_tick, htk]; exact (not_idle h).1)
  obtain ⟨h1, h2⟩ := told_wrap _ hr
  refine ⟨?_, hh, h1, h2, htk⟩
  unfold stepP
  rw [if_neg (by rw [h]; simp)]
end Go.Proofs.YtdojnnlhaiennaaGreat.Tp

/- A frame of which a byte is turned is no frame; of its bytes nothing is left. Conditions: none. -/
namespace Go.Proofs.YtdojnnlhaiennaaGreat.Cr
open Go Go.Proofs.YtdojnnlhaiennaaGreat.Ae Go.Proofs.YtdojnnlhaiennaaGreat.Fx

/-! ### A sum tells one byte -/
def stW (x : W) (b : UInt8) : W := B8 (x ^^^ up b.toBitVec)
theorem byte1_W (x : W) (b : UInt8) : byte1 (I x) (b.toNat : Int) = I (stW x b) := byte1_I x b.toBitVec
theorem fold_W : ∀ (l : List UInt8) (x : W), (l.map fun b => (b.toNat : Int)).foldl byte1 (I x) = I (l.foldl stW x)
  | [], x => rfl
  | b :: l, x => by
    rw [List.map_cons, List.foldl_cons, List.foldl_cons, byte1_W]
    exact fold_W l (stW x b)
theorem I_inj {x y : W} (h : I x = I y) : x = y := by
  unfold I at h
  exact BitVec.eq_of_toNat_eq (by omega)
theorem xor_cancel {x y z : W} (h : x ^^^ z = y ^^^ z) : x = y := by
  have := congrArg (· ^^^ z) h
  simpa [BitVec.xor_assoc] using this
theorem stW_inj {x y : W} {b : UInt8} (h : stW x b = stW y b) : x = y := xor_cancel (B8_inj h)
theorem stW_byte {x : W} {b c : UInt8} (h : stW x b = stW x c) : b = c := by
  have h1 := B8_inj h
  rw [BitVec.xor_comm x, BitVec.xor_comm x] at h1
  have h2 := xor_cancel h1
  have h3 : b.toBitVec = c.toBitVec := by
    refine BitVec.eq_of_toNat_eq ?_
    have := congrArg BitVec.toNat h2
    unfold up at this
    simp only [BitVec.toNat_shiftLeft, BitVec.toNat_setWidth] at this
    have hb := b.toBitVec.isLt
    have hc := c.toBitVec.isLt
    rw [Nat.shiftLeft_eq, Nat.shiftLeft_eq] at this
    omega
  exact UInt8.toBitVec_inj.1 h3
theorem fold_inj : ∀ (l : List UInt8) {x y : W}, l.foldl stW x = l.foldl stW y → x = y
  | [], _, _, h => h
  | b :: l, x, y, h => by
    rw [List.foldl_cons, List.foldl_cons] at h
    exact stW_inj (fold_inj l h)
theorem crcL_W (l : List UInt8) : crcL l = I (l.foldl stW (65535#16)) := by
  unfold crcL
  exact fold_W l (65535#16)
/-- Two rows of bytes that differ in one byte have two sums. -/
theorem crc_one {l1 l2 : List UInt8} {b c : UInt8} (h : crcL (l1 ++ b :: l2) = crcL (l1 ++ c :: l2)) : b = c := by
  rw [crcL_W, crcL_W] at h
  have h := I_inj h
  rw [List.foldl_append, List.foldl_append, List.foldl_cons, List.foldl_cons] at h
  exact stW_byte (fold_inj l2 h)

/-! ### Bytes -/
theorem byteI_ext {s t : ByteArray} (hsz : t.size = s.size) (h : ∀ i, i < s.size → byteI t i = byteI s i) : t = s := by
  refine ba_ext (List.ext_getElem? fun i => ?_)
  by_cases hi : i < s.size
  · obtain ⟨b, h1, h2⟩ := byteI_l s i hi
    obtain ⟨c, h3, h4⟩ := byteI_l t i (by omega)
    have := h i hi
    rw [h2, h4] at this
    have : c = b := UInt8.toNat_inj.1 (by omega)
    rw [h1, h3, this]
  · rw [List.getElem?_eq_none (by rw [len_l]; omega), List.getElem?_eq_none (by rw [len_l]; omega)]
theorem extract_byte (s : ByteArray) (i j k : Nat) (hk : k < j - i) : byteI (s.extract i j) k = byteI s (i + k) := by
  rw [byteI_get, byteI_get, ext_l, List.getElem?_take, if_pos hk, List.getElem?_drop]
/-- A frame of which one byte is turned, not its third, is no frame. -/
theorem spoilt_shut {s t : ByteArray} (hs : opens s = true) (hsz : t.size = s.size) {k : Nat} (hk : k < s.size) (hne : byteI t k ≠ byteI s k) (same : ∀ i, i < s.size → i ≠ k → byteI t i = byteI s i) : opens t = false := by
  rw [← Bool.not_eq_true]
  intro ht
  obtain ⟨s5, s0, s2, s69, sc⟩ := of_decide_eq_true hs
  obtain ⟨t5, t0, t2, _, tc⟩ := of_decide_eq_true ht
  rw [hsz] at tc
  by_cases h0 : k = 0
  · subst h0; exact hne (by rw [t0, s0])
  by_cases hlow : k < s.size - 2
  · rw [same (s.size - 2) (by omega) (by omega), same (s.size - 1) (by omega) (by omega), ← sc, crcI_l, crcI_l, ext_l, ext_l] at tc
    obtain ⟨b, h1, h2⟩ := byteI_l s k hk
    obtain ⟨c, h3, h4⟩ := byteI_l t k (by omega)
    have hsame : ∀ i, i < s.size → i ≠ k → t.data.toList[i]? = s.data.toList[i]? := fun i hi hik => by
      obtain ⟨b, g1, g2⟩ := byteI_l s i hi
      obtain ⟨c, g3, g4⟩ := byteI_l t i (by omega)
      have := same i hi hik
      rw [g2, g4] at this
      rw [g1, g3, UInt8.toNat_inj.1 (by omega : c.toNat = b.toNat)]
    have hl := len_l s
    have hlt := len_l t
    have cut : ∀ (l : List UInt8) (a : UInt8), l[k]? = some a → l.length = s.size → (l.drop 1).take (s.size - 2 - 1) = ((l.drop 1).take (k - 1)) ++ a :: ((l.drop (k + 1)).take (s.size - 3 - k)) := fun l a ha hle => by
      refine List.ext_getElem? fun i => ?_
      rw [List.getElem?_take, List.getElem?_drop, List.getElem?_append, List.length_take, List.length_drop, List.getElem?_take, List.getElem?_drop]
      by_cases h1 : i < k - 1
      · rw [if_pos (by omega), if_pos (by omega), if_pos h1]
      · rw [if_neg (by omega : ¬ i < min (k - 1) (l.length - 1))]
        by_cases h2 : i = k - 1
        · rw [if_pos (by omega), show i - min (k - 1) (l.length - 1) = 0 by omega, List.getElem?_cons_zero, ← ha]
          congr 1; omega
        · obtain ⟨j, hj⟩ : ∃ j, i - min (k - 1) (l.length - 1) = j + 1 := ⟨i - min (k - 1) (l.length - 1) - 1, by omega⟩
          rw [hj, List.getElem?_cons_succ, List.getElem?_take, List.getElem?_drop]
          by_cases h3 : i < s.size - 2 - 1
          · rw [if_pos h3, if_pos (by omega)]
            congr 1; omega
          · rw [if_neg h3, if_neg (by omega)]
    rw [cut _ _ h1 hl, cut _ _ h3 (by omega)] at tc
    have e1 : (t.data.toList.drop 1).take (k - 1) = (s.data.toList.drop 1).take (k - 1) := List.ext_getElem? fun i => by
      rw [List.getElem?_take, List.getElem?_take]
      split
      · rw [List.getElem?_drop, List.getElem?_drop]; exact hsame _ (by omega) (by omega)
      · rfl
    have e2 : (t.data.toList.drop (k + 1)).take (s.size - 3 - k) = (s.data.toList.drop (k + 1)).take (s.size - 3 - k) := List.ext_getElem? fun i => by
      rw [List.getElem?_take, List.getElem?_take]
      split
      · rw [List.getElem?_drop, List.getElem?_drop]; exact hsame _ (by omega) (by omega)
      · rfl
    rw [e1, e2] at tc
    have := crc_one tc
    exact hne (by rw [h2, h4, this])
  · have he : t.extract 1 (s.size - 2) = s.extract 1 (s.size - 2) := by
      have z : ∀ u : ByteArray, u.size = s.size → (u.extract 1 (s.size - 2)).size = s.size - 3 := fun u hu => by
        rw [← len_l, ext_l, List.length_take, List.length_drop, len_l]; omega
      refine byteI_ext (by rw [z t hsz, z s rfl]) fun i hi => ?_
      rw [z s rfl] at hi
      rw [extract_byte _ _ _ _ (by omega), extract_byte _ _ _ _ (by omega)]
      exact same _ (by omega) (by omega)
    rw [he, sc] at tc
    have a1 := byteI_lt s (s.size - 2)
    have a2 := byteI_lt s (s.size - 1)
    have a3 := byteI_lt t (s.size - 2)
    have a4 := byteI_lt t (s.size - 1)
    rcases (show k = s.size - 2 ∨ k = s.size - 1 by omega) with rfl | rfl
    · exact hne (by omega)
    · exact hne (by omega)
/-! ### Their scan -/
theorem scan_none : ∀ (n : Nat) (t : ByteArray) (fs : List Frm) (o : Nat), t.size = n → (∀ i, i < t.size → byteI t i ≠ 165) → (scanP t fs o).fs = fs ∧ (scanP t fs o).left = eS
  | 0, t, fs, o, h, _ => by rw [scanP, if_pos h]; exact ⟨rfl, rfl⟩
  | n + 1, t, fs, o, h, hb => by
    rw [scanP, if_neg (by omega), if_pos (hb 0 (by omega))]
    have hz := tail_size t 1
    exact scan_none n (tailB t 1) fs (o + 1) (by omega) fun i hi => by rw [tail_byte]; exact hb _ (by omega)
theorem spoilt_scan {t : ByteArray} (h5 : 5 ≤ t.size) (h69 : t.size ≤ 69) (hl : byteI t 2 + 5 = t.size) (ho : opens t = false) (hb : ∀ i, 1 ≤ i → i < t.size → byteI t i ≠ 165) : (scanP t [] 0).fs = [] ∧ (scanP t [] 0).left = eS := by
  have hz := tail_size t 1
  have rest : ∀ o, (scanP (tailB t 1) [] o).fs = [] ∧ (scanP (tailB t 1) [] o).left = eS := fun o => scan_none _ _ [] o rfl fun i hi => by rw [tail_byte]; exact hb _ (by omega) (by omega)
  rw [scanP, if_neg (by omega)]
  by_cases h0 : byteI t 0 ≠ 165
  · rw [if_pos h0]; exact rest _
  rw [if_neg h0, if_neg (by omega)]
  have hf : fln t = t.size := by unfold fln; omega
  rw [if_neg (by omega), if_neg (by omega)]
  have he : t.extract 0 (fln t) = t := ba_ext (by rw [ext_l, hf, List.drop_zero, List.take_of_length_le (by rw [len_l]; omega)])
  rw [he, if_neg (by rw [ho]; simp)]
  exact rest _
end Go.Proofs.YtdojnnlhaiennaaGreat.Cr

/- What WholeOrders holds of a step: a contract. Conditions: none. -/
namespace Go.Proofs.YtdojnnlhaiennaaGreat.Ae
open Go
end Go.Proofs.YtdojnnlhaiennaaGreat.Ae
namespace Go.Proofs.YtdojnnlhaiennaaGreat.Tp
open Go Go.Proofs.YtdojnnlhaiennaaGreat.Ae Go.Proofs.YtdojnnlhaiennaaGreat.Fx Go.Proofs.YtdojnnlhaiennaaGreat.Cs
open Go.Proofs.YtdojnnlhaiennaaGreat.Te (Rd Tell)
open Go.Proofs.YtdojnnlhaiennaaGreat.Cr (Frm scanP cellsF)
open Go.Proofs.YtdojnnlhaiennaaGreat.Md (J)
open Go.Proofs.YtdojnnlhaiennaaGreat.Orb (El RO readO oreadF elEq)

abbrev eB (e : El) : AB := .cells e.av 30
section
variable (em : ByteArray → Bool) (fl : ByteArray → List AV) (ln : ByteArray → Nat) (lf : ByteArray → ByteArray) (ov : ByteArray → Int) (ro : Int → ByteArray → RO) (c d : Cft) (t : Tell) (b l : ByteArray) (st : Orr) (kd : Nat → Int) (dt : Nat → ByteArray) (n : Nat) (i : Int)
def woV : Bool := bif (bif st.order == 1 then d.pl.mode != 3 else false) then false
  else bif (bif (bif (bif t.a == st.ack then t.e == st.err else false) then d.placed == st.placed else false) then elEq d.el st.el else false) then d.left == l else false
end
/-! ### The contract -/
def woP (c d : Cft) (t : Tell) (b : ByteArray) : Bool := woV d t (lfP (c.left ++ b)) ((scF (c.left ++ b)).foldl frmR (orrOf c 0))
end Go.Proofs.YtdojnnlhaiennaaGreat.Tp

/- Is a play light? A contract. Conditions: none. -/
namespace Go.Proofs.YtdojnnlhaiennaaGreat.Tp
open Go Go.Proofs.YtdojnnlhaiennaaGreat.Ae Go.Proofs.YtdojnnlhaiennaaGreat.Fx Go.Proofs.YtdojnnlhaiennaaGreat.Cs
open Go.Proofs.YtdojnnlhaiennaaGreat.Te (Rd Tell)
open Go.Proofs.YtdojnnlhaiennaaGreat.Md (J)

/-! ### A play's steps in memory -/
abbrev plT' : TypeId := 24
abbrev recB (rt : TypeId) (ob : Obj) (o : Nat) (a : Nat → Int) (b : Nat → ByteArray) (n : Nat) : AB := .tabO ob o (fun i => [J (a i), .str (b i)]) 2 n rt
abbrev plA (bg : Int) (o n c : Nat) : List AV := [J bg, .slice 0 o n c]
abbrev plB (bg : Int) (o n c : Nat) : AB := .cells (plA bg o n c) plT'
def aOf (f : Nat → List AV) (i : Nat) : Int :=
  match f i with
  | [.int .i64 a, .str _] => a
  | _ => 0
def bOf (f : Nat → List AV) (i : Nat) : ByteArray :=
  match f i with
  | [.int .i64 _, .str b] => b
  | _ => Cr.eS
def isRec : List AV → Bool
  | [.int .i64 _, .str b] => Nat.ble b.size 140737488355328
  | _ => false
def rkP (n : Nat) (f : Nat → List AV) : Bool := Nat.ble n 140737488355328 && (List.range n).all fun i => isRec (f i)
theorem isRec_is {f : Nat → List AV} {i : Nat} (h : isRec (f i) = true) : f i = [J (aOf f i), .str (bOf f i)] ∧ (bOf f i).size ≤ 140737488355328 := by
  unfold isRec at h
  split at h
  · rename_i a b hf
    have e1 : aOf f i = a := by unfold aOf; rw [hf]
    have e2 : bOf f i = b := by unfold bOf; rw [hf]
    rw [hf, e1, e2]
    exact ⟨rfl, Nat.le_of_ble_eq_true h⟩
  · cases h
theorem rk_is {n : Nat} {f : Nat → List AV} (h : rkP n f = true) : n ≤ 140737488355328 ∧ ∀ i, i < n → f i = [J (aOf f i), .str (bOf f i)] ∧ (bOf f i).size ≤ 140737488355328 := by
  unfold rkP at h
  simp only [Bool.and_eq_true] at h
  exact ⟨Nat.le_of_ble_eq_true h.1, fun i hi => isRec_is (List.all_eq_true.1 h.2 i (List.mem_range.2 hi))⟩
theorem rk_tell {n o : Nat} {rt : TypeId} {oo : Obj} {f : Nat → List AV} (h : rkP n f = true) {m : List Nat} {ob : Obj} (hR : RB m (.tabO oo o f 2 n rt) ob) : RB m (recB rt oo o (aOf f) (bOf f) n) ob := by
  obtain ⟨e0, Vs, fz, e, g⟩ := hR
  refine ⟨e0, Vs, fz, e, fun i hi => ?_⟩
  obtain ⟨g1, g2, g3⟩ := g i hi
  rw [((rk_is h).2 i hi).1] at g3
  exact ⟨g1, rfl, g3⟩
theorem rk_back {n o : Nat} {rt : TypeId} {oo : Obj} {f : Nat → List AV} (h : rkP n f = true) {m : List Nat} {ob : Obj} (hR : RB m (recB rt oo o (aOf f) (bOf f) n) ob) : RB m (.tabO oo o f 2 n rt) ob := by
  obtain ⟨e0, Vs, fz, e, g⟩ := hR
  refine ⟨e0, Vs, fz, e, fun i hi => ?_⟩
  obtain ⟨g1, g2, g3⟩ := g i hi
  have := ((rk_is h).2 i hi).1
  exact ⟨g1, by rw [this]; rfl, by rw [this]; exact g3⟩
def sumB (b : Nat → ByteArray) : Nat → Nat
  | 0 => 0
  | n + 1 => sumB b n + (b n).size
theorem sumB_le (b : Nat → ByteArray) {i n : Nat} (h : i ≤ n) : sumB b i ≤ sumB b n := by
  induction n with
  | zero => have : i = 0 := by omega
            rw [this]; exact Nat.le_refl _
  | succ n ih =>
    by_cases hi : i = n + 1
    · rw [hi]; exact Nat.le_refl _
    · have := ih (by omega)
      show sumB b i ≤ sumB b n + (b n).size
      omega

/-! ### The walk -/
noncomputable def liB : Code := bodyOf Tryz.prog 7
noncomputable def liL : Code := Code.nav [1, 1, 0, 1, 2, 3] liB
section
variable (bg : Int) (rt : TypeId) (oo : Obj) (o n cp : Nat) (a : Nat → Int) (b : Nat → ByteArray) (s i : Int) (B : AB)
theorem li_0 : acode Tryz.prog [] 100 35 (Code.nav [0] liB) [(0, .agg (plA bg o n cp))] [B] (keepK [1]) = some (.normal, [(1, .ptr 1 0)], [B, plB bg o n cp]) := by kernel_rfl
theorem li_1 : acode Tryz.prog [] 100 35 (Code.nav [1, 0] liB) [(1, .ptr 1 0)] [B, plB bg o n cp] (keepK [1, 3]) = some (.normal, [(1, .ptr 1 0), (3, J 0)], [B, plB bg o n cp]) := by kernel_rfl
abbrev liT (s i : Int) : List (Nat × AV) := [(1, .ptr 1 0), (3, J s), (7, .slice 0 o n cp), (8, J n), (9, J i)]
theorem li_2 : acode Tryz.prog [] 100 35 (Code.nav [1, 1, 0, 0] liB) [(1, .ptr 1 0), (3, J 0)] [B, plB bg o n cp] (keepK [1, 3, 7, 8, 9]) = some (.normal, liT o n cp 0 0, [B, plB bg o n cp]) := by kernel_rfl
abbrev oJ (o : Nat) (i : Int) : Nat := (o + i.toNat * 2 - o) / 2
theorem li_round : acode Tryz.prog [] 100 35 liL (liT o n cp s i) [recB rt oo o a b n, plB bg o n cp] (keepL [1, 2, 3, 7, 8, 9] 2) =
    bif decide (i < (n : Int)) then
      bif decide (0 ≤ i) && decide (i < (n : Int)) then
        bif (Nat.beq 2 2 && Nat.ble 1 2 && Nat.ble o (o + i.toNat * 2) && Nat.beq ((o + i.toNat * 2 - o) % 2) 0 && Nat.ble (oJ o i + 1) n) then
          bif decide (wr .i64 (s + ((b (oJ o i)).size : Int)) > 3000) then some (.ret, [(1, .ptr 1 0), (2, .bool false), (3, J (wr .i64 (s + ((b (oJ o i)).size : Int)))), (7, .slice 0 o n cp), (8, J n), (9, J i)], [recB rt oo o a b n, plB bg o n cp])
          else some (.normal, [(1, .ptr 1 0), (2, .any), (3, J (wr .i64 (s + ((b (oJ o i)).size : Int)))), (7, .slice 0 o n cp), (8, J n), (9, J (wr .i64 (i + 1)))], [recB rt oo o a b n, plB bg o n cp])
        else none
      else none
    else some (.exit 0, [(1, .ptr 1 0), (2, .any), (3, J s), (7, .slice 0 o n cp), (8, J n), (9, J i)], [recB rt oo o a b n, plB bg o n cp]) := by kernel_rfl
theorem li_5 : acode Tryz.prog [] 100 35 (Code.nav [1, 1, 1] liB) [(1, .ptr 1 0)] [B, plB bg o n cp] (keepK [2]) =
    some (.ret, [(2, .bool (bif bif decide ((n : Int) ≤ 30) then decide (bg ≥ 0) else false then decide (bg ≤ 157766400000) else false))], [B, plB bg o n cp]) := by kernel_rfl
end
def lightV (bg : Int) (n : Nat) (b : Nat → ByteArray) : Bool := decide (sumB b n ≤ 3000 ∧ n ≤ 30 ∧ 0 ≤ bg ∧ bg ≤ 157766400000)
def lightF (rk : Nat → (Nat → List AV) → Bool) (lv : Int → Nat → (Nat → List AV) → Bool) (args : List AV) (B : AB) : Option AV :=
  match args, B with
  | [.agg [.int .i64 bg, .slice 0 o' n' _]], .tabO _ o f k n _ => bif Nat.beq o' o && Nat.beq n' n && Nat.beq k 2 && rk n f then some (.bool (lv bg n f)) else none
  | _, _ => none
theorem plA_trunc (bg : Int) (o n c : Nat) (L : Nat) (h : 1 ≤ L) : AV.truncL L (plA bg o n c) = plA bg o n c := by
  obtain ⟨k, rfl⟩ : ∃ k, L = k + 1 := ⟨L - 1, by omega⟩
  rfl
theorem light_con : EffOk Tryz.prog 7 anyArgs (peekF (lightF rkP fun bg n f => lightV bg n (bOf f))) := by
  refine peek_at (nt := 35) (res := [.tmp 2]) (by kernel_rfl) fun args v B hC hF => ?_
  unfold lightF at hF
  split at hF
  · rename_i bg o' n' cp oo o f k n rt
    cases hb : (Nat.beq o' o && Nat.beq n' n && Nat.beq k 2 && rkP n f) with
    | false => rw [hb] at hF; cases hF
    | true =>
      rw [hb] at hF
      simp only [cond_true, Option.some.injEq] at hF
      subst hF
      simp only [Bool.and_eq_true] at hb
      obtain ⟨⟨⟨h1, h2⟩, h3⟩, hrk⟩ := hb
      obtain rfl := Nat.eq_of_beq_eq_true h1
      obtain rfl := Nat.eq_of_beq_eq_true h2
      obtain rfl := Nat.eq_of_beq_eq_true h3
      obtain ⟨hn, hf⟩ := rk_is hrk
      have hin : (AB.tabO oo o' f 2 n' rt).inL 1 0 := fun j hj => by rw [(hf j hj).1]; rfl
      refine ⟨rfl, rfl, rfl, hin, fun _ _ _ => trivial, Nat.le_of_ble_eq_true rfl, fun m1 w0 a hm h0 => ?_⟩
      have h0 : At m1 w0 35 [(0, .agg (plA bg o' n' cp))] [.tabO oo o' f 2 n' rt] a w0 := h0
      have h0 := h0.tell 0 (.tabO oo o' f 2 n' rt) (recB rt oo o' (aOf f) (bOf f) n') rfl rfl (fun m o h => rk_tell hrk h) (fun _ _ _ => trivial)
      have h0 : At m1 w0 35 [(0, .agg (plA bg o' n' cp))] [recB rt oo o' (aOf f) (bOf f) n'] a w0 := h0
      have hsz : ∀ i, i < n' → (bOf f i).size ≤ 140737488355328 := fun i hi => (hf i hi).2
      have fin : ∀ {e : Exit} {T : List (Nat × AV)} {X : List AB} {r : Bool} {a : Act} {w : World}, e = .normal ∨ e = .ret → get T 2 = .bool r → r = lightV bg n' (bOf f) → At m1 w0 35 T (recB rt oo o' (aOf f) (bOf f) n' :: X) a w →
          (e = .normal ∨ e = .ret) ∧ ∃ T' X vs, At m1 w0 35 T' (.tabO oo o' f 2 n' rt :: X) a w ∧ ares Tryz.prog T' (.tabO oo o' f 2 n' rt :: X) [.tmp 2] = some vs ∧ tupOf vs = .bool (lightV bg n' (bOf f)) := by
        intro e T X r a w he hT hr hs
        refine ⟨he, T, X, [get T 2], hs.tell 0 (recB rt oo o' (aOf f) (bOf f) n') (.tabO oo o' f 2 n' rt) rfl rfl (fun m o h => rk_back hrk h) (fun _ _ _ => trivial), rfl, ?_⟩
        rw [hT, ← hr]; rfl
      refine wp_as liB rfl ?_
      refine wp_seqN (by kernel_rfl) (wp_as (Code.nav [0] liB) (by kernel_rfl) (At.codeK ok_nil 100 [1] (li_0 bg o' n' cp (recB rt oo o' (aOf f) (bOf f) n')) h0 fun a w hs => then_normal ?_))
      refine wp_seqN (by kernel_rfl) (wp_as (Code.nav [1, 0] liB) (by kernel_rfl) (At.codeK ok_nil 100 [1, 3] (li_1 bg o' n' cp _) hs fun a w hs => then_normal ?_))
      refine wp_seqN (by kernel_rfl) (wp_as (Code.nav [1, 1, 0] liB) (by kernel_rfl) ?_)
      refine wp_seqN (by kernel_rfl) (wp_as (Code.nav [1, 1, 0, 0] liB) (by kernel_rfl) (At.codeK ok_nil 100 [1, 3, 7, 8, 9] (li_2 bg o' n' cp _) hs fun a w hs => then_normal ?_))
      refine wp_blockN 0 (by kernel_rfl) (wp_as (.loop liL) (by kernel_rfl) ?_)
      refine At.loop (σ := Nat) (fun i a w => i ≤ n' ∧ sumB (bOf f) i ≤ 3000 ∧ At m1 w0 35 (liT o' n' cp (sumB (bOf f) i : Nat) i) [recB rt oo o' (aOf f) (bOf f) n', plB bg o' n' cp] a w) (fun i => n' - i) ?_ 0 ⟨Nat.zero_le _, Nat.zero_le _, hs⟩
      rintro i a w ⟨hi, hsum, hA⟩
      have hraw := li_round bg rt oo o' n' cp (aOf f) (bOf f) (sumB (bOf f) i : Nat) i
      have hj : oJ o' (i : Int) = i := by unfold oJ; rw [Int.toNat_natCast]; omega
      have keep : ∀ {T T2 : List (Nat × AV)} {X : List AB} {a : Act} {w : World}, At m1 w0 35 T ([recB rt oo o' (aOf f) (bOf f) n', plB bg o' n' cp] ++ X) a w → okT 2 T T2 → At m1 w0 35 T2 [recB rt oo o' (aOf f) (bOf f) n', plB bg o' n' cp] a w := fun hs hT =>
        hs.keep (by rw [hm]; exact Nat.le_of_ble_eq_true rfl) (by simp) hT ⟨.inr ⟨rfl, fun j _ => rfl⟩, .inr ⟨rfl, plA_trunc bg o' n' cp 2 (Nat.le_of_ble_eq_true rfl)⟩, trivial⟩
      by_cases hlt : i < n'
      · have hz := hsz i hlt
        have hw : wr .i64 (((sumB (bOf f) i : Nat) : Int) + ((bOf f i).size : Int)) = ((sumB (bOf f) (i + 1) : Nat) : Int) := by
          rw [Cr.w_of (by omega)]; rfl
        rw [hj, hw] at hraw
        rw [decide_eq_true (by omega : (i : Int) < n'), decide_eq_true (by omega : 0 ≤ (i : Int)), Nat.ble_eq_true_of_le (by omega : o' ≤ o' + (i : Int).toNat * 2), Nat.ble_eq_true_of_le (by omega : i + 1 ≤ n'), show Nat.beq ((o' + (i : Int).toNat * 2 - o') % 2) 0 = true by rw [Nat.add_sub_cancel_left, Nat.mul_mod_left]; rfl] at hraw
        by_cases hbig : 3000 < sumB (bOf f) (i + 1)
        · rw [decide_eq_true (by omega : ((sumB (bOf f) (i + 1) : Nat) : Int) > 3000)] at hraw
          refine At.codeKL ok_nil 100 [1, 2, 3, 7, 8, 9] 2 hraw hA fun X a w hs => then_ret (inBlock_ret (then_retN ?_))
          refine fin (.inr rfl) rfl ?_ hs
          have := sumB_le (bOf f) (show i + 1 ≤ n' by omega)
          exact (decide_eq_false (by omega)).symm
        · rw [decide_eq_false (by omega : ¬ ((sumB (bOf f) (i + 1) : Nat) : Int) > 3000)] at hraw
          refine At.codeKL ok_nil 100 [1, 2, 3, 7, 8, 9] 2 hraw hA fun X a w hs => then_normal ⟨i + 1, by omega, by omega, by omega, ?_⟩
          refine keep hs ⟨⟨rfl, rfl⟩, ⟨rfl, rfl⟩, ⟨rfl, rfl⟩, ⟨rfl, rfl⟩, ⟨?_, rfl⟩, trivial⟩
          show J (wr .i64 ((i : Int) + 1)) = J ((i + 1 : Nat) : Int)
          rw [Cr.w_of (by omega)]
          rfl
      · have : i = n' := by omega
        subst this
        rw [decide_eq_false (by omega : ¬ (i : Int) < i)] at hraw
        refine At.codeKL ok_nil 100 [1, 2, 3, 7, 8, 9] 2 hraw hA fun X a w hs => then_exit (inBlock_exit (then_normalN ?_))
        have hs := keep (T2 := [(1, .ptr 1 0)]) hs ⟨⟨rfl, rfl⟩, trivial⟩
        refine wp_as (Code.nav [1, 1, 1] liB) (by kernel_rfl) (At.codeK ok_nil 100 [2] (li_5 bg o' i cp _) hs fun a w hs => ?_)
        refine fin (.inr rfl) rfl ?_ hs
        unfold lightV
        by_cases h1 : i ≤ 30
        · rw [decide_eq_true (by omega : (i : Int) ≤ 30), bt]
          by_cases h2 : 0 ≤ bg
          · rw [decide_eq_true (by omega : bg ≥ 0), bt]
            by_cases h3 : bg ≤ 157766400000
            · rw [decide_eq_true h3, decide_eq_true ⟨hsum, h1, h2, h3⟩]
            · rw [decide_eq_false h3, decide_eq_false (by omega)]
          · rw [decide_eq_false (by omega : ¬ bg ≥ 0), bf, decide_eq_false (by omega)]
        · rw [decide_eq_false (by omega : ¬ (i : Int) ≤ 30), bf, bf, decide_eq_false (by omega)]
  · cases hF
end Go.Proofs.YtdojnnlhaiennaaGreat.Tp

/- A play, step by step: each, a contract. Conditions: none. -/
namespace Go.Proofs.YtdojnnlhaiennaaGreat.Ae
open Go
/-- What is compared with itself is equal. -/
theorem aeq_refl {P : Program} : ∀ (d : Nat) (t : TypeId) (x : AV) (b : Bool), aeq P d t x x = some b → b = true
  | 0, _, _, _, h => by cases h
  | d + 1, t, x, b, h => by
    have ih := aeq_refl (P := P) d
    have fields : ∀ (xs : List AV) (fs : List Field) (b : Bool), aeq.aeqFields (aeq P d) P xs xs fs = some b → b = true := by
      intro xs fs
      induction fs with
      | nil => intro b h; simp only [aeq.aeqFields, Option.some.injEq] at h; exact h.symm
      | cons f fs ih2 =>
        intro b h
        simp only [aeq.aeqFields] at h
        split at h
        · cases h1 : partA P f.type xs f.offset with
          | none => rw [h1] at h; cases h
          | some a =>
            rw [h1] at h
            simp only at h
            cases h2 : aeq P d f.type a a with
            | none => rw [h2] at h; cases h
            | some r =>
              rw [h2] at h
              simp only at h
              cases h3 : aeq.aeqFields (aeq P d) P xs xs fs with
              | none => rw [h3] at h; cases h
              | some s =>
                rw [h3] at h
                simp only [Option.some.injEq] at h
                rw [← h, ih _ _ _ h2, ih2 _ h3]; rfl
        · exact ih2 b h
    have items : ∀ (xs : List AV) (e : TypeId) (sz : Nat) (n i : Nat) (b : Bool), aeq.aeqItems (aeq P d) P xs xs e sz n i = some b → b = true := by
      intro xs e sz n
      induction n with
      | zero => intro i b h; simp only [aeq.aeqItems, Option.some.injEq] at h; exact h.symm
      | succ n ih2 =>
        intro i b h
        simp only [aeq.aeqItems] at h
        cases h1 : partA P e xs (i * sz) with
        | none => rw [h1] at h; cases h
        | some a =>
          rw [h1] at h
          simp only at h
          cases h2 : aeq P d e a a with
          | none => rw [h2] at h; cases h
          | some r =>
            rw [h2] at h
            simp only at h
            cases h3 : aeq.aeqItems (aeq P d) P xs xs e sz n (i + 1) with
            | none => rw [h3] at h; cases h
            | some s =>
              rw [h3] at h
              simp only [Option.some.injEq] at h
              rw [← h, ih _ _ _ h2, ih2 _ _ h3]; rfl
    unfold aeq at h
    split at h
    all_goals first
      | (cases h; done)
      | (rename_i hq; cases hq; done)
      | (rename_i hq; cases hq; simp only [beq_self_eq_true, Option.some.injEq] at h; exact h.symm)
      | (rename_i hq; cases hq; simp only [Option.some.injEq] at h; rw [← h]; exact (Cr.ba_beq _ _).2 rfl)
      | (rename_i hq; cases hq; simp only [Option.some.injEq] at h; exact h.symm)
      | (rename_i hq
         cases hq
         split at h
         · simp only [beq_self_eq_true, Option.some.injEq] at h; exact h.symm
         · cases h)
      | (rename_i hq
         cases hq
         split at h
         · cases h
         · exact fields _ _ _ h)
      | (rename_i hq
         cases hq
         split at h
         · exact items _ _ _ _ _ _ h
         · cases h)
end Go.Proofs.YtdojnnlhaiennaaGreat.Ae
namespace Go.Proofs.YtdojnnlhaiennaaGreat.Tp
open Go Go.Proofs.YtdojnnlhaiennaaGreat.Ae Go.Proofs.YtdojnnlhaiennaaGreat.Fx Go.Proofs.YtdojnnlhaiennaaGreat.Cs
open Go.Proofs.YtdojnnlhaiennaaGreat.Te (Rd Tell)
open Go.Proofs.YtdojnnlhaiennaaGreat.Md (J)

/-- Crafts compared. -/
noncomputable def aeqB (l l' : List AV) : Bool := (aeq Tryz.prog 10000 44 (.agg l) (.agg l')).getD false
theorem aeqB_refl (c : Cft) : aeqB c.av c.av = true := by
  have h : (aeq Tryz.prog 10000 44 (.agg c.av) (.agg c.av)).isSome = true := by kernel_rfl
  obtain ⟨b, hb⟩ := Option.isSome_iff_exists.1 h
  unfold aeqB
  rw [hb, aeq_refl _ _ _ _ hb]; rfl

def clampv (x : Int) : Int := if (1000000 : Int) < (if (-1000000 : Int) > x then -1000000 else x) then 1000000 else (if (-1000000 : Int) > x then -1000000 else x)
def later (t x : Int) : Int := wr .i64 (t + clampv x)
section
variable (sc : Cft → ByteArray → Bool) (sp : Cft → Int → ByteArray → Sres) (tc : ByteArray → Bool) (td : ByteArray → Rd) (hc : Cft → ByteArray → Bool) (hv : Cft → Cft → Tell → ByteArray → Bool)
variable (bg : Int) (rt : TypeId) (oo : Obj) (o n cp : Nat) (a : Nat → Int) (b : Nat → ByteArray) (c : Cft) (t i : Int) (B : AB)
abbrev cl : AV := .fn 9 []
end

/-! ### A round holds -/
theorem scan_left : ∀ (t : ByteArray) (fs : List Cr.Frm) (o : Nat), (Cr.scanP t fs o).left.size ≤ t.size := by
  have key : ∀ (n : Nat) (t : ByteArray) (fs : List Cr.Frm) (o : Nat), t.size ≤ n → (Cr.scanP t fs o).left.size ≤ t.size := by
    intro n
    induction n with
    | zero =>
      intro t fs o h
      rw [Cr.scanP, if_pos (by omega)]
      exact Nat.zero_le _
    | succ n ih =>
      intro t fs o h
      rw [Cr.scanP]
      by_cases h0 : t.size = 0
      · rw [if_pos h0]; exact Nat.zero_le _
      rw [if_neg h0]
      have h1 := Cr.tail_size t 1
      have hf : 5 ≤ Cr.fln t := by unfold Cr.fln; omega
      have h2 := Cr.tail_size t (Cr.fln t)
      have g1 := ih (Cr.tailB t 1) fs (o + 1) (by omega)
      have g2 := ih (Cr.tailB t (Cr.fln t)) (fs ++ [Cr.frm (t.extract 0 (Cr.fln t))]) o (by omega)
      repeat' split
      all_goals first
        | exact Nat.le_refl _
        | omega
  intro t fs o
  exact key t.size t fs o (Nat.le_refl _)
theorem orr_nm (c : Cft) (n : Int) : orrOf (nm c) n = orrOf c n := by
  unfold orrOf
  rw [nm_ack, nm_err, nm_placed, nm_el]
theorem st_orr (c : Cft) (t : Int) (b : ByteArray) : orrOf (stH c t b).c (stH c t b).s.sn.order = (scF (c.left ++ b)).foldl frmR (orrOf c 0) ∧ (stH c t b).c.left = lfP (c.left ++ b) := by
  unfold stH
  have h1 := hear_orr (nm c) (nms (st1 c t)) b
  have h2 := (hear_left (nm c) (nms (st1 c t)) b).1
  rw [orr_nm, nm_left, nms_sn] at h1
  rw [nm_left] at h2
  exact ⟨h1, h2⟩
theorem elEq_refl' (x : Orb.El) : Orb.elEq x x = true := Orb.elEq_refl x
/-- What is held of a step is so. -/
theorem held {c : Cft} {t : Int} (b : ByteArray) : woP c (nm (nextP (stH c t b) t)) (tellT (nm (nextP (stH c t b) t)) (nms (sawP (stH c t b)))) b = true := by
  obtain ⟨h1, h2⟩ := st_orr c t b
  unfold woP
  rw [← h1, ← h2]
  generalize stH c t b = h
  obtain ⟨k1, k2, k3, k4, k5, k6⟩ := next_keeps h t
  have hs : ¬ (h.s.sn.order = 1 ∧ (nm (nextP h t)).pl.mode ≠ 3) := fun hh => hh.2 (by rw [nm_pl]; exact next_safe h t hh.1)
  unfold woV
  have e1 : (bif (orrOf h.c h.s.sn.order).order == 1 then (nm (nextP h t)).pl.mode != 3 else false) = false := by
    show (bif h.s.sn.order == 1 then (nm (nextP h t)).pl.mode != 3 else false) = false
    by_cases ho : h.s.sn.order = 1
    · rw [show (h.s.sn.order == 1) = true by rw [ho]; rfl, bt]
      have : (nm (nextP h t)).pl.mode = 3 := by rw [nm_pl]; exact next_safe h t ho
      rw [this]; rfl
    · rw [show (h.s.sn.order == 1) = false from beq_eq_false_iff_ne.2 ho, bf]
  rw [e1, bf]
  have a1 : (tellT (nm (nextP h t)) (nms (sawP h))).a = (orrOf h.c h.s.sn.order).ack := by
    show (nm (nextP h t)).ack = h.c.ack
    rw [nm_ack, k4]
  have a2 : (tellT (nm (nextP h t)) (nms (sawP h))).e = (orrOf h.c h.s.sn.order).err := by
    show (nm (nextP h t)).err = h.c.err
    rw [nm_err, k5]
  have a3 : (nm (nextP h t)).placed = (orrOf h.c h.s.sn.order).placed := by rw [nm_placed, k2]; rfl
  have a4 : (nm (nextP h t)).el = (orrOf h.c h.s.sn.order).el := by rw [nm_el, k3]; rfl
  have a5 : (nm (nextP h t)).left = h.c.left := by rw [nm_left, k1]
  rw [a1, a2, a3, a4, a5]
  rw [show ((orrOf h.c h.s.sn.order).ack == (orrOf h.c h.s.sn.order).ack) = true from beq_self_eq_true _, bt,
    show ((orrOf h.c h.s.sn.order).err == (orrOf h.c h.s.sn.order).err) = true from beq_self_eq_true _, bt,
    show ((orrOf h.c h.s.sn.order).placed == (orrOf h.c h.s.sn.order).placed) = true from beq_self_eq_true _, bt, elEq_refl', bt]
  exact (Cr.ba_beq _ _).2 rfl
structure Good (c : Cft) (k : Nat) : Prop where
  inv : Inv c
  left : c.left.size ≤ k
theorem Good.fits {c : Cft} {k : Nat} (h : Good c k) {b : ByteArray} (hk : k + b.size ≤ 90000) : stepC (nm c) b = true ∧ fitP (nm c) b = true := by
  have h1 : fitP (nm c) b = true := by
    unfold fitP
    rw [nm_left]
    have := h.left
    exact Nat.ble_eq_true_of_le (by omega)
  unfold stepC
  rw [h1, nm_pl, h.inv.mode]
  exact ⟨rfl, rfl⟩
theorem Good.step {c : Cft} {k : Nat} (h : Good c k) (t : Int) (b : ByteArray) : Good (stepP (nm c) t b).c (k + b.size) := by
  cases hi : idle (nm c) t with
  | true =>
    unfold stepP
    rw [if_pos hi]
    exact ⟨h.inv.nm, by rw [nm_left]; have := h.left; omega⟩
  | false =>
    obtain ⟨h1, h2, _⟩ := step_told b h.inv.nm hi
    rw [h1]
    refine ⟨h2.next t, ?_⟩
    rw [(next_keeps _ t).1, (st_orr (nm c) t b).2, nm_left]
    have h3 := scan_left (c.left ++ b) [] 0
    have h4 : (c.left ++ b).size = c.left.size + b.size := ByteArray.size_append
    have := h.left
    show (Cr.scanP (c.left ++ b) [] 0).left.size ≤ _
    omega
end Go.Proofs.YtdojnnlhaiennaaGreat.Tp

/- A step in which a spoilt frame comes is the step without it, but for what is rejected. Conditions: none. -/
namespace Go.Proofs.YtdojnnlhaiennaaGreat.Tp
open Go Go.Proofs.YtdojnnlhaiennaaGreat.Ae Go.Proofs.YtdojnnlhaiennaaGreat.Fx Go.Proofs.YtdojnnlhaiennaaGreat.Cs
open Go.Proofs.YtdojnnlhaiennaaGreat.Cr (Frm scanP)
open Go.Proofs.YtdojnnlhaiennaaGreat.Md (Pl Sn)

theorem nm_rejct (c : Cft) (r : Int) : nm { c with rej := r } = { nm c with rej := r } := by kernel_rfl
def withRej (h : Hst) (r : Int) : Hst := { h with c := { h.c with rej := r } }
theorem drift_rej (h : Hst) (r : Int) : driftP (withRej h r) = { driftP h with rej := r } := by
  unfold driftP withRej
  dsimp only
  split <;> rfl
theorem seen_rej (h : Hst) (r : Int) : seenP (withRej h r) = seenP h := by
  unfold seenP
  rw [drift_rej, nm_rejct]
  rfl
theorem guess_rej (h : Hst) (r : Int) : guessP (withRej h r) = { guessP h with rej := r } := by
  unfold guessP
  rw [seen_rej, drift_rej, nm_rejct]
  have e : goes { driftP h with rej := r } (seenP h) = goes (driftP h) (seenP h) := rfl
  rw [e]
  cases goes (driftP h) (seenP h) with
  | true => rw [if_pos rfl, if_pos rfl]; rfl
  | false => rw [if_neg (by simp), if_neg (by simp)]
theorem saw_rej (h : Hst) (r : Int) : sawP (withRej h r) = sawP h := by
  unfold sawP
  rw [seen_rej, drift_rej, nm_rejct]
  have e : goes { driftP h with rej := r } (seenP h) = goes (driftP h) (seenP h) := rfl
  rw [e]
  cases goes (driftP h) (seenP h) with
  | true => rw [if_pos rfl, if_pos rfl]; rfl
  | false => rw [if_neg (by simp), if_neg (by simp)]
theorem plan_rej (c : Cft) (s : Stp) (r : Int) : planP { c with rej := r } s = { planP c s with rej := r } := by
  unfold planP plC
  dsimp only
  repeat' split
  all_goals rfl
theorem next_rej (h : Hst) (r : Int) (t : Int) : nextP (withRej h r) t = { nextP h t with rej := r } := by
  unfold nextP
  rw [guess_rej, saw_rej, nm_rejct, plan_rej]
theorem eS_app (t : ByteArray) : Cr.eS ++ t = t := Cr.ba_ext (by rw [Cr.app_l]; rfl)
theorem scan_eS : scanP Cr.eS [] 0 = ⟨[], Cr.eS, 0⟩ := by rw [Cr.scanP, if_pos (show Cr.eS.size = 0 from rfl)]
theorem hear_spoilt {c : Cft} (s : Stp) {b : ByteArray} (hl : c.left = Cr.eS) (h1 : (scanP b [] 0).fs = []) (h2 : (scanP b [] 0).left = Cr.eS) :
    ∃ r, hearP c s b = withRej (hearP c s Cr.eS) r ∧ (r = (hearP c s Cr.eS).c.rej ∨ r = rjct (hearP c s Cr.eS).c.rej) := by
  have e1 : scF b = [] := h1
  have e2 : lfP b = Cr.eS := h2
  have f1 : scF Cr.eS = [] := by unfold scF; rw [scan_eS]
  have f2 : lfP Cr.eS = Cr.eS := by unfold lfP; rw [scan_eS]
  have f3 : ovP Cr.eS = 0 := by unfold ovP; rw [scan_eS]; rfl
  unfold hearP
  rw [hl, eS_app, eS_app, e1, e2, f1, f2, f3, if_neg (by decide : ¬ (0 : Int) > 0)]
  by_cases ho : ovP b > 0
  · rw [if_pos ho]
    exact ⟨_, rfl, .inr rfl⟩
  · rw [if_neg ho]
    exact ⟨c.rej, rfl, .inl rfl⟩
/-- The two steps. -/
theorem spoilt_step {c : Cft} (t : Int) {b : ByteArray} (hl : c.left = Cr.eS) (h1 : (scanP b [] 0).fs = []) (h2 : (scanP b [] 0).left = Cr.eS) :
    ∃ r, (stepP c t b).c = { (stepP c t Cr.eS).c with rej := r } ∧ (r = (stepP c t Cr.eS).c.rej ∨ ((stepP c t Cr.eS).c.on = true ∧ r = rjct (stepP c t Cr.eS).c.rej)) := by
  unfold stepP
  by_cases hi : idle c t = true
  · rw [if_pos hi, if_pos hi]
    exact ⟨c.rej, rfl, .inl rfl⟩
  · rw [if_neg hi, if_neg hi]
    obtain ⟨r, e, hr⟩ := hear_spoilt (c := nm c) (nms (st1 c t)) (by rw [nm_left]; exact hl) h1 h2
    have e' : stH c t b = withRej (stH c t Cr.eS) r := e
    have k := (next_keeps (stH c t Cr.eS) t).2.2.2.2.2
    refine ⟨r, ?_, ?_⟩
    · show nextP (stH c t b) t = _
      rw [e', next_rej]
    · show r = (nextP (stH c t Cr.eS) t).rej ∨ ((nextP (stH c t Cr.eS) t).on = true ∧ r = rjct (nextP (stH c t Cr.eS) t).rej)
      rw [k]
      rcases hr with h | h
      · exact .inl h
      · exact .inr ⟨rfl, h⟩
/-- What the law says of the two crafts. -/
noncomputable def spV (a d : Cft) : Bool :=
  bif (bif (bif !d.on then true else decide (d.rej < a.rej)) then true else decide (d.rej > wr .i64 (a.rej + 1))) then aeqB a.av d.av else aeqB a.av { d with rej := a.rej }.av
theorem spV_true {a d : Cft} {r : Int} (hd : d = { a with rej := r }) (hr : r = a.rej ∨ (a.on = true ∧ r = rjct a.rej)) (hi : 0 ≤ a.rej ∧ a.rej ≤ 65535) : spV a d = true := by
  have e2 : aeqB a.av { d with rej := a.rej }.av = true := by
    have : ({ d with rej := a.rej } : Cft) = a := by rw [hd]
    rw [this]; exact aeqB_refl a
  unfold spV
  rw [e2]
  rcases hr with rfl | ⟨hon, rfl⟩
  · have : d = a := by rw [hd]
    rw [this, aeqB_refl a]
    cases (bif (bif !a.on then true else decide (a.rej < a.rej)) then true else decide (a.rej > wr .i64 (a.rej + 1))) <;> rfl
  · have hdon : d.on = true := by rw [hd]; exact hon
    have hdr : d.rej = rjct a.rej := by rw [hd]
    have h1 := (rjct_in hi).1
    have hw : wr .i64 (a.rej + 1) = a.rej + 1 := Cr.w_of (by omega)
    have g1 : ¬ rjct a.rej < a.rej := by rw [h1]; split <;> omega
    have g2 : ¬ rjct a.rej > a.rej + 1 := by rw [h1]; split <;> omega
    rw [hdon, hdr, hw, decide_eq_false g1, decide_eq_false g2]
    rfl
end Go.Proofs.YtdojnnlhaiennaaGreat.Tp

/- A region in which one function is called by a contract whose guard sees memory. Conditions: that contract. -/
namespace Go.Proofs.YtdojnnlhaiennaaGreat.Ae
open Go

/-- A contract with a guard that sees memory. -/
def GuardOk (P : Program) (f : FuncId) (G : List AV → List AB → Bool) (F : List AV → List AB → Option (AV × List AB)) : Prop := ∀ args H v H', G args H = true → F args H = some (v, H') → ∀ m (Args : Array Value) w, RL m args Args.toList → HR m H w →
  Calls P f Args w fun e w' => ∃ V m', e = .returned V ∧ R m' v V ∧ HR m' H' w' ∧ Ext m w m' w'
def dcG {ρ : Type} (f : FuncId) (G : List AV → List AB → Bool) (F : List AV → List AB → Option (AV × List AB)) (fid : FuncId) (args : List AV) (H : List AB) (K : AV → List AB → Option ρ) : Option ρ :=
  bif Nat.beq fid f then
    bif G args H then
      match F args H with
      | some (v, H') => K v H'
      | none => none
    else none
  else none
theorem dcG_DC {P : Program} {f : FuncId} {G : List AV → List AB → Bool} {F : List AV → List AB → Option (AV × List AB)} (he : EnterOk P f) (hf : GuardOk P f G F) {ρ : Type} : DC P (dcG (ρ := ρ) f G F) := by
  intro fid args H K r h m Args w hA hH
  unfold dcG at h
  cases hfid : Nat.beq fid f with
  | false => rw [hfid] at h; cases h
  | true =>
    rw [hfid] at h
    simp only [cond_true] at h
    obtain rfl := Nat.eq_of_beq_eq_true hfid
    cases hG : G args H with
    | false => rw [hG] at h; cases h
    | true =>
      rw [hG] at h
      simp only [cond_true] at h
      split at h
      · rename_i v H' hv
        exact .inr ⟨he Args w, (hf args H v H' hG hv m Args w hA hH).mono fun e w' ⟨V, m', e1, e2, e3, e4⟩ => ⟨v, V, m', H', e1, e2, e3, e4, h⟩⟩
      · cases h
def Code.isReg : Code → Bool
  | .region _ _ false => true
  | _ => false
def regOps : Code → Array Oper
  | .region _ ops _ => ops
  | _ => #[]
def keepR (ks : List Nat) (T : List (Nat × AV)) (H : List AB) : Option (List (Nat × AV) × List AB) := some (ks.map fun k => (k, get T k), H)
theorem At.region {P : Program} {f : FuncId} {G : List AV → List AB → Bool} {F : List AV → List AB → Option (AV × List AB)} (he : EnterOk P f) (hf : GuardOk P f G F) (ks : List Nat) {m0 : List Nat} {w0 : World} {n : Nat} {c : Code} (hc : Code.isReg c = true) {T T' : List (Nat × AV)} {H H' : List AB}
    (h : aops P (dcG f G F) (regOps c) n (regOps c).toList T H (keepR ks) = some (T', H')) {Q : Exit → Act → World → Prop} {a : Act} {w : World} (hs : At m0 w0 n T H a w)
    (hQ : ∀ a' w', At m0 w0 n T' H' a' w' → Q .normal a' w') : c.wp P Q a w := by
  match c, hc, h with
  | .region id ops false, hc, h =>
    obtain ⟨⟨m, h1, h2, h3⟩, h4⟩ := hs
    have := aops_ok (P := P) (Q := Q) (ops := ops) (n := n) (dcG_DC he hf) ops.toList 0 (by simp [regOps]) m T H a w h h1 h2 (fun T2 H2 a' m' w' q1 q2 q3 q4 q5 => by
      cases q5
      refine hQ a' w' ⟨⟨m', ⟨q1.1, fun i => ?_⟩, q2, h3.trans q3⟩, q4.trans h4⟩
      rcases get_keep T2 ks i with h | h
      · rw [h]; simp only [R]
      · rw [h]; exact q1.2 i)
    refine wp_region ?_
    rw [List.range_eq_range']
    simpa [regOps] using this
/-- A guarded look at the first block. -/
theorem peek_guard {P : Program} {f : FuncId} {F : List AV → AB → Option AV} (h : EffOk P f (fun _ => true) (peekF F)) {G : List AV → List AB → Bool} {F' : List AV → List AB → Option (AV × List AB)}
    (hF : ∀ args H v H', G args H = true → F' args H = some (v, H') → peekF F args H = some (v, H')) : GuardOk P f G F' := fun args H v H' hG hv => h args H v H' rfl (hF args H v H' hG hv)
end Go.Proofs.YtdojnnlhaiennaaGreat.Ae

/- A play, step by step; a first step; WholeOrders. Conditions: none. -/
namespace Go.Proofs.YtdojnnlhaiennaaGreat.Tp
open Go Go.Proofs.YtdojnnlhaiennaaGreat.Ae Go.Proofs.YtdojnnlhaiennaaGreat.Fx Go.Proofs.YtdojnnlhaiennaaGreat.Cs
open Go.Proofs.YtdojnnlhaiennaaGreat.Te (Rd Tell)
open Go.Proofs.YtdojnnlhaiennaaGreat.Row (ansK)
open Go.Proofs.YtdojnnlhaiennaaGreat.Md (J)

theorem en_step : EnterOk Tryz.prog 13 := enter_at (nt := 106) (res := [.cell 6 44, .tmp 7]) (by kernel_rfl)
theorem en_told : EnterOk Tryz.prog 25 := enter_of Tryz.func25 (by kernel_rfl) rfl
theorem Inv.zero : Inv Cft.zero := ⟨rfl, ⟨Int.le_refl 0, (by decide : (0 : Int) ≤ 15)⟩, ⟨Int.le_refl 0, (by decide : (0 : Int) ≤ 255)⟩, ⟨Int.le_refl 0, (by decide : (0 : Int) ≤ 255)⟩, ⟨Int.le_refl 0, (by decide : (0 : Int) ≤ 65535)⟩⟩
theorem Good.zero : Good Cft.zero 0 := ⟨Inv.zero, Nat.le_refl 0⟩
theorem light_is {bg : Int} {n : Nat} {b : Nat → ByteArray} (h : lightV bg n b = true) : sumB b n ≤ 3000 ∧ n ≤ 30 ∧ 0 ≤ bg ∧ bg ≤ 157766400000 := of_decide_eq_true h
/-! ### A first step -/
theorem ok_Li : EnvOk Tryz.prog (envLi stepC stepP szOk toldP) := EnvOk.p (EnvOk.p ok_nil en_told told_con) en_step step_conK
theorem zero_idle : idle (nm Cft.zero) 5 = false := by kernel_rfl
theorem zero_hear : (stH (nm Cft.zero) 5 Cr.eS).rd = (fun _ => none) ∧ (stH (nm Cft.zero) 5 Cr.eS).c.pl = Md.Pl.zero ∧ (stH (nm Cft.zero) 5 Cr.eS).s.sn.order = 0 := by
  have e0 : (nm (nm Cft.zero)).left ++ Cr.eS = Cr.eS := by
    rw [nm_left, nm_left]; rfl
  have es : Cr.scanP Cr.eS [] 0 = ⟨[], Cr.eS, 0⟩ := by rw [Cr.scanP, if_pos (show Cr.eS.size = 0 from rfl)]
  have e1 : scF Cr.eS = [] := by unfold scF; rw [es]
  have e2 : ovP Cr.eS = 0 := by unfold ovP; rw [es]; rfl
  unfold stH hearP
  rw [e0, e1, e2, if_neg (by decide)]
  refine ⟨rfl, ?_, ?_⟩
  · show (nm (nm Cft.zero)).pl = _
    rw [nm_pl, nm_pl]; rfl
  · show (nms (st1 (nm Cft.zero) 5)).sn.order = 0
    rw [nms_sn]; rfl
theorem zero_mode (h : Hst) (hr : h.rd = fun _ => none) (hp : h.c.pl = Md.Pl.zero) (ho : h.s.sn.order = 0) (t : Int) : (nextP h t).pl.mode = 0 := by
  have hl := ((guess_like h).trans (Like.nm (guessP h))).pl
  have hk := saw_keeps h
  have hn : (Md.nextP (nm (guessP h)).pl (nms (sawP h)).sn).mode = 0 := by
    rw [hl, hp, nms_sn]
    unfold Md.nextP
    rw [if_neg (by rw [hk.2.1, ho]; decide), if_neg (by decide), if_pos (show Md.Pl.zero.mode = 0 from rfl)]
    have hgy : (sawP h).sn.gy = false := by
      rw [hk.2.2.2, hr]; rfl
    rw [hgy]
    rfl
  show (planP (nm (guessP h)) (nms (sawP h))).pl.mode = 0
  rcases plan_pl (nm (guessP h)) (nms (sawP h)) with e | ⟨e, _⟩
  · rw [e]; exact hn
  · rw [hn] at e; cases e
theorem lights_con : PureOk Tryz.prog 6 anyArgs (fun args => match args with | [] => some (.bool true) | _ => none) := by
  refine pure_of ok_Li 60 _ _ _ ?_
  rintro args v - h
  split at h
  · cases h
    refine ⟨rfl, rfl, (lights_raw stepC stepP szOk toldP).trans ?_⟩
    obtain ⟨h1, _, h3, h4, h5⟩ := step_told (c := nm Cft.zero) (t := 5) Cr.eS Inv.zero.nm zero_idle
    obtain ⟨z1, z2, z3⟩ := zero_hear
    have hm := zero_mode _ z1 z2 z3 5
    have hc := (Good.zero.fits (b := Cr.eS) (by decide)).1
    rw [hc, h1]
    show lightsT true (szOk (outP (stH (nm Cft.zero) 5 Cr.eS) 5)) (nextP (stH (nm Cft.zero) 5 Cr.eS) 5).on (toldP (outP (stH (nm Cft.zero) 5 Cr.eS) 5)) = _
    rw [h3, h4]
    unfold lightsT
    rw [bt, bt]
    have t1 : (tellT (nm (nextP (stH (nm Cft.zero) 5 Cr.eS) 5)) (nms (sawP (stH (nm Cft.zero) 5 Cr.eS)))).m = 0 := by
      show (nm (nextP (stH (nm Cft.zero) 5 Cr.eS) 5)).pl.mode = 0
      rw [nm_pl, hm]
    have t2 : (tellT (nm (nextP (stH (nm Cft.zero) 5 Cr.eS) 5)) (nms (sawP (stH (nm Cft.zero) 5 Cr.eS)))).t = 5 := by
      show (nms (sawP (stH (nm Cft.zero) 5 Cr.eS))).tick = 5
      rw [nms_tick, h5]
    rw [show (nextP (stH (nm Cft.zero) 5 Cr.eS) 5).on = true from rfl, bt]
    simp only
    rw [t1, t2]
    rfl
  · cases h
/-! ### The law -/
/-! ### Their guards told apart -/
def liG (rk : Nat → (Nat → List AV) → Bool) (args : List AV) (H : List AB) : Bool :=
  match args, H with
  | [.agg [.int .i64 _, .slice 0 o' n' _]], .tabO _ o f k n _ :: _ => Nat.beq o' o && Nat.beq n' n && Nat.beq k 2 && rk n f
  | _, _ => false
def liV (lv : Int → Nat → (Nat → List AV) → Bool) (args : List AV) (H : List AB) : Option (AV × List AB) :=
  match args, H with
  | [.agg [.int .i64 bg, .slice 0 _ _ _]], .tabO oo o f k n t :: r => some (.bool (lv bg n f), .tabO oo o f k n t :: r)
  | _, _ => none
theorem light_g : GuardOk Tryz.prog 7 (liG rkP) (liV fun bg n f => lightV bg n (bOf f)) := peek_guard light_con fun args H v H' hG hv => by
  unfold liV at hv
  split at hv
  · rename_i bg o' n' cp oo o f k n t r
    have hG : (Nat.beq o' o && Nat.beq n' n && Nat.beq k 2 && rkP n f) = true := hG
    cases hv
    show (match (bif Nat.beq o' o && Nat.beq n' n && Nat.beq k 2 && rkP n f then some (AV.bool (lightV bg n (bOf f))) else none) with | some v => some (v, AB.tabO oo o f k n t :: r) | none => none) = _
    rw [hG]; rfl
  · cases hv
theorem en_light : EnterOk Tryz.prog 7 := enter_at (nt := 35) (res := [.tmp 2]) (by kernel_rfl)
/-! ### The law -/
def yesL : List AV → Option AV := fun args => match args with | [] => some (.bool true) | _ => none
def envL : Env := [(6, .pure anyArgs yesL)]
theorem ok_L : EnvOk Tryz.prog envL := EnvOk.p ok_nil (enter_of Tryz.func6 (by kernel_rfl) rfl) lights_con
section
variable (rk : Nat → (Nat → List AV) → Bool) (lv : Int → Nat → (Nat → List AV) → Bool) (bg : Int) (rt : TypeId) (oo : Obj) (o n cp : Nat) (f : Nat → List AV) (x : Bool) (B : AB)
end
theorem beqN (n : Nat) : Nat.beq n n = true := Nat.beq_refl n
end Go.Proofs.YtdojnnlhaiennaaGreat.Tp

/- WholeSpoilt, piece by piece. Conditions: none. -/
namespace Go.Proofs.YtdojnnlhaiennaaGreat.Tp
open Go Go.Proofs.YtdojnnlhaiennaaGreat.Ae Go.Proofs.YtdojnnlhaiennaaGreat.Fx Go.Proofs.YtdojnnlhaiennaaGreat.Cs
open Go.Proofs.YtdojnnlhaiennaaGreat.Te (Rd Tell)
open Go.Proofs.YtdojnnlhaiennaaGreat.Md (J)
open Go.Proofs.YtdojnnlhaiennaaGreat.Cr (wrapC wrapF envRO)

def envRX (fr : Int → ByteArray → ByteArray) (bd : Int → ByteArray → Bool) : Env := [(12, .pure anyArgs (wrapF fr bd))]
noncomputable def spB : Code := bodyOf Tryz.prog 4
abbrev frB (k : Int) (d : ByteArray) : AB := .cells [J k, .str d] 53
abbrev tuB (x y : Int) : AB := .cells [J x, .int .u8 y] 61
abbrev s3T : List (Nat × AV) := [(3, .ptr 1 0), (4, .ptr 2 0), (5, .ptr 3 0)]
section
variable (rk : Nat → (Nat → List AV) → Bool) (lv : Int → Nat → (Nat → List AV) → Bool) (bg : Int) (rt : TypeId) (oo : Obj) (o n cp : Nat) (f : Nat → List AV) (B C D E F G : AB) (k x y : Int) (d s : ByteArray) (m : Nat) (g : Nat → Int)
theorem sp_0 : acode Tryz.prog [] 100 142 (Code.nav [0] spB) [(0, .agg (plA bg o n cp)), (1, .agg [J k, .str d]), (2, .agg [J x, .int .u8 y])] [B] (keepK [3, 4, 5]) = some (.normal, s3T, [B, plB bg o n cp, frB k d, tuB x y]) := by kernel_rfl
theorem sp_1 : acode Tryz.prog envL 100 142 (Code.nav [1, 0] spB) s3T [B, C, D, E] (keepK [3, 4, 5]) = some (.normal, s3T, [B, C, D, E]) := by kernel_rfl
theorem sp_2 (fr : Int → ByteArray → ByteArray) (bd : Int → ByteArray → Bool) : acode Tryz.prog (envRX fr bd) 100 142 (Code.nav [1, 1, 0] spB) s3T [B, C, frB k d, E] (keepK [3, 5, 7, 8]) =
    some (.normal, [(3, .ptr 1 0), (5, .ptr 3 0), (7, .str (fr k d)), (8, .bool (!bd k d))], [B, C, frB k d, E]) := by kernel_rfl
theorem sp_3 (ok : Bool) : aops Tryz.prog (dcG 7 (liG rk) (liV lv)) (regOps (Code.nav [1, 1, 1, 0, 0] spB)) 142 (regOps (Code.nav [1, 1, 1, 0, 0] spB)).toList [(3, .ptr 1 0), (5, .ptr 3 0), (7, .str s), (8, .bool ok)] [.tabO oo o f 2 n rt, plB bg o n cp, D, tuB x y] (keepR [3, 5, 7, 38]) =
    bif (Nat.beq o o && Nat.beq n n && Nat.beq 2 2 && rk n f) then
      (bif !lv bg n f then some ([(3, .ptr 1 0), (5, .ptr 3 0), (7, .str s), (38, .bool true)], [.tabO oo o f 2 n rt, plB bg o n cp, D, tuB x y])
      else bif (bif false then true else !ok) then some ([(3, .ptr 1 0), (5, .ptr 3 0), (7, .str s), (38, .bool true)], [.tabO oo o f 2 n rt, plB bg o n cp, D, tuB x y])
      else some ([(3, .ptr 1 0), (5, .ptr 3 0), (7, .str s), (38, .bool (bif false then true else y == 0))], [.tabO oo o f 2 n rt, plB bg o n cp, D, tuB x y])) else none := by kernel_rfl
theorem sp_4 (q : Bool) : acode Tryz.prog [] 100 142 (Code.nav [1, 1, 1, 0, 1] spB) [(3, .ptr 1 0), (5, .ptr 3 0), (7, .str s), (38, .bool q)] [B, C, D, E] (keepK [3, 5, 6, 7]) =
    bif q then some (.ret, [(3, .ptr 1 0), (5, .ptr 3 0), (6, .bool true), (7, .str s)], [B, C, D, E]) else some (.normal, [(3, .ptr 1 0), (5, .ptr 3 0), (6, .any), (7, .str s)], [B, C, D, E]) := by kernel_rfl
theorem sp_5 : acode Tryz.prog [] 100 142 (Code.nav [1, 1, 1, 1, 0] spB) [(3, .ptr 1 0), (5, .ptr 3 0), (6, .any), (7, .str s)] [B, C, D, E] (keepK [3, 5, 9]) = some (.normal, [(3, .ptr 1 0), (5, .ptr 3 0), (9, .own 4 s.size)], [B, C, D, E, .ro (s.data.toList.map fun b => AV.int .u8 (b.toNat : Int)) 5, .dead]) := by kernel_rfl
theorem sp_6 : acode Tryz.prog [] 100 142 (Code.nav [1, 1, 1, 1, 1, 0] spB) [(3, .ptr 1 0), (5, .ptr 3 0), (9, .own 4 m)] [B, C, D, tuB x y, F, .dead] (keepK [3, 5, 9, 10]) =
    bif (m : Int) == 0 then none else bif (m : Int) == 0 then none else some (.normal, [(3, .ptr 1 0), (5, .ptr 3 0), (9, .own 4 m), (10, J ((wr .i64 (x.tmod m + m)).tmod m))], [B, C, D, tuB x y, F, .dead]) := by kernel_rfl
theorem sp_7 : acode Tryz.prog [] 100 142 (Code.nav [1, 1, 1, 1, 1, 1, 0] spB) [(3, .ptr 1 0), (5, .ptr 3 0), (9, .own 4 m), (10, J k)] [B, C, D, tuB x y, .bts m g 5, .dead] (keepK [3, 9, 10]) =
    bif decide (0 ≤ k) && decide (k < (m : Int)) then
      bif Nat.beq 1 1 && Nat.ble 0 (k.toNat * 1) && Nat.ble (k.toNat * 1 - 0 + 1) m then
        bif decide (0 ≤ k) && decide (k < (m : Int)) then
          bif Nat.beq 1 1 && Nat.ble (k.toNat * 1 + 1) m then
            some (.normal, [(3, .ptr 1 0), (9, .own 4 m), (10, J k)], [B, C, D, tuB x y, .bts m (btsPut g (k.toNat * 1) (bxor .u8 (g (k.toNat * 1 - 0)) y)) 5, .dead])
          else none
        else none
      else none
    else none := by kernel_rfl
theorem sp_8 : acode Tryz.prog [] 100 142 (Code.nav [1, 1, 1, 1, 1, 1, 1, 0] spB) [(3, .ptr 1 0), (9, .own 4 m), (10, J k)] [B, C, D, E, F, .dead] (keepK [3, 6, 9]) =
    bif k == 2 then some (.ret, [(3, .ptr 1 0), (6, .bool true), (9, .own 4 m)], [B, C, D, E, F, .dead]) else some (.normal, [(3, .ptr 1 0), (6, .any), (9, .own 4 m)], [B, C, D, E, F, .dead]) := by kernel_rfl
theorem sp_9 : acode Tryz.prog [] 100 142 (Code.nav [1, 1, 1, 1, 1, 1, 1, 1, 0, 0] spB) [(3, .ptr 1 0), (6, .any), (9, .own 4 m)] [B, C, D, E, F, .dead] (keepK [3, 6, 9, 11]) = some (.normal, [(3, .ptr 1 0), (6, .any), (9, .own 4 m), (11, J 1)], [B, C, D, E, F, .dead]) := by kernel_rfl
noncomputable def spL : Code := Code.nav [1, 1, 1, 1, 1, 1, 1, 1, 0, 1, 2, 3] spB
theorem sp_round : acode Tryz.prog [] 100 142 spL [(3, .ptr 1 0), (6, .any), (9, .own 4 m), (11, J k)] [B, C, D, E, .bts m g 5, .dead] (keepK [3, 6, 9, 11]) =
    bif decide (k < (m : Int)) then
      bif decide (0 ≤ k) && decide (k < (m : Int)) then
        bif Nat.beq 1 1 && Nat.ble 0 (k.toNat * 1) && Nat.ble (k.toNat * 1 - 0 + 1) m then
          bif g (k.toNat * 1 - 0) == 165 then some (.ret, [(3, .ptr 1 0), (6, .bool true), (9, .own 4 m), (11, J k)], [B, C, D, E, .bts m g 5, .dead])
          else some (.normal, [(3, .ptr 1 0), (6, .any), (9, .own 4 m), (11, J (wr .i64 (k + 1)))], [B, C, D, E, .bts m g 5, .dead])
        else none
      else none
    else some (.exit 0, [(3, .ptr 1 0), (6, .any), (9, .own 4 m), (11, J k)], [B, C, D, E, .bts m g 5, .dead]) := by kernel_rfl
end
end Go.Proofs.YtdojnnlhaiennaaGreat.Tp

/- WholeSpoilt, piece by piece: the second half. Conditions: none. -/
namespace Go.Proofs.YtdojnnlhaiennaaGreat.Tp
open Go Go.Proofs.YtdojnnlhaiennaaGreat.Ae Go.Proofs.YtdojnnlhaiennaaGreat.Fx Go.Proofs.YtdojnnlhaiennaaGreat.Cs
open Go.Proofs.YtdojnnlhaiennaaGreat.Md (J)

def envSp (sc : Cft → ByteArray → Bool) (sp : Cft → Int → ByteArray → Sres) : Env := [(13, .pure (stpK sc) (stpG sp))]
theorem ok_Sp : EnvOk Tryz.prog (envSp stepC stepP) := EnvOk.p ok_nil en_step step_conK
section
variable (sc : Cft → ByteArray → Bool) (sp : Cft → Int → ByteArray → Sres) (bg : Int) (rt : TypeId) (oo : Obj) (o n cp : Nat) (a : Nat → Int) (b : Nat → ByteArray) (c A D' : Cft) (t i : Int) (B C D E F : AB) (m : Nat) (g : Nat → Int)
theorem sp_16 : acode Tryz.prog [] 100 142 (Code.nav [1, 1, 1, 1, 1, 1, 1, 1, 1, 0] spB) [(3, .ptr 1 0), (9, .own 4 m)] [B, plB bg o n cp, D, E, F, .dead] (keepK [3, 9, 12]) = some (.normal, [(3, .ptr 1 0), (9, .own 4 m), (12, .ptr 6 0)], [B, plB bg o n cp, D, E, F, .dead, cB Cft.zero]) := by kernel_rfl
theorem sp_17 : acode Tryz.prog [] 100 142 (Code.nav [1, 1, 1, 1, 1, 1, 1, 1, 1, 1, 0] spB) [(3, .ptr 1 0), (9, .own 4 m), (12, .ptr 6 0)] [B, plB bg o n cp, D, E, F, .dead, cB c] (keepK [3, 9, 12, 13]) = some (.normal, [(3, .ptr 1 0), (9, .own 4 m), (12, .ptr 6 0), (13, J bg)], [B, plB bg o n cp, D, E, F, .dead, cB c]) := by kernel_rfl
abbrev spT (t i : Int) : List (Nat × AV) := [(9, .own 4 m), (12, .ptr 6 0), (13, J t), (76, .slice 0 o n cp), (77, J n), (78, J i)]
theorem sp_18 : acode Tryz.prog [] 100 142 (Code.nav [1, 1, 1, 1, 1, 1, 1, 1, 1, 1, 1, 0, 0] spB) [(3, .ptr 1 0), (9, .own 4 m), (12, .ptr 6 0), (13, J t)] [B, plB bg o n cp, D, E, F, .dead, cB c] (keepK [9, 12, 13, 76, 77, 78]) = some (.normal, spT o n cp m t 0, [B, plB bg o n cp, D, E, F, .dead, cB c]) := by kernel_rfl
noncomputable def spP : Code := Code.nav [1, 1, 1, 1, 1, 1, 1, 1, 1, 1, 1, 0, 1, 2, 3] spB
theorem sp_play : acode Tryz.prog (envSp sc sp) 100 142 spP (spT o n cp m t i) [recB rt oo o a b n, C, D, E, F, .dead, cB c] (keepL [9, 12, 13, 76, 77, 78] 7) =
    bif decide (i < (n : Int)) then
      bif decide (0 ≤ i) && decide (i < (n : Int)) then
        bif (Nat.beq 2 2 && Nat.ble 1 2 && Nat.ble o (o + i.toNat * 2) && Nat.beq ((o + i.toNat * 2 - o) % 2) 0 && Nat.ble (oJ o i + 1) n) then
          bif sc (nm c) (b (oJ o i)) then some (.normal, spT o n cp m (later t (a (oJ o i))) (wr .i64 (i + 1)), [recB rt oo o a b n, C, D, E, F, .dead, cB (sp (nm c) (later t (a (oJ o i))) (b (oJ o i))).c]) else none
        else none
      else none
    else some (.exit 2, spT o n cp m t i, [recB rt oo o a b n, C, D, E, F, .dead, cB c]) := by kernel_rfl
theorem sp_24 : acode Tryz.prog [] 100 142 (Code.nav [1, 1, 1, 1, 1, 1, 1, 1, 1, 1, 1, 1, 0] spB) [(9, .own 4 m), (12, .ptr 6 0)] [B, C, D, E, F, .dead, cB c] (keepK [9, 12]) = some (.normal, [(9, .own 4 m), (12, .ptr 6 0)], [B, C, D, E, F, .dead, cB { c with left := Cr.eS }]) := by kernel_rfl
theorem sp_25 : acode Tryz.prog [] 100 142 (Code.nav [1, 1, 1, 1, 1, 1, 1, 1, 1, 1, 1, 1, 1, 0] spB) [(9, .own 4 m), (12, .ptr 6 0)] [B, C, D, E, F, .dead, cB c] (keepK [9, 12, 13]) = some (.normal, [(9, .own 4 m), (12, .ptr 6 0), (13, J (wr .i64 (c.tick + 500)))], [B, C, D, E, F, .dead, cB c]) := by kernel_rfl
theorem sp_26 : acode Tryz.prog (envSp sc sp) 100 142 (Code.nav [1, 1, 1, 1, 1, 1, 1, 1, 1, 1, 1, 1, 1, 1, 0] spB) [(9, .own 4 m), (12, .ptr 6 0), (13, J t)] [B, C, D, E, F, .dead, cB c] (keepK [9, 12, 13, 16]) =
    bif sc (nm c) Cr.eS then some (.normal, [(9, .own 4 m), (12, .ptr 6 0), (13, J t), (16, .ptr 7 0)], [B, C, D, E, F, .dead, cB c, cB (sp (nm c) t Cr.eS).c]) else none := by kernel_rfl
theorem sp_27 : acode Tryz.prog (envSp sc sp) 100 142 (Code.nav [1, 1, 1, 1, 1, 1, 1, 1, 1, 1, 1, 1, 1, 1, 1, 0] spB) [(9, .own 4 m), (12, .ptr 6 0), (13, J t), (16, .ptr 7 0)] [B, C, D, E, .bts m g 5, .dead, cB c, cB A] (keepK [16, 18]) =
    bif Nat.beq m m then
      bif sc (nm c) (strOf ((List.range m).map g)) then some (.normal, [(16, .ptr 7 0), (18, .ptr 8 0)], [B, C, D, E, .bts m g 5, .dead, cB c, cB A, cB (sp (nm c) t (strOf ((List.range m).map g))).c]) else none
    else none := by kernel_rfl
abbrev sp9 (A D' : Cft) : List AB := [B, C, D, E, F, .dead, cB c, cB A, cB D']
theorem sp_28 : acode Tryz.prog [] 100 142 (Code.nav [1, 1, 1, 1, 1, 1, 1, 1, 1, 1, 1, 1, 1, 1, 1, 1, 0] spB) [(16, .ptr 7 0), (18, .ptr 8 0)] (sp9 c B C D E F A D') (keepK [6, 16, 18]) =
    bif (bif (bif !D'.on then true else decide (D'.rej < A.rej)) then true else decide (D'.rej > wr .i64 (A.rej + 1))) then some (.ret, [(6, .bool (aeqB A.av D'.av)), (16, .ptr 7 0), (18, .ptr 8 0)], sp9 c B C D E F A D')
    else some (.normal, [(6, .any), (16, .ptr 7 0), (18, .ptr 8 0)], sp9 c B C D E F A D') := by kernel_rfl
theorem sp_30 : acode Tryz.prog [] 100 142 (Code.nav [1, 1, 1, 1, 1, 1, 1, 1, 1, 1, 1, 1, 1, 1, 1, 1, 1] spB) [(6, .any), (16, .ptr 7 0), (18, .ptr 8 0)] (sp9 c B C D E F A D') (keepK [6]) =
    some (.ret, [(6, .bool (aeqB A.av { D' with rej := A.rej }.av))], sp9 c B C D E F A { D' with rej := A.rej }) := by kernel_rfl
end
end Go.Proofs.YtdojnnlhaiennaaGreat.Tp

/- The frame that is spoilt. Conditions: none. -/
namespace Go.Proofs.YtdojnnlhaiennaaGreat.Cr
open Go Go.Proofs.YtdojnnlhaiennaaGreat.Ae Go.Proofs.YtdojnnlhaiennaaGreat.Fx

theorem bad_in {k : Int} {d : ByteArray} (h : badF k d = false) : (0 ≤ k ∧ k ≤ 255) ∧ d.size ≤ 64 := by
  unfold badF at h
  by_cases h1 : k < 0
  · rw [decide_eq_true h1] at h; cases h
  · by_cases h2 : k > 255
    · rw [decide_eq_false h1, decide_eq_true h2] at h; cases h
    · by_cases h3 : (d.size : Int) > 64
      · rw [decide_eq_false h1, decide_eq_false h2, decide_eq_true h3] at h; cases h
      · exact ⟨by omega, by omega⟩
theorem rwrap_any : PureOk Tryz.prog 12 anyArgs (wrapF wrapB badF) := by
  refine pure_of ok_O 100 _ _ _ fun args v hC hv => ?_
  unfold wrapF at hv
  split at hv
  · rename_i k d
    cases hv
    refine ⟨rfl, rfl, ?_⟩
    rw [show (fun (v : AV) (_ : List AB) => bif v.noPtr then some v else none) = okK from rfl, rwrap_raw]
    unfold wrapB
    cases hb : badF k d with
    | true => rfl
    | false =>
      have hd : d.size ≤ 64 := (bad_in hb).2
      have h1 : (headB k d).size = 2 + d.size := by unfold headB; rw [ByteArray.size_append, str2]
      have h2 : ({ data := #[165] } : ByteArray).size = 1 := rfl
      rw [ByteArray.size_append, str2, str2, h1, h2, decide_eq_true (by omega : 2 + d.size ≤ 4611686018427387904), Nat.ble_eq_true_of_le (by omega : 2 + d.size ≤ 100000), decide_eq_true (by omega : 1 + (2 + d.size) ≤ 4611686018427387904), decide_eq_true (by omega : 1 + (2 + d.size) + 2 ≤ 4611686018427387904)]
      rfl
  · cases hv
/-- The frame's bytes. -/
theorem frame_l (k : Int) (d : ByteArray) : ∃ c1 c2, (frameB k d).data.toList = 165 :: UInt8.ofNat (wr .u8 k).toNat :: UInt8.ofNat (wr .u8 (d.size : Int)).toNat :: (d.data.toList ++ [c1, c2]) := by
  refine ⟨UInt8.ofNat (wr .u8 (wr .u16 ((crcI (headB k d)).tdiv 256))).toNat, UInt8.ofNat (wr .u8 ((crcI (headB k d)).tmod 256)).toNat, ?_⟩
  unfold frameB headB
  rw [app_l, app_l, app_l, strOf_l, strOf_l]
  simp
theorem frame_opens {k : Int} {d : ByteArray} (h : badF k d = false) : opens (frameB k d) = true ∧ (frameB k d).size = d.size + 5 := by
  obtain ⟨⟨k0, k1⟩, d64⟩ := bad_in h
  obtain ⟨c1, c2, hl⟩ := frame_l k d
  have hd := len_l d
  have hsz : (frameB k d).size = d.size + 5 := by
    rw [← len_l, hl]
    simp only [List.length_cons, List.length_append, List.length_nil]
    omega
  refine ⟨?_, hsz⟩
  have hk : byteI (frameB k d) 1 = k := by
    rw [byteI_at _ 1 (UInt8.ofNat (wr .u8 k).toNat) (by rw [hl]; rfl)]
    have : wr .u8 k = k % 256 := rfl
    rw [this, UInt8.toNat_ofNat']
    omega
  have hx : (frameB k d).extract 3 ((frameB k d).size - 2) = d := by
    refine ba_ext ?_
    rw [ext_l, hl, hsz, List.drop_succ_cons, List.drop_succ_cons, List.drop_succ_cons, List.drop_zero, List.take_append_of_le_length (by omega), List.take_of_length_le (by omega)]
  have hlaw := open_law (frameB k d) (by omega)
  rw [hk, hx, h] at hlaw
  have hw : wrapB k d = frameB k d := by unfold wrapB; rw [h]; rfl
  rw [hw, (ba_beq _ _).2 rfl] at hlaw
  cases ho : opens (frameB k d) with
  | true => rfl
  | false => rw [ho] at hlaw; cases hlaw
/-! ### A byte is turned -/
theorem bx8 (a b : BitVec 8) : bxor .u8 (I8 a) (I8 b) = I8 (a ^^^ b) := by
  unfold bxor
  show IntKind.u8.wrap ((BitVec.ofInt 8 (I8 a) ^^^ BitVec.ofInt 8 (I8 b)).toNat : Int) = _
  have h2 : ∀ c : BitVec 8, BitVec.ofInt 8 (c.toNat : Int) = c := fun c => BitVec.ofInt_natCast .. |>.trans (by simp)
  unfold I8
  rw [h2, h2, wr_eq]
  show ((a ^^^ b).toNat : Int) % 256 = _
  have := (a ^^^ b).isLt
  omega
theorem I8_of {n : Int} (h : 0 ≤ n ∧ n < 256) : ∃ b : BitVec 8, n = I8 b := ⟨BitVec.ofNat 8 n.toNat, by unfold I8; rw [BitVec.toNat_ofNat]; omega⟩
theorem turned {a y : Int} (ha : 0 ≤ a ∧ a < 256) (hy : 0 ≤ y ∧ y < 256) (h0 : y ≠ 0) : (0 ≤ bxor .u8 a y ∧ bxor .u8 a y < 256) ∧ bxor .u8 a y ≠ a := by
  obtain ⟨b, rfl⟩ := I8_of ha
  obtain ⟨c, rfl⟩ := I8_of hy
  rw [bx8]
  refine ⟨⟨by unfold I8; omega, by unfold I8; have := (b ^^^ c).isLt; omega⟩, fun h => h0 ?_⟩
  unfold I8 at h ⊢
  have h1 : b ^^^ c = b := BitVec.eq_of_toNat_eq (by omega)
  have h2 : c = 0 := by
    have := congrArg (b ^^^ ·) h1
    simpa [← BitVec.xor_assoc] using this
  rw [h2]; rfl
/-- The frame with a byte turned. -/
def turnB (s : ByteArray) (j : Nat) (y : Int) : ByteArray := strOf ((List.range s.size).map (btsPut (byteI s) j (bxor .u8 (byteI s j) y)))
theorem turn_size (s : ByteArray) (j : Nat) (y : Int) : (turnB s j y).size = s.size := by unfold turnB; rw [strOf_size]; simp
theorem turn_byte {s : ByteArray} {j : Nat} {y : Int} (hy : 0 ≤ y ∧ y < 256) (h0 : y ≠ 0) {i : Nat} (hi : i < s.size) : byteI (turnB s j y) i = if i = j then bxor .u8 (byteI s j) y else byteI s i := by
  have ht := turned (byteI_lt s j) hy h0
  have hb := byteI_lt s i
  unfold turnB
  refine strOf_byte _ i _ ?_ ?_
  · rw [List.getElem?_map, List.getElem?_range hi]
    simp only [Option.map_some, btsPut]
    by_cases hij : i = j
    · rw [if_pos hij, hij, Nat.beq_refl]; rfl
    · rw [if_neg hij, show Nat.beq i j = false by rw [← Bool.not_eq_true]; intro hh; exact hij (Nat.eq_of_beq_eq_true hh)]; rfl
  · split
    · exact ht.1
    · exact hb
/-- Nothing comes out of it. -/
theorem turn_scan {s : ByteArray} {j : Nat} {y : Int} (hs : opens s = true) (hj : j < s.size) (hj2 : j ≠ 2) (hy : 0 ≤ y ∧ y < 256) (h0 : y ≠ 0) (hb : ∀ i, 1 ≤ i → i < s.size → btsPut (byteI s) j (bxor .u8 (byteI s j) y) i ≠ 165) :
    (scanP (turnB s j y) [] 0).fs = [] ∧ (scanP (turnB s j y) [] 0).left = eS := by
  obtain ⟨s5, _, s2, s69, _⟩ := of_decide_eq_true hs
  have hz := turn_size s j y
  have hput : ∀ i, i < s.size → byteI (turnB s j y) i = btsPut (byteI s) j (bxor .u8 (byteI s j) y) i := fun i hi => by
    rw [turn_byte hy h0 hi]
    unfold btsPut
    by_cases hij : i = j
    · rw [if_pos hij, hij, Nat.beq_refl]; rfl
    · rw [if_neg hij, show Nat.beq i j = false by rw [← Bool.not_eq_true]; intro hh; exact hij (Nat.eq_of_beq_eq_true hh)]; rfl
  refine spoilt_scan (by omega) (by omega) ?_ ?_ fun i h1 h2 => by rw [hput i (by omega)]; exact hb i h1 (by omega)
  · rw [turn_byte hy h0 (by omega), if_neg (fun e => hj2 e.symm), hz]; exact s2
  · refine spoilt_shut hs hz hj ?_ fun i hi hij => by rw [turn_byte hy h0 hi, if_neg hij]
    rw [turn_byte hy h0 hj, if_pos rfl]
    exact (turned (byteI_lt s j) hy h0).2
end Go.Proofs.YtdojnnlhaiennaaGreat.Cr

/- WholeSpoilt, of steps that lie in a block. Conditions: none. -/
namespace Go.Proofs.YtdojnnlhaiennaaGreat.Tp
open Go Go.Proofs.YtdojnnlhaiennaaGreat.Ae Go.Proofs.YtdojnnlhaiennaaGreat.Fx Go.Proofs.YtdojnnlhaiennaaGreat.Cs
open Go.Proofs.YtdojnnlhaiennaaGreat.Md (J)
open Go.Proofs.YtdojnnlhaiennaaGreat.Cr (wrapF wrapB badF byteI turnB)

theorem ok_RX : EnvOk Tryz.prog (envRX wrapB badF) := EnvOk.p ok_nil (enter_at (nt := 45) (res := [.tmp 2, .tmp 3]) (by kernel_rfl)) Cr.rwrap_any
theorem ro_bts {m : List Nat} {o : Obj} (s : ByteArray) (h : RB m (.ro (s.data.toList.map fun b => AV.int .u8 (b.toNat : Int)) 5) o) : RB m (.bts s.size (byteI s) 5) o := by
  obtain ⟨Vs, fz, e, ⟨h0, h0'⟩, h1⟩ := h
  have hl : (s.data.toList.map fun b => AV.int .u8 (b.toNat : Int)).length = s.size := by rw [List.length_map, Array.length_toList]; rfl
  rw [hl] at h0 h0'
  refine ⟨Vs, fz, e, ⟨h0, h0'⟩, fun i hi => ?_⟩
  obtain ⟨b, hb, hbi⟩ := Cr.byteI_l s i hi
  obtain ⟨V, hV, hR⟩ := RL_get h1 (i := i) (v := .int .u8 (b.toNat : Int)) (by rw [List.getElem?_map, hb]; rfl)
  rw [hl, List.getElem?_take, if_pos hi] at hV
  simp only [R] at hR
  rw [hV, hR, hbi]
theorem idx_in (x : Int) {m : Nat} (hm : 0 < m) (hm2 : m ≤ 1000) : ∃ j : Nat, (wr .i64 (x.tmod m + m)).tmod m = (j : Int) ∧ j < m := by
  have hp : (0 : Int) < m := by omega
  have lo : -(m : Int) < x.tmod m ∧ x.tmod m < m := by
    by_cases hx : 0 ≤ x
    · have h1 := Int.tmod_nonneg (m : Int) hx
      have h2 := Int.tmod_lt_of_pos x hp
      exact ⟨by omega, h2⟩
    · have h1 := Int.tmod_nonneg (m : Int) (show 0 ≤ -x by omega)
      have h2 := Int.tmod_lt_of_pos (-x) hp
      rw [Int.neg_tmod] at h1 h2
      exact ⟨by omega, by omega⟩
  rw [Cr.w_of (by omega)]
  have h1 := Int.tmod_nonneg (m : Int) (show 0 ≤ x.tmod m + m by omega)
  have h2 := Int.tmod_lt_of_pos (x.tmod m + m) hp
  exact ⟨((x.tmod m + m).tmod m).toNat, by omega, by omega⟩

theorem spoilt_calls (bg : Int) (rt : TypeId) (oo : Obj) (o n cp : Nat) (f : Nat → List AV) (hrk : rkP n f = true) (k x y : Int) (d : ByteArray) (hy : 0 ≤ y ∧ y < 256) {m : List Nat} {Args : Array Value} {W0 : World}
    (hA : RL m [.agg (plA bg o n cp), .agg [J k, .str d], .agg [J x, .int .u8 y]] Args.toList) (hH : HR m [.tabO oo o f 2 n rt] W0) :
    Calls Tryz.prog 4 Args W0 fun e w' => e = .returned (.bool true) ∧ ∃ m', Ext m W0 m' w' ∧ HR m [.tabO oo o f 2 n rt] w' := by
  obtain ⟨fn, hfn, hbody, hnt, hres, _⟩ := hasBody_ok (P := Tryz.prog) (f := 4) (nt := 142) (res := [.tmp 6]) (by kernel_rfl)
  have hm : m.length = 1 := hH.len
  obtain ⟨hn, hf⟩ := rk_is hrk
  have hin : ∀ L, (AB.tabO oo o f 2 n rt).inL L 0 := fun L j hj => by rw [(hf j hj).1]; rfl
  refine calls_at (m := m) hfn hbody (by rw [hnt]; exact Nat.le_of_ble_eq_true rfl) hA hH fun a h0 => ?_
  rw [hnt] at h0 ⊢
  rw [hres]
  have h0 : At m W0 142 [(0, .agg (plA bg o n cp)), (1, .agg [J k, .str d]), (2, .agg [J x, .int .u8 y])] [.tabO oo o f 2 n rt] a W0 := h0
  have fin : ∀ {e : Exit} {a' : Act} {w' : World} {T : List (Nat × AV)} {X : List AB}, e = .ret → get T 6 = .bool true → At m W0 142 T (.tabO oo o f 2 n rt :: X) a' w' →
      (e = .normal ∨ e = .ret) ∧ ∃ T' H' vs, At m W0 142 T' H' a' w' ∧ ares Tryz.prog T' H' [.tmp 6] = some vs ∧ ∀ V m', R m' (tupOf vs) V → HR m' H' w' → Ext m W0 m' w' → Ending.returned V = .returned (.bool true) ∧ ∃ m', Ext m W0 m' w' ∧ HR m [.tabO oo o f 2 n rt] w' := by
    intro e a' w' T X he hT hs
    refine ⟨.inr he, T, _, [get T 6], hs, rfl, fun V m' h1 h2 h3 => ?_⟩
    rw [hT] at h1
    simp only [tupOf, R] at h1
    rw [h1]
    refine ⟨rfl, m', h3, ?_⟩
    have hk : At m W0 142 [] [.tabO oo o f 2 n rt] a' w' := hs.keep (by rw [hm]; exact Nat.le_refl _) (by simp) trivial ⟨.inr ⟨rfl, hin 1⟩, trivial⟩
    obtain ⟨⟨m2, _, q2, q3⟩, _⟩ := hk
    obtain ⟨z, hz, _⟩ := q3.pre
    have : z = [] := by
      have := q2.len
      rw [hz, List.length_append, hm] at this
      simpa using this
    rw [hz, this, List.append_nil] at q2
    exact q2
  have finR : ∀ {e : Exit} {a' : Act} {w' : World} {T : List (Nat × AV)} {X : List AB}, e = .ret → get T 6 = .bool true → At m W0 142 T (recB rt oo o (aOf f) (bOf f) n :: X) a' w' →
      (e = .normal ∨ e = .ret) ∧ ∃ T' H' vs, At m W0 142 T' H' a' w' ∧ ares Tryz.prog T' H' [.tmp 6] = some vs ∧ ∀ V m', R m' (tupOf vs) V → HR m' H' w' → Ext m W0 m' w' → Ending.returned V = .returned (.bool true) ∧ ∃ m', Ext m W0 m' w' ∧ HR m [.tabO oo o f 2 n rt] w' := by
    intro e a' w' T X he hT hs
    exact fin he hT (hs.tell 0 (recB rt oo o (aOf f) (bOf f) n) (.tabO oo o f 2 n rt) rfl rfl (fun m o h => rk_back hrk h) (fun _ _ _ => trivial))
  refine wp_as spB rfl ?_
  refine wp_seqN (by kernel_rfl) (wp_as (Code.nav [0] spB) (by kernel_rfl) (At.codeK ok_nil 100 [3, 4, 5] (sp_0 bg o n cp (.tabO oo o f 2 n rt) k x y d) h0 fun a w hs => then_normal ?_))
  refine wp_seqN (by kernel_rfl) (wp_as (Code.nav [1, 0] spB) (by kernel_rfl) (At.codeK ok_L 100 [3, 4, 5] (sp_1 _ _ _ _) hs fun a w hs => then_normal ?_))
  refine wp_seqN (by kernel_rfl) (wp_as (Code.nav [1, 1, 0] spB) (by kernel_rfl) (At.codeK ok_RX 100 [3, 5, 7, 8] (sp_2 _ _ _ k d wrapB badF) hs fun a w hs => then_normal ?_))
  refine wp_seqN (by kernel_rfl) (wp_as (Code.nav [1, 1, 1, 0] spB) (by kernel_rfl) ?_)
  have r3 := sp_3 rkP (fun bg n f => lightV bg n (bOf f)) bg rt oo o n cp f (frB k d) x y (wrapB k d) (!badF k d)
  rw [beqN, beqN, hrk] at r3
  cases hl : lightV bg n (bOf f) with
  | false =>
    rw [hl] at r3
    refine wp_seqN (by kernel_rfl) (wp_as (Code.nav [1, 1, 1, 0, 0] spB) (by kernel_rfl) (At.region en_light light_g [3, 5, 7, 38] (by kernel_rfl) r3 hs fun a w hs => then_normalN ?_))
    exact wp_as (Code.nav [1, 1, 1, 0, 1] spB) (by kernel_rfl) (At.codeK ok_nil 100 [3, 5, 6, 7] (sp_4 _ _ _ _ (wrapB k d) true) hs fun a w hs => then_ret (fin rfl rfl hs))
  | true =>
  rw [hl] at r3
  cases hbad : badF k d with
  | true =>
    rw [hbad] at r3
    refine wp_seqN (by kernel_rfl) (wp_as (Code.nav [1, 1, 1, 0, 0] spB) (by kernel_rfl) (At.region en_light light_g [3, 5, 7, 38] (by kernel_rfl) r3 (by rw [hbad] at hs; exact hs) fun a w hs => then_normalN ?_))
    exact wp_as (Code.nav [1, 1, 1, 0, 1] spB) (by kernel_rfl) (At.codeK ok_nil 100 [3, 5, 6, 7] (sp_4 _ _ _ _ (wrapB k d) true) hs fun a w hs => then_ret (fin rfl rfl hs))
  | false =>
  rw [hbad] at r3 hs
  refine wp_seqN (by kernel_rfl) (wp_as (Code.nav [1, 1, 1, 0, 0] spB) (by kernel_rfl) (At.region en_light light_g [3, 5, 7, 38] (by kernel_rfl) r3 hs fun a w hs => then_normalN ?_))
  have r4 := sp_4 (.tabO oo o f 2 n rt) (plB bg o n cp) (frB k d) (tuB x y) (wrapB k d) (bif false then true else y == 0)
  by_cases hy0 : y = 0
  · have e : (bif false then true else y == 0) = true := by rw [hy0]; rfl
    rw [e] at r4
    exact wp_as (Code.nav [1, 1, 1, 0, 1] spB) (by kernel_rfl) (At.codeK ok_nil 100 [3, 5, 6, 7] r4 (by rw [e] at hs; exact hs) fun a w hs => then_ret (fin rfl rfl hs))
  have e : (bif false then true else y == 0) = false := by rw [bf]; exact beq_eq_false_iff_ne.2 hy0
  rw [e] at r4 hs
  refine wp_as (Code.nav [1, 1, 1, 0, 1] spB) (by kernel_rfl) (At.codeK ok_nil 100 [3, 5, 6, 7] r4 hs fun a w hs => then_normal ?_)
  have hws : wrapB k d = Cr.frameB k d := by unfold wrapB; rw [hbad]; rfl
  obtain ⟨hop, hsz⟩ := Cr.frame_opens hbad
  rw [← hws] at hop hsz
  have hd64 := (Cr.bad_in hbad).2
  generalize wrapB k d = s at hs hop hsz
  have hs := hs.tell 0 (.tabO oo o f 2 n rt) (recB rt oo o (aOf f) (bOf f) n) rfl rfl (fun m o h => rk_tell hrk h) (fun _ _ _ => trivial)
  have hs : At m W0 142 [(3, .ptr 1 0), (5, .ptr 3 0), (6, .any), (7, .str s)] [recB rt oo o (aOf f) (bOf f) n, plB bg o n cp, frB k d, tuB x y] a w := hs
  refine wp_seqN (by kernel_rfl) (wp_as (Code.nav [1, 1, 1, 1, 0] spB) (by kernel_rfl) (At.codeK ok_nil 100 [3, 5, 9] (sp_5 _ _ _ _ s) hs fun a w hs => then_normal ?_))
  have hs := hs.tell 4 (.ro (s.data.toList.map fun b => AV.int .u8 (b.toNat : Int)) 5) (.bts s.size (byteI s) 5) rfl rfl (fun m o h => ro_bts s h) (fun _ _ _ => trivial)
  have r6 := sp_6 (recB rt oo o (aOf f) (bOf f) n) (plB bg o n cp) (frB k d) (.bts s.size (byteI s) 5) x y s.size
  have hz0 : ((s.size : Int) == 0) = false := beq_eq_false_iff_ne.2 (by omega)
  rw [hz0, bf, bf] at r6
  obtain ⟨j, hj, hjs⟩ := idx_in x (show 0 < s.size by omega) (by omega)
  rw [hj] at r6
  refine wp_seqN (by kernel_rfl) (wp_as (Code.nav [1, 1, 1, 1, 1, 0] spB) (by kernel_rfl) (At.codeK ok_nil 100 [3, 5, 9, 10] (r6) hs fun a w hs => then_normal ?_))
  have r7 := sp_7 (recB rt oo o (aOf f) (bOf f) n) (plB bg o n cp) (frB k d) j x y s.size (byteI s)
  have ej : (j : Int).toNat * 1 = j := by rw [Int.toNat_natCast, Nat.mul_one]
  rw [decide_eq_true (by omega : 0 ≤ (j : Int)), decide_eq_true (by omega : (j : Int) < s.size), ej, Nat.sub_zero, Nat.ble_eq_true_of_le (Nat.zero_le j), Nat.ble_eq_true_of_le (by omega : j + 1 ≤ s.size)] at r7
  refine wp_seqN (by kernel_rfl) (wp_as (Code.nav [1, 1, 1, 1, 1, 1, 0] spB) (by kernel_rfl) (At.codeK ok_nil 100 [3, 9, 10] (r7) hs fun a w hs => then_normal ?_))
  have r8 := sp_8 (recB rt oo o (aOf f) (bOf f) n) (plB bg o n cp) (frB k d) (tuB x y) (.bts s.size (btsPut (byteI s) j (bxor .u8 (byteI s j) y)) 5) j s.size
  by_cases hj2 : j = 2
  · have e2 : ((j : Int) == 2) = true := by rw [hj2]; rfl
    rw [e2, bt] at r8
    exact wp_seqN (by kernel_rfl) (wp_as (Code.nav [1, 1, 1, 1, 1, 1, 1, 0] spB) (by kernel_rfl) (At.codeK ok_nil 100 [3, 6, 9] r8 hs fun a w hs => then_ret (finR rfl rfl hs)))
  have e2 : ((j : Int) == 2) = false := beq_eq_false_iff_ne.2 (by omega)
  rw [e2, bf] at r8
  refine wp_seqN (by kernel_rfl) (wp_as (Code.nav [1, 1, 1, 1, 1, 1, 1, 0] spB) (by kernel_rfl) (At.codeK ok_nil 100 [3, 6, 9] (r8) hs fun a w hs => then_normal ?_))
  refine wp_seqN (by kernel_rfl) (wp_as (Code.nav [1, 1, 1, 1, 1, 1, 1, 1, 0] spB) (by kernel_rfl) ?_)
  refine wp_seqN (by kernel_rfl) (wp_as (Code.nav [1, 1, 1, 1, 1, 1, 1, 1, 0, 0] spB) (by kernel_rfl) (At.codeK ok_nil 100 [3, 6, 9, 11] (sp_9 _ _ _ _ _ s.size) hs fun a w hs => then_normal ?_))
  refine wp_blockN 0 (by kernel_rfl) (wp_as (.loop spL) (by kernel_rfl) ?_)
  generalize hgg : btsPut (byteI s) j (bxor .u8 (byteI s j) y) = gg at hs
  refine At.loop (σ := Nat) (fun i a w' => (1 ≤ i ∧ i ≤ s.size) ∧ (∀ q, 1 ≤ q → q < i → gg q ≠ 165) ∧ At m W0 142 [(3, .ptr 1 0), (6, .any), (9, .own 4 s.size), (11, J i)] [recB rt oo o (aOf f) (bOf f) n, plB bg o n cp, frB k d, tuB x y, .bts s.size gg 5, .dead] a w') (fun i => s.size - i) ?_ 1 ⟨⟨Nat.le_refl 1, by omega⟩, fun q h1 h2 => by omega, hs⟩
  rintro i a w1 ⟨⟨hi1, hi2⟩, hq, hs⟩
  have hraw := sp_round (recB rt oo o (aOf f) (bOf f) n) (plB bg o n cp) (frB k d) (tuB x y) i s.size gg
  have ei : (i : Int).toNat * 1 = i := by rw [Int.toNat_natCast, Nat.mul_one]
  by_cases hlt : i < s.size
  · rw [decide_eq_true (by omega : 0 ≤ (i : Int)), decide_eq_true (by omega : (i : Int) < s.size), ei, Nat.sub_zero, Nat.ble_eq_true_of_le (Nat.zero_le i), Nat.ble_eq_true_of_le (by omega : i + 1 ≤ s.size)] at hraw
    by_cases h165 : gg i = 165
    · rw [show (gg i == 165) = true by rw [h165]; rfl] at hraw
      exact At.codeK ok_nil 100 [3, 6, 9, 11] hraw hs fun a w hs => then_ret (inBlock_ret (then_retN (finR rfl rfl hs)))
    · rw [show (gg i == 165) = false from beq_eq_false_iff_ne.2 h165] at hraw
      refine At.codeK ok_nil 100 [3, 6, 9, 11] hraw hs fun a w hs => then_normal ⟨i + 1, by omega, ⟨by omega, by omega⟩, fun q h1 h2 => ?_, ?_⟩
      · by_cases hqi : q = i
        · rw [hqi]; exact h165
        · exact hq q h1 (by omega)
      · have e1 : wr .i64 ((i : Int) + 1) = ((i + 1 : Nat) : Int) := by rw [Cr.w_of (by omega)]; rfl
        rw [e1] at hs
        exact hs
  have hie : i = s.size := by omega
  rw [decide_eq_false (by omega : ¬ (i : Int) < s.size)] at hraw
  refine At.codeK ok_nil 100 [3, 6, 9, 11] hraw hs fun a w hs => then_exit (inBlock_exit (then_normalN ?_))
  subst hgg
  have hscan := Cr.turn_scan hop hjs hj2 hy hy0 fun q h1 h2 => hq q h1 (by omega)
  have hs : At m W0 142 [(3, .ptr 1 0), (9, .own 4 s.size)] [recB rt oo o (aOf f) (bOf f) n, plB bg o n cp, frB k d, tuB x y, .bts s.size (btsPut (byteI s) j (bxor .u8 (byteI s j) y)) 5, .dead] a w := hs.keep (by rw [hm]; exact Nat.le_of_ble_eq_true rfl) (Nat.le_refl _) ⟨⟨rfl, rfl⟩, ⟨rfl, rfl⟩, trivial⟩ ⟨.inr ⟨rfl, fun j _ => rfl⟩, .inr ⟨rfl, plA_trunc bg o n cp 6 (Nat.le_of_ble_eq_true rfl)⟩, .inr ⟨rfl, rfl⟩, .inr ⟨rfl, rfl⟩, .inr ⟨rfl, trivial⟩, .inl rfl, trivial⟩

  refine wp_seqN (by kernel_rfl) (wp_as (Code.nav [1, 1, 1, 1, 1, 1, 1, 1, 1, 0] spB) (by kernel_rfl) (At.codeK ok_nil 100 [3, 9, 12] (sp_16 bg o n cp _ _ _ _ s.size) hs fun a w hs => then_normal ?_))
  refine wp_seqN (by kernel_rfl) (wp_as (Code.nav [1, 1, 1, 1, 1, 1, 1, 1, 1, 1, 0] spB) (by kernel_rfl) (At.codeK ok_nil 100 [3, 9, 12, 13] (sp_17 bg o n cp Cft.zero _ _ _ _ s.size) hs fun a w hs => then_normal ?_))
  refine wp_seqN (by kernel_rfl) (wp_as (Code.nav [1, 1, 1, 1, 1, 1, 1, 1, 1, 1, 1, 0] spB) (by kernel_rfl) ?_)
  refine wp_seqN (by kernel_rfl) (wp_as (Code.nav [1, 1, 1, 1, 1, 1, 1, 1, 1, 1, 1, 0, 0] spB) (by kernel_rfl) (At.codeK ok_nil 100 [9, 12, 13, 76, 77, 78] (sp_18 bg o n cp Cft.zero bg _ _ _ _ s.size) hs fun a w hs => then_normal ?_))
  refine wp_blockN 2 (by kernel_rfl) (wp_as (.loop spP) (by kernel_rfl) ?_)
  obtain ⟨hsum, hn30, _, _⟩ := light_is hl
  refine At.loop (σ := Nat × Cft × Int) (fun z a w' => z.1 ≤ n ∧ Good z.2.1 (sumB (bOf f) z.1) ∧ At m W0 142 (spT o n cp s.size z.2.2 z.1) [recB rt oo o (aOf f) (bOf f) n, plB bg o n cp, frB k d, tuB x y, .bts s.size (btsPut (byteI s) j (bxor .u8 (byteI s j) y)) 5, .dead, cB z.2.1] a w') (fun z => n - z.1) ?_ (0, Cft.zero, bg) ⟨Nat.zero_le _, Good.zero, hs⟩
  rintro ⟨i, c, t⟩ a w1 ⟨hi, hg, hs⟩
  simp only at hi hg hs
  have hraw := sp_play stepC stepP rt oo o n cp (aOf f) (bOf f) c t i (plB bg o n cp) (frB k d) (tuB x y) (.bts s.size (btsPut (byteI s) j (bxor .u8 (byteI s j) y)) 5) s.size
  have hj' : oJ o (i : Int) = i := by unfold oJ; rw [Int.toNat_natCast]; omega
  have keep : ∀ {T T2 : List (Nat × AV)} {c' : Cft} {X : List AB} {a : Act} {w' : World}, At m W0 142 T ([recB rt oo o (aOf f) (bOf f) n, plB bg o n cp, frB k d, tuB x y, .bts s.size (btsPut (byteI s) j (bxor .u8 (byteI s j) y)) 5, .dead, cB c'] ++ X) a w' → okT 7 T T2 → At m W0 142 T2 [recB rt oo o (aOf f) (bOf f) n, plB bg o n cp, frB k d, tuB x y, .bts s.size (btsPut (byteI s) j (bxor .u8 (byteI s j) y)) 5, .dead, cB c'] a w' := fun hs hT =>
    hs.keep (by rw [hm]; exact Nat.le_of_ble_eq_true rfl) (by simp) hT ⟨.inr ⟨rfl, fun j _ => rfl⟩, .inr ⟨rfl, plA_trunc bg o n cp 7 (Nat.le_of_ble_eq_true rfl)⟩, .inr ⟨rfl, rfl⟩, .inr ⟨rfl, rfl⟩, .inr ⟨rfl, trivial⟩, .inl rfl, .inr ⟨rfl, cav_trunc _ _⟩, trivial⟩
  by_cases hlt : i < n
  · have hz := sumB_le (bOf f) (show i + 1 ≤ n by omega)
    have hz' : sumB (bOf f) (i + 1) = sumB (bOf f) i + (bOf f i).size := rfl
    rw [hj'] at hraw
    rw [decide_eq_true (by omega : (i : Int) < n), decide_eq_true (by omega : 0 ≤ (i : Int)), Nat.ble_eq_true_of_le (by omega : o ≤ o + (i : Int).toNat * 2), Nat.ble_eq_true_of_le (by omega : i + 1 ≤ n), show Nat.beq ((o + (i : Int).toNat * 2 - o) % 2) 0 = true by rw [Nat.add_sub_cancel_left, Nat.mul_mod_left]; rfl, (hg.fits (b := bOf f i) (by omega)).1] at hraw
    refine At.codeKL ok_Sp 100 [9, 12, 13, 76, 77, 78] 7 hraw hs fun X a w hs => then_normal ⟨(i + 1, (stepP (nm c) (later t (aOf f i)) (bOf f i)).c, later t (aOf f i)), by simp only; omega, by simp only; omega, hg.step _ _, ?_⟩
    refine keep hs ⟨⟨rfl, rfl⟩, ⟨rfl, rfl⟩, ⟨rfl, rfl⟩, ⟨rfl, rfl⟩, ⟨rfl, rfl⟩, ⟨?_, rfl⟩, trivial⟩
    show J (wr .i64 ((i : Int) + 1)) = J ((i + 1 : Nat) : Int)
    rw [Cr.w_of (by omega)]
    rfl
  rw [decide_eq_false (by omega : ¬ (i : Int) < n)] at hraw
  refine At.codeKL ok_Sp 100 [9, 12, 13, 76, 77, 78] 7 hraw hs fun X a w hs => then_exit (inBlock_exit (then_normalN ?_))
  have hs := keep (T2 := [(9, .own 4 s.size), (12, .ptr 6 0)]) hs ⟨⟨rfl, rfl⟩, ⟨rfl, rfl⟩, trivial⟩
  refine wp_seqN (by kernel_rfl) (wp_as (Code.nav [1, 1, 1, 1, 1, 1, 1, 1, 1, 1, 1, 1, 0] spB) (by kernel_rfl) (At.codeK ok_nil 100 [9, 12] (sp_24 c _ _ _ _ _ s.size) hs fun a w hs => then_normal ?_))
  refine wp_seqN (by kernel_rfl) (wp_as (Code.nav [1, 1, 1, 1, 1, 1, 1, 1, 1, 1, 1, 1, 1, 0] spB) (by kernel_rfl) (At.codeK ok_nil 100 [9, 12, 13] (sp_25 { c with left := Cr.eS } _ _ _ _ _ s.size) hs fun a w hs => then_normal ?_))
  have hinv : Inv { c with left := Cr.eS } := ⟨hg.inv.mode, hg.inv.faults, hg.inv.ack, hg.inv.err, hg.inv.rej⟩
  have hgood : Good { c with left := Cr.eS } 0 := ⟨hinv, Nat.le_refl 0⟩
  have r26 := sp_26 stepC stepP { c with left := Cr.eS } (wr .i64 (c.tick + 500)) (recB rt oo o (aOf f) (bOf f) n) (plB bg o n cp) (frB k d) (tuB x y) (.bts s.size (btsPut (byteI s) j (bxor .u8 (byteI s j) y)) 5) s.size
  rw [(hgood.fits (b := Cr.eS) (by decide)).1, bt] at r26
  refine wp_seqN (by kernel_rfl) (wp_as (Code.nav [1, 1, 1, 1, 1, 1, 1, 1, 1, 1, 1, 1, 1, 1, 0] spB) (by kernel_rfl) (At.codeK ok_Sp 100 [9, 12, 13, 16] (r26) hs fun a w hs => then_normal ?_))
  have r27 := sp_27 stepC stepP { c with left := Cr.eS } (stepP (nm { c with left := Cr.eS }) (wr .i64 (c.tick + 500)) Cr.eS).c (wr .i64 (c.tick + 500)) (recB rt oo o (aOf f) (bOf f) n) (plB bg o n cp) (frB k d) (tuB x y) s.size (btsPut (byteI s) j (bxor .u8 (byteI s j) y))
  have hts : (turnB s j y).size ≤ 69 := by rw [Cr.turn_size]; omega
  have hfit2 : stepC (nm { c with left := Cr.eS }) (strOf ((List.range s.size).map (btsPut (byteI s) j (bxor .u8 (byteI s j) y)))) = true := (hgood.fits (b := turnB s j y) (by omega)).1
  rw [beqN, bt, hfit2, bt] at r27
  refine wp_seqN (by kernel_rfl) (wp_as (Code.nav [1, 1, 1, 1, 1, 1, 1, 1, 1, 1, 1, 1, 1, 1, 1, 0] spB) (by kernel_rfl) (At.codeK ok_Sp 100 [16, 18] (r27) hs fun a w hs => then_normal ?_))
  obtain ⟨r, hd', hr⟩ := spoilt_step (c := nm { c with left := Cr.eS }) (wr .i64 (c.tick + 500)) (b := turnB s j y) (by rw [nm_left]) hscan.1 hscan.2
  have hai := (hgood.step (wr .i64 (c.tick + 500)) Cr.eS).inv.rej
  have hv := spV_true hd' hr hai
  have hs : At m W0 142 [(16, .ptr 7 0), (18, .ptr 8 0)] (sp9 { c with left := Cr.eS } (recB rt oo o (aOf f) (bOf f) n) (plB bg o n cp) (frB k d) (tuB x y) (.bts s.size (btsPut (byteI s) j (bxor .u8 (byteI s j) y)) 5) (stepP (nm { c with left := Cr.eS }) (wr .i64 (c.tick + 500)) Cr.eS).c (stepP (nm { c with left := Cr.eS }) (wr .i64 (c.tick + 500)) (turnB s j y)).c) a w := hs
  generalize (stepP (nm { c with left := Cr.eS }) (wr .i64 (c.tick + 500)) Cr.eS).c = cA at hs hv
  generalize (stepP (nm { c with left := Cr.eS }) (wr .i64 (c.tick + 500)) (turnB s j y)).c = cD at hs hv
  have r28 := sp_28 { c with left := Cr.eS } cA cD (recB rt oo o (aOf f) (bOf f) n) (plB bg o n cp) (frB k d) (tuB x y) (.bts s.size (btsPut (byteI s) j (bxor .u8 (byteI s j) y)) 5)
  unfold spV at hv
  cases hcond : (bif (bif !cD.on then true else decide (cD.rej < cA.rej)) then true else decide (cD.rej > wr .i64 (cA.rej + 1))) with
  | true =>
    rw [hcond, bt] at r28 hv
    rw [hv] at r28
    exact wp_seqN (by kernel_rfl) (wp_as (Code.nav [1, 1, 1, 1, 1, 1, 1, 1, 1, 1, 1, 1, 1, 1, 1, 1, 0] spB) (by kernel_rfl) (At.codeK ok_nil 100 [6, 16, 18] r28 hs fun a w hs => then_ret (finR rfl rfl hs)))
  | false =>
    rw [hcond, bf] at r28 hv
    refine wp_seqN (by kernel_rfl) (wp_as (Code.nav [1, 1, 1, 1, 1, 1, 1, 1, 1, 1, 1, 1, 1, 1, 1, 1, 0] spB) (by kernel_rfl) (At.codeK ok_nil 100 [6, 16, 18] r28 hs fun a w hs => then_normal ?_))
    have r30 := sp_30 { c with left := Cr.eS } cA cD (recB rt oo o (aOf f) (bOf f) n) (plB bg o n cp) (frB k d) (tuB x y) (.bts s.size (btsPut (byteI s) j (bxor .u8 (byteI s j) y)) 5)
    rw [hv] at r30
    exact wp_as (Code.nav [1, 1, 1, 1, 1, 1, 1, 1, 1, 1, 1, 1, 1, 1, 1, 1, 1] spB) (by kernel_rfl) (At.codeK ok_nil 100 [6] r30 hs fun a w hs => finR rfl rfl hs)
end Go.Proofs.YtdojnnlhaiennaaGreat.Tp

/- WholeSpoilt, where there are no steps. Conditions: none. -/
namespace Go.Proofs.YtdojnnlhaiennaaGreat.Tp
open Go Go.Proofs.YtdojnnlhaiennaaGreat.Ae Go.Proofs.YtdojnnlhaiennaaGreat.Fx Go.Proofs.YtdojnnlhaiennaaGreat.Cs
open Go.Proofs.YtdojnnlhaiennaaGreat.Md (J)
open Go.Proofs.YtdojnnlhaiennaaGreat.Cr (wrapF wrapB badF byteI turnB)

abbrev plN (bg : Int) : List AV := [J bg, .nils]
abbrev plNB (bg : Int) : AB := .cells (plN bg) plT'
def envLt : Env := [(7, .text)]
theorem ok_Lt : EnvOk Tryz.prog envLt := EnvOk.t ok_nil en_light
def nilL (bg : Int) : Bool := bif bif decide ((0 : Int) ≤ 30) then decide (bg ≥ 0) else false then decide (bg ≤ 157766400000) else false
abbrev spnT (m : Nat) (bg : Int) : List (Nat × AV) := [(9, .own 4 m), (12, .ptr 6 0), (13, J bg), (76, .nils), (77, J 0), (78, J 0)]
section
variable (bg k x y : Int) (d s : ByteArray) (c : Cft) (ok : Bool) (D E F : AB) (m : Nat)
theorem spn_0 : acode Tryz.prog [] 100 142 (Code.nav [0] spB) [(0, .agg (plN bg)), (1, .agg [J k, .str d]), (2, .agg [J x, .int .u8 y])] [.dead] (keepK [3, 4, 5]) = some (.normal, s3T, [.dead, plNB bg, frB k d, tuB x y]) := by kernel_rfl
theorem spn_3 : acode Tryz.prog envLt 100 142 (Code.nav [1, 1, 1, 0, 0] spB) [(3, .ptr 1 0), (5, .ptr 3 0), (7, .str s), (8, .bool ok)] [.dead, plNB bg, D, tuB x y] (keepL [3, 5, 7, 38] 4) =
    some (.normal, [(3, .ptr 1 0), (5, .ptr 3 0), (7, .str s), (38, .bool (bif bif !nilL bg then true else !ok then true else y == 0))], [.dead, plNB bg, D, tuB x y]) := by kernel_rfl
theorem spn_16 : acode Tryz.prog [] 100 142 (Code.nav [1, 1, 1, 1, 1, 1, 1, 1, 1, 0] spB) [(3, .ptr 1 0), (9, .own 4 m)] [.dead, plNB bg, D, E, F, .dead] (keepK [3, 9, 12]) = some (.normal, [(3, .ptr 1 0), (9, .own 4 m), (12, .ptr 6 0)], [.dead, plNB bg, D, E, F, .dead, cB Cft.zero]) := by kernel_rfl
theorem spn_17 : acode Tryz.prog [] 100 142 (Code.nav [1, 1, 1, 1, 1, 1, 1, 1, 1, 1, 0] spB) [(3, .ptr 1 0), (9, .own 4 m), (12, .ptr 6 0)] [.dead, plNB bg, D, E, F, .dead, cB c] (keepK [3, 9, 12, 13]) = some (.normal, [(3, .ptr 1 0), (9, .own 4 m), (12, .ptr 6 0), (13, J bg)], [.dead, plNB bg, D, E, F, .dead, cB c]) := by kernel_rfl
theorem spn_18 : acode Tryz.prog [] 100 142 (Code.nav [1, 1, 1, 1, 1, 1, 1, 1, 1, 1, 1, 0, 0] spB) [(3, .ptr 1 0), (9, .own 4 m), (12, .ptr 6 0), (13, J bg)] [.dead, plNB bg, D, E, F, .dead, cB c] (keepK [9, 12, 13, 76, 77, 78]) = some (.normal, spnT m bg, [.dead, plNB bg, D, E, F, .dead, cB c]) := by kernel_rfl
theorem spn_play : acode Tryz.prog [] 100 142 spP (spnT m bg) [.dead, plNB bg, D, E, F, .dead, cB c] (keepK [9, 12]) = some (.exit 2, [(9, .own 4 m), (12, .ptr 6 0)], [.dead, plNB bg, D, E, F, .dead, cB c]) := by kernel_rfl
end

theorem spoilt_nil (bg : Int) (k x y : Int) (d : ByteArray) (hy : 0 ≤ y ∧ y < 256) {m : List Nat} {Args : Array Value} {W0 : World}
    (hm : m.length = 1) (hA : RL m [.agg (plN bg), .agg [J k, .str d], .agg [J x, .int .u8 y]] Args.toList) (hH : HR m [.dead] W0) :
    Calls Tryz.prog 4 Args W0 fun e w' => e = .returned (.bool true) ∧ ∃ m', Ext m W0 m' w' := by
  obtain ⟨fn, hfn, hbody, hnt, hres, _⟩ := hasBody_ok (P := Tryz.prog) (f := 4) (nt := 142) (res := [.tmp 6]) (by kernel_rfl)
  refine calls_at (m := m) hfn hbody (by rw [hnt]; exact Nat.le_of_ble_eq_true rfl) hA hH fun a h0 => ?_
  rw [hnt] at h0 ⊢
  rw [hres]
  have h0 : At m W0 142 [(0, .agg (plN bg)), (1, .agg [J k, .str d]), (2, .agg [J x, .int .u8 y])] [.dead] a W0 := h0
  have fin : ∀ {e : Exit} {a' : Act} {w' : World} {T : List (Nat × AV)} {X : List AB}, e = .ret → get T 6 = .bool true → At m W0 142 T X a' w' →
      (e = .normal ∨ e = .ret) ∧ ∃ T' H' vs, At m W0 142 T' H' a' w' ∧ ares Tryz.prog T' H' [.tmp 6] = some vs ∧ ∀ V m', R m' (tupOf vs) V → HR m' H' w' → Ext m W0 m' w' → Ending.returned V = .returned (.bool true) ∧ ∃ m', Ext m W0 m' w' := by
    intro e a' w' T X he hT hs
    refine ⟨.inr he, T, _, [get T 6], hs, rfl, fun V m' h1 h2 h3 => ?_⟩
    rw [hT] at h1
    simp only [tupOf, R] at h1
    rw [h1]
    exact ⟨rfl, m', h3⟩
  refine wp_as spB rfl ?_
  refine wp_seqN (by kernel_rfl) (wp_as (Code.nav [0] spB) (by kernel_rfl) (At.codeK ok_nil 100 [3, 4, 5] (spn_0 bg k x y d) h0 fun a w hs => then_normal ?_))
  refine wp_seqN (by kernel_rfl) (wp_as (Code.nav [1, 0] spB) (by kernel_rfl) (At.codeK ok_L 100 [3, 4, 5] (sp_1 _ _ _ _) hs fun a w hs => then_normal ?_))
  refine wp_seqN (by kernel_rfl) (wp_as (Code.nav [1, 1, 0] spB) (by kernel_rfl) (At.codeK ok_RX 100 [3, 5, 7, 8] (sp_2 _ _ _ k d wrapB badF) hs fun a w hs => then_normal ?_))
  refine wp_seqN (by kernel_rfl) (wp_as (Code.nav [1, 1, 1, 0] spB) (by kernel_rfl) ?_)
  have r3 := spn_3 bg x y (wrapB k d) (!badF k d) (frB k d)
  have keep4 : ∀ {T : List (Nat × AV)} {X : List AB} {a : Act} {w' : World}, At m W0 142 T ([AB.dead, plNB bg, frB k d, tuB x y] ++ X) a w' → ∀ {T2 : List (Nat × AV)}, okT 4 T T2 → At m W0 142 T2 [AB.dead, plNB bg, frB k d, tuB x y] a w' := fun hs _ hT =>
    hs.keep (by rw [hm]; exact Nat.le_of_ble_eq_true rfl) (by simp) hT ⟨.inl rfl, .inr ⟨rfl, rfl⟩, .inr ⟨rfl, rfl⟩, .inr ⟨rfl, rfl⟩, trivial⟩
  refine wp_seqN (by kernel_rfl) (wp_as (Code.nav [1, 1, 1, 0, 0] spB) (by kernel_rfl) (At.codeKL ok_Lt 100 [3, 5, 7, 38] 4 r3 hs fun X a w hs => then_normal ?_))
  generalize hqq : (bif bif !nilL bg then true else !(!badF k d) then true else y == 0) = qq at hs
  have hs := keep4 (T2 := [(3, .ptr 1 0), (5, .ptr 3 0), (7, .str (wrapB k d)), (38, .bool qq)]) hs ⟨⟨rfl, rfl⟩, ⟨rfl, rfl⟩, ⟨rfl, rfl⟩, ⟨rfl, rfl⟩, trivial⟩
  have r4 := sp_4 AB.dead (plNB bg) (frB k d) (tuB x y) (wrapB k d) qq
  cases qq with
  | true =>
    exact wp_as (Code.nav [1, 1, 1, 0, 1] spB) (by kernel_rfl) (At.codeK ok_nil 100 [3, 5, 6, 7] r4 hs fun a w hs => then_ret (fin rfl rfl hs))
  | false =>
  refine wp_as (Code.nav [1, 1, 1, 0, 1] spB) (by kernel_rfl) (At.codeK ok_nil 100 [3, 5, 6, 7] r4 hs fun a w hs => then_normal ?_)
  have hbad : badF k d = false := by
    cases hb : badF k d with
    | false => rfl
    | true => rw [hb] at hqq; generalize nilL bg = z at hqq; cases z <;> simp at hqq
  have hy0 : y ≠ 0 := by
    intro h
    rw [hbad, h] at hqq
    generalize nilL bg = z at hqq
    cases z <;> simp at hqq
  have hws : wrapB k d = Cr.frameB k d := by unfold wrapB; rw [hbad]; rfl
  obtain ⟨hop, hsz⟩ := Cr.frame_opens hbad
  rw [← hws] at hop hsz
  have hd64 := (Cr.bad_in hbad).2
  generalize wrapB k d = s at hs hop hsz
  refine wp_seqN (by kernel_rfl) (wp_as (Code.nav [1, 1, 1, 1, 0] spB) (by kernel_rfl) (At.codeK ok_nil 100 [3, 5, 9] (sp_5 _ _ _ _ s) hs fun a w hs => then_normal ?_))
  have hs := hs.tell 4 (.ro (s.data.toList.map fun b => AV.int .u8 (b.toNat : Int)) 5) (.bts s.size (byteI s) 5) rfl rfl (fun m o h => ro_bts s h) (fun _ _ _ => trivial)
  have r6 := sp_6 (AB.dead) (plNB bg) (frB k d) (.bts s.size (byteI s) 5) x y s.size
  have hz0 : ((s.size : Int) == 0) = false := beq_eq_false_iff_ne.2 (by omega)
  rw [hz0, bf, bf] at r6
  obtain ⟨j, hj, hjs⟩ := idx_in x (show 0 < s.size by omega) (by omega)
  rw [hj] at r6
  refine wp_seqN (by kernel_rfl) (wp_as (Code.nav [1, 1, 1, 1, 1, 0] spB) (by kernel_rfl) (At.codeK ok_nil 100 [3, 5, 9, 10] (r6) hs fun a w hs => then_normal ?_))
  have r7 := sp_7 (AB.dead) (plNB bg) (frB k d) j x y s.size (byteI s)
  have ej : (j : Int).toNat * 1 = j := by rw [Int.toNat_natCast, Nat.mul_one]
  rw [decide_eq_true (by omega : 0 ≤ (j : Int)), decide_eq_true (by omega : (j : Int) < s.size), ej, Nat.sub_zero, Nat.ble_eq_true_of_le (Nat.zero_le j), Nat.ble_eq_true_of_le (by omega : j + 1 ≤ s.size)] at r7
  refine wp_seqN (by kernel_rfl) (wp_as (Code.nav [1, 1, 1, 1, 1, 1, 0] spB) (by kernel_rfl) (At.codeK ok_nil 100 [3, 9, 10] (r7) hs fun a w hs => then_normal ?_))
  have r8 := sp_8 (AB.dead) (plNB bg) (frB k d) (tuB x y) (.bts s.size (btsPut (byteI s) j (bxor .u8 (byteI s j) y)) 5) j s.size
  by_cases hj2 : j = 2
  · have e2 : ((j : Int) == 2) = true := by rw [hj2]; rfl
    rw [e2, bt] at r8
    exact wp_seqN (by kernel_rfl) (wp_as (Code.nav [1, 1, 1, 1, 1, 1, 1, 0] spB) (by kernel_rfl) (At.codeK ok_nil 100 [3, 6, 9] r8 hs fun a w hs => then_ret (fin rfl rfl hs)))
  have e2 : ((j : Int) == 2) = false := beq_eq_false_iff_ne.2 (by omega)
  rw [e2, bf] at r8
  refine wp_seqN (by kernel_rfl) (wp_as (Code.nav [1, 1, 1, 1, 1, 1, 1, 0] spB) (by kernel_rfl) (At.codeK ok_nil 100 [3, 6, 9] (r8) hs fun a w hs => then_normal ?_))
  refine wp_seqN (by kernel_rfl) (wp_as (Code.nav [1, 1, 1, 1, 1, 1, 1, 1, 0] spB) (by kernel_rfl) ?_)
  refine wp_seqN (by kernel_rfl) (wp_as (Code.nav [1, 1, 1, 1, 1, 1, 1, 1, 0, 0] spB) (by kernel_rfl) (At.codeK ok_nil 100 [3, 6, 9, 11] (sp_9 _ _ _ _ _ s.size) hs fun a w hs => then_normal ?_))
  refine wp_blockN 0 (by kernel_rfl) (wp_as (.loop spL) (by kernel_rfl) ?_)
  generalize hgg : btsPut (byteI s) j (bxor .u8 (byteI s j) y) = gg at hs
  refine At.loop (σ := Nat) (fun i a w' => (1 ≤ i ∧ i ≤ s.size) ∧ (∀ q, 1 ≤ q → q < i → gg q ≠ 165) ∧ At m W0 142 [(3, .ptr 1 0), (6, .any), (9, .own 4 s.size), (11, J i)] [AB.dead, plNB bg, frB k d, tuB x y, .bts s.size gg 5, .dead] a w') (fun i => s.size - i) ?_ 1 ⟨⟨Nat.le_refl 1, by omega⟩, fun q h1 h2 => by omega, hs⟩
  rintro i a w1 ⟨⟨hi1, hi2⟩, hq, hs⟩
  have hraw := sp_round (AB.dead) (plNB bg) (frB k d) (tuB x y) i s.size gg
  have ei : (i : Int).toNat * 1 = i := by rw [Int.toNat_natCast, Nat.mul_one]
  by_cases hlt : i < s.size
  · rw [decide_eq_true (by omega : 0 ≤ (i : Int)), decide_eq_true (by omega : (i : Int) < s.size), ei, Nat.sub_zero, Nat.ble_eq_true_of_le (Nat.zero_le i), Nat.ble_eq_true_of_le (by omega : i + 1 ≤ s.size)] at hraw
    by_cases h165 : gg i = 165
    · rw [show (gg i == 165) = true by rw [h165]; rfl] at hraw
      exact At.codeK ok_nil 100 [3, 6, 9, 11] hraw hs fun a w hs => then_ret (inBlock_ret (then_retN (fin rfl rfl hs)))
    · rw [show (gg i == 165) = false from beq_eq_false_iff_ne.2 h165] at hraw
      refine At.codeK ok_nil 100 [3, 6, 9, 11] hraw hs fun a w hs => then_normal ⟨i + 1, by omega, ⟨by omega, by omega⟩, fun q h1 h2 => ?_, ?_⟩
      · by_cases hqi : q = i
        · rw [hqi]; exact h165
        · exact hq q h1 (by omega)
      · have e1 : wr .i64 ((i : Int) + 1) = ((i + 1 : Nat) : Int) := by rw [Cr.w_of (by omega)]; rfl
        rw [e1] at hs
        exact hs
  have hie : i = s.size := by omega
  rw [decide_eq_false (by omega : ¬ (i : Int) < s.size)] at hraw
  refine At.codeK ok_nil 100 [3, 6, 9, 11] hraw hs fun a w hs => then_exit (inBlock_exit (then_normalN ?_))
  subst hgg
  have hscan := Cr.turn_scan hop hjs hj2 hy hy0 fun q h1 h2 => hq q h1 (by omega)
  have hs : At m W0 142 [(3, .ptr 1 0), (9, .own 4 s.size)] [AB.dead, plNB bg, frB k d, tuB x y, .bts s.size (btsPut (byteI s) j (bxor .u8 (byteI s j) y)) 5, .dead] a w := hs.keep (by rw [hm]; exact Nat.le_of_ble_eq_true rfl) (Nat.le_refl _) ⟨⟨rfl, rfl⟩, ⟨rfl, rfl⟩, trivial⟩ ⟨.inl rfl, .inr ⟨rfl, rfl⟩, .inr ⟨rfl, rfl⟩, .inr ⟨rfl, rfl⟩, .inr ⟨rfl, trivial⟩, .inl rfl, trivial⟩

  refine wp_seqN (by kernel_rfl) (wp_as (Code.nav [1, 1, 1, 1, 1, 1, 1, 1, 1, 0] spB) (by kernel_rfl) (At.codeK ok_nil 100 [3, 9, 12] (spn_16 bg _ _ _ s.size) hs fun a w hs => then_normal ?_))
  refine wp_seqN (by kernel_rfl) (wp_as (Code.nav [1, 1, 1, 1, 1, 1, 1, 1, 1, 1, 0] spB) (by kernel_rfl) (At.codeK ok_nil 100 [3, 9, 12, 13] (spn_17 bg Cft.zero _ _ _ s.size) hs fun a w hs => then_normal ?_))
  refine wp_seqN (by kernel_rfl) (wp_as (Code.nav [1, 1, 1, 1, 1, 1, 1, 1, 1, 1, 1, 0] spB) (by kernel_rfl) ?_)
  refine wp_seqN (by kernel_rfl) (wp_as (Code.nav [1, 1, 1, 1, 1, 1, 1, 1, 1, 1, 1, 0, 0] spB) (by kernel_rfl) (At.codeK ok_nil 100 [9, 12, 13, 76, 77, 78] (spn_18 bg Cft.zero _ _ _ s.size) hs fun a w hs => then_normal ?_))
  refine wp_blockN 2 (by kernel_rfl) (wp_as (.loop spP) (by kernel_rfl) ?_)
  have hg := Good.zero
  generalize Cft.zero = c at hs hg
  refine At.loop (σ := Unit) (fun _ a w' => At m W0 142 (spnT s.size bg) [AB.dead, plNB bg, frB k d, tuB x y, .bts s.size (btsPut (byteI s) j (bxor .u8 (byteI s j) y)) 5, .dead, cB c] a w') (fun _ => 0) ?_ () hs
  rintro _ a w1 hs
  refine At.codeK ok_nil 100 [9, 12] (spn_play bg c _ _ _ s.size) hs fun a w hs => then_exit (inBlock_exit (then_normalN ?_))
  refine wp_seqN (by kernel_rfl) (wp_as (Code.nav [1, 1, 1, 1, 1, 1, 1, 1, 1, 1, 1, 1, 0] spB) (by kernel_rfl) (At.codeK ok_nil 100 [9, 12] (sp_24 c _ _ _ _ _ s.size) hs fun a w hs => then_normal ?_))
  refine wp_seqN (by kernel_rfl) (wp_as (Code.nav [1, 1, 1, 1, 1, 1, 1, 1, 1, 1, 1, 1, 1, 0] spB) (by kernel_rfl) (At.codeK ok_nil 100 [9, 12, 13] (sp_25 { c with left := Cr.eS } _ _ _ _ _ s.size) hs fun a w hs => then_normal ?_))
  have hinv : Inv { c with left := Cr.eS } := ⟨hg.inv.mode, hg.inv.faults, hg.inv.ack, hg.inv.err, hg.inv.rej⟩
  have hgood : Good { c with left := Cr.eS } 0 := ⟨hinv, Nat.le_refl 0⟩
  have r26 := sp_26 stepC stepP { c with left := Cr.eS } (wr .i64 (c.tick + 500)) (AB.dead) (plNB bg) (frB k d) (tuB x y) (.bts s.size (btsPut (byteI s) j (bxor .u8 (byteI s j) y)) 5) s.size
  rw [(hgood.fits (b := Cr.eS) (by decide)).1, bt] at r26
  refine wp_seqN (by kernel_rfl) (wp_as (Code.nav [1, 1, 1, 1, 1, 1, 1, 1, 1, 1, 1, 1, 1, 1, 0] spB) (by kernel_rfl) (At.codeK ok_Sp 100 [9, 12, 13, 16] (r26) hs fun a w hs => then_normal ?_))
  have r27 := sp_27 stepC stepP { c with left := Cr.eS } (stepP (nm { c with left := Cr.eS }) (wr .i64 (c.tick + 500)) Cr.eS).c (wr .i64 (c.tick + 500)) (AB.dead) (plNB bg) (frB k d) (tuB x y) s.size (btsPut (byteI s) j (bxor .u8 (byteI s j) y))
  have hts : (turnB s j y).size ≤ 69 := by rw [Cr.turn_size]; omega
  have hfit2 : stepC (nm { c with left := Cr.eS }) (strOf ((List.range s.size).map (btsPut (byteI s) j (bxor .u8 (byteI s j) y)))) = true := (hgood.fits (b := turnB s j y) (by omega)).1
  rw [beqN, bt, hfit2, bt] at r27
  refine wp_seqN (by kernel_rfl) (wp_as (Code.nav [1, 1, 1, 1, 1, 1, 1, 1, 1, 1, 1, 1, 1, 1, 1, 0] spB) (by kernel_rfl) (At.codeK ok_Sp 100 [16, 18] (r27) hs fun a w hs => then_normal ?_))
  obtain ⟨r, hd', hr⟩ := spoilt_step (c := nm { c with left := Cr.eS }) (wr .i64 (c.tick + 500)) (b := turnB s j y) (by rw [nm_left]) hscan.1 hscan.2
  have hai := (hgood.step (wr .i64 (c.tick + 500)) Cr.eS).inv.rej
  have hv := spV_true hd' hr hai
  have hs : At m W0 142 [(16, .ptr 7 0), (18, .ptr 8 0)] (sp9 { c with left := Cr.eS } (AB.dead) (plNB bg) (frB k d) (tuB x y) (.bts s.size (btsPut (byteI s) j (bxor .u8 (byteI s j) y)) 5) (stepP (nm { c with left := Cr.eS }) (wr .i64 (c.tick + 500)) Cr.eS).c (stepP (nm { c with left := Cr.eS }) (wr .i64 (c.tick + 500)) (turnB s j y)).c) a w := hs
  generalize (stepP (nm { c with left := Cr.eS }) (wr .i64 (c.tick + 500)) Cr.eS).c = cA at hs hv
  generalize (stepP (nm { c with left := Cr.eS }) (wr .i64 (c.tick + 500)) (turnB s j y)).c = cD at hs hv
  have r28 := sp_28 { c with left := Cr.eS } cA cD (AB.dead) (plNB bg) (frB k d) (tuB x y) (.bts s.size (btsPut (byteI s) j (bxor .u8 (byteI s j) y)) 5)
  unfold spV at hv
  cases hcond : (bif (bif !cD.on then true else decide (cD.rej < cA.rej)) then true else decide (cD.rej > wr .i64 (cA.rej + 1))) with
  | true =>
    rw [hcond, bt] at r28 hv
    rw [hv] at r28
    exact wp_seqN (by kernel_rfl) (wp_as (Code.nav [1, 1, 1, 1, 1, 1, 1, 1, 1, 1, 1, 1, 1, 1, 1, 1, 0] spB) (by kernel_rfl) (At.codeK ok_nil 100 [6, 16, 18] r28 hs fun a w hs => then_ret (fin rfl rfl hs)))
  | false =>
    rw [hcond, bf] at r28 hv
    refine wp_seqN (by kernel_rfl) (wp_as (Code.nav [1, 1, 1, 1, 1, 1, 1, 1, 1, 1, 1, 1, 1, 1, 1, 1, 0] spB) (by kernel_rfl) (At.codeK ok_nil 100 [6, 16, 18] r28 hs fun a w hs => then_normal ?_))
    have r30 := sp_30 { c with left := Cr.eS } cA cD (AB.dead) (plNB bg) (frB k d) (tuB x y) (.bts s.size (btsPut (byteI s) j (bxor .u8 (byteI s j) y)) 5)
    rw [hv] at r30
    exact wp_as (Code.nav [1, 1, 1, 1, 1, 1, 1, 1, 1, 1, 1, 1, 1, 1, 1, 1, 1] spB) (by kernel_rfl) (At.codeK ok_nil 100 [6] r30 hs fun a w hs => fin rfl rfl hs)
end Go.Proofs.YtdojnnlhaiennaaGreat.Tp
