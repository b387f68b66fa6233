/- The laws of layer 12 but for the one of lengths. Conditions: none. -/
import Derived.Test.YtkdlliedpjnobaaSe4
namespace Go.Proofs.Ytkdlliedpjnobaa.Se
open Go Go.Proofs.Ytkdlliedpjnobaa.Ae Go.Proofs.Ytkdlliedpjnobaa.Fx Go.Proofs.Ytkdlliedpjnobaa.Lx Go.Proofs.Ytkdlliedpjnobaa.Tx Go.Proofs.Ytkdlliedpjnobaa.Ve Go.Proofs.Ytkdlliedpjnobaa.Te Go.Proofs.Ytkdlliedpjnobaa.Rx Go.Proofs.Ytkdlliedpjnobaa.Row

def rEq (r s : Rdg) : Bool := (r.k == s.k) && ((r.t == s.t) && (((r.v.x == s.v.x) && ((r.v.y == s.v.y) && ((r.v.z == s.v.z) && true))) && true))
section
variable (wf rwf : Int → Int → Six → Fr) (rd rrd : Int → ByteArray → Rdg × Bool)
def envA12 : Env := [(28, .pure anyArgs (swriteF wf)), (26, .pure anyArgs (sreadF rd)), (30, .pure anyArgs freshF)]
theorem awake12_raw : acall Try.prog (envA12 wf rd) 100 25 [] [] pK =
    let x := wf 1 7 ⟨32, 0, -32, 0, 0, 0⟩
    let r := rd x.k x.s
    let no : Option AV := some (.bool false)
    bif x.ok then (bif an true r.2 then (bif an true (rEq r.1 ⟨1, 7, ⟨1073741824, 0, -1073741824⟩⟩) then (bif an true (freshP r.1.t 507) then some (.bool (an true (!(freshP r.1.t 508)))) else no) else no) else no) else no := by kernel_rfl
def envL12 : Env := (25, .pure anyArgs yesF) :: (29, .pure anyArgs (swriteF rwf)) :: (27, .pure anyArgs (sreadF rrd)) :: (31, .pure anyArgs freshF) :: envA12 wf rd
theorem sreads_raw (k : Int) (s : ByteArray) : acall Try.prog (envL12 wf rwf rd rrd) 100 8 [.agg [I k, .str s]] [] ansK =
    some (an (rEq (rd k s).1 (rrd k s).1) ((rd k s).2 == (rrd k s).2)) := by kernel_rfl
theorem swrites_raw (k t : Int) (c : Six) : acall Try.prog (envL12 wf rwf rd rrd) 100 9 [I k, I t, c.av] [] ansK =
    let x := wf k t c
    let y := rwf k t c
    some (an (fEq x.k y.k x.s y.s) (x.ok == y.ok)) := by kernel_rfl
theorem sfresh_raw (t n : Int) : acall Try.prog (envL12 wf rwf rd rrd) 100 10 [I t, I n] [] ansK = some (freshP t n == freshP t n) := by kernel_rfl
def stp (k a c : Int) (K : Option Bool) : Option Bool := bif k == 1 then (bif an true (a != wr .i64 (c * 33554432)) then some false else K) else K
theorem sback_raw (k t : Int) (c : Six) : acall Try.prog (envL12 wf rwf rd rrd) 100 11 [I k, I t, c.av] [] ansK =
    let x := wf k t c
    bif !x.ok then some (fEq x.k 0 x.s ⟨#[]⟩) else
    let r := rd x.k x.s
    bif !r.2 then some (rEq r.1 Rdg.zero) else
    bif (bif r.1.t != t then true else r.1.k != k) then some false else
    stp k r.1.v.x c.c0 (stp k r.1.v.y c.c1 (stp k r.1.v.z c.c2 (some true))) := by kernel_rfl
def sq20 (x : Int) : Int := wr .i64 (x / p2 20 * (x / p2 20))
def sumI (v : V3) : Int := wr .i64 (wr .i64 (wr .i64 (0 + sq20 v.x) + sq20 v.y) + sq20 v.z)
theorem slong_raw (k : Int) (s : ByteArray) : acall Try.prog (envL12 wf rwf rd rrd) 100 12 [.agg [I k, .str s]] [] ansK =
    let r := rd k s
    bif !r.2 then some true else
    bif r.1.k == 2 then some (bif decide (sumI r.1.v > 1099494850560) then decide (sumI r.1.v < 1099528404992) else false) else
    bif r.1.k == 3 then some (bif decide (sumI r.1.v > 1099494850560) then decide (sumI r.1.v < 15832968513716224) else false) else some true := by kernel_rfl
end

/-! ### What is written is read as that -/
theorem rEq_refl (r : Rdg) : rEq r r = true := by unfold rEq; simp
theorem cut_no {c : Bool} {r : Rdg} (h : (cut c r).2 = false) : (cut c r).1 = Rdg.zero := by
  unfold cut at h ⊢
  split
  · rename_i hc; rw [if_pos hc] at h; cases h
  · rfl
theorem cut_yes {c : Bool} {r : Rdg} (h : (cut c r).2 = true) : (cut c r).1 = r := by
  unfold cut at h ⊢
  split
  · rfl
  · rename_i hc; rw [if_neg hc] at h; cases h
theorem p40 : p2 40 = 1099511627776 ∧ p2 32 = 4294967296 ∧ p2 24 = 16777216 ∧ p2 16 = 65536 ∧ p2 8 = 256 ∧ p2 0 = 1 := by decide
theorem tick_tb {t : Int} (ht : okP t = true) (m : List Int) : tickP (gOf (strOf (tb t ++ m))) = t := by
  have ht : 0 ≤ t ∧ t ≤ 157766400000 := of_decide_eq_true ht
  obtain ⟨p1, p2', p3, p4, p5, p6⟩ := p40
  have G : ∀ (i : Nat) (n : Int), (tb t ++ m)[i]? = some (wr .u8 n) → gOf (strOf (tb t ++ m)) i = n % 256 := fun i n h => gOf_strOf _ (n := n % 256) h (by omega)
  unfold tickP
  rw [G 0 (t / p2 40) rfl, G 1 (t / p2 32) rfl, G 2 (t / p2 24) rfl, G 3 (t / p2 16) rfl, G 4 (t / p2 8) rfl, G 5 (t / p2 0) rfl, p1, p2', p3, p4, p5, p6]
  omega
theorem two_sg {n : Int} (h : -32768 ≤ n ∧ n ≤ 32767) : Te.sg (n / 256 % 256) (n % 256) = n := by
  unfold Te.sg; split <;> omega
theorem at_s2 {l : List Int} {i : Nat} {c : Int} (h1 : l[i]? = some (wr .u8 (c / p2 8))) (h2 : l[i + 1]? = some (wr .u8 c)) (hc : i16 c = true) : s2 (gOf (strOf l)) i = c := by
  have hc := i16_in hc
  obtain ⟨-, -, -, -, p5, -⟩ := p40
  rw [p5] at h1
  unfold s2
  rw [gOf_strOf l (n := c / 256 % 256) h1 (by omega), gOf_strOf l (n := c % 256) h2 (by omega), two_sg hc]
/-- The law of reading back. -/
theorem back_plain (k t : Int) (c : Six) :
    (let x := writeS k t c
    bif !x.ok then some (fEq x.k 0 x.s ⟨#[]⟩) else
    let r := readS x.k x.s
    bif !r.2 then some (rEq r.1 Rdg.zero) else
    bif (bif r.1.t != t then true else r.1.k != k) then some false else
    stp k r.1.v.x c.c0 (stp k r.1.v.y c.c1 (stp k r.1.v.z c.c2 (some true)))) = some true := by
  dsimp only
  have fin : ∀ (d : Bool) (r : Rdg), r.t = t → r.k = k → (k = 1 → r.v = ⟨c.c0 * 33554432, c.c1 * 33554432, c.c2 * 33554432⟩ ∧ i16 c.c0 = true ∧ i16 c.c1 = true ∧ i16 c.c2 = true) →
      (bif !(cut d r).2 then some (rEq (cut d r).1 Rdg.zero) else bif (bif (cut d r).1.t != t then true else (cut d r).1.k != k) then some false else
        stp k (cut d r).1.v.x c.c0 (stp k (cut d r).1.v.y c.c1 (stp k (cut d r).1.v.z c.c2 (some true)))) = some true := fun d r ht hk h1 => by
    cases hd : (cut d r).2
    · rw [cut_no hd]; rfl
    · rw [cut_yes hd, ht, hk, Bool.not_true, bf, ne_f rfl, bf, ne_f rfl, bf]
      by_cases e : k = 1
      · obtain ⟨e1, e2, e3, e4⟩ := h1 e
        have e2 := i16_in e2; have e3 := i16_in e3; have e4 := i16_in e4
        rw [e1]
        unfold stp
        rw [eq_t e, bt, bt, bt, w64_in (n := c.c0 * 33554432) (by omega) (by omega), w64_in (n := c.c1 * 33554432) (by omega) (by omega), w64_in (n := c.c2 * 33554432) (by omega) (by omega), ne_f rfl, ne_f rfl, ne_f rfl]
        rfl
      · unfold stp
        rw [eq_f e]; rfl
  have w3c : ∀ kk, (kk = 1 ∨ kk = 3) → kk = k → (bif !(w3P kk t c.c0 c.c1 c.c2).ok then some (fEq (w3P kk t c.c0 c.c1 c.c2).k 0 (w3P kk t c.c0 c.c1 c.c2).s ⟨#[]⟩) else
      bif !(readS (w3P kk t c.c0 c.c1 c.c2).k (w3P kk t c.c0 c.c1 c.c2).s).2 then some (rEq (readS (w3P kk t c.c0 c.c1 c.c2).k (w3P kk t c.c0 c.c1 c.c2).s).1 Rdg.zero) else
      bif (bif (readS (w3P kk t c.c0 c.c1 c.c2).k (w3P kk t c.c0 c.c1 c.c2).s).1.t != t then true else (readS (w3P kk t c.c0 c.c1 c.c2).k (w3P kk t c.c0 c.c1 c.c2).s).1.k != k) then some false else
      stp k (readS (w3P kk t c.c0 c.c1 c.c2).k (w3P kk t c.c0 c.c1 c.c2).s).1.v.x c.c0 (stp k (readS (w3P kk t c.c0 c.c1 c.c2).k (w3P kk t c.c0 c.c1 c.c2).s).1.v.y c.c1 (stp k (readS (w3P kk t c.c0 c.c1 c.c2).k (w3P kk t c.c0 c.c1 c.c2).s).1.v.z c.c2 (some true)))) = some true := fun kk hkk e => by
    unfold w3P
    by_cases h : (okP t && i16 c.c0 && i16 c.c1 && i16 c.c2) = true
    · rw [if_pos h]
      simp only [Bool.and_eq_true] at h
      obtain ⟨⟨⟨ht, h0⟩, h1⟩, h2⟩ := h
      dsimp only
      rw [Bool.not_true, bf]
      have hsz : (strOf (tb t ++ two c.c0 ++ two c.c1 ++ two c.c2)).size = 12 := by rw [strOf_size]; rfl
      have htk : tickP (gOf (strOf (tb t ++ two c.c0 ++ two c.c1 ++ two c.c2))) = t := by rw [List.append_assoc, List.append_assoc]; exact tick_tb ht _
      have v0 : s2 (gOf (strOf (tb t ++ two c.c0 ++ two c.c1 ++ two c.c2))) 6 = c.c0 := at_s2 rfl rfl h0
      have v1 : s2 (gOf (strOf (tb t ++ two c.c0 ++ two c.c1 ++ two c.c2))) 8 = c.c1 := at_s2 rfl rfl h1
      have v2 : s2 (gOf (strOf (tb t ++ two c.c0 ++ two c.c1 ++ two c.c2))) 10 = c.c2 := at_s2 rfl rfl h2
      unfold readS
      rcases hkk with rfl | rfl
      · rw [if_pos ⟨rfl, hsz⟩]
        exact fin _ _ htk e (fun _ => ⟨by rw [v0, v1, v2], h0, h1, h2⟩)
      · rw [if_neg (by omega), if_pos ⟨rfl, hsz⟩]
        exact fin _ _ htk e (fun h => by omega)
    · rw [if_neg h]; rfl
  unfold writeS
  by_cases hk : k = 1 ∨ k = 3
  · rw [if_pos hk]; exact w3c k hk rfl
  rw [if_neg hk]
  by_cases k2 : k = 2
  · rw [if_pos k2]
    unfold w6P
    by_cases h : (okP t && i17 c.c0 && i17 c.c1 && i17 c.c2 && i17 c.c3 && i17 c.c4 && i17 c.c5) = true
    · rw [if_pos h]
      simp only [Bool.and_eq_true] at h
      obtain ⟨⟨⟨⟨⟨⟨ht, h0⟩, h1⟩, h2⟩, h3⟩, h4⟩, h5⟩ := h
      dsimp only
      rw [Bool.not_true, bf]
      have hsz : (strOf (tb t ++ two c.c0 ++ two c.c1 ++ two c.c2 ++ two c.c3 ++ two c.c4 ++ two c.c5)).size = 18 := by rw [strOf_size]; rfl
      have htk : tickP (gOf (strOf (tb t ++ two c.c0 ++ two c.c1 ++ two c.c2 ++ two c.c3 ++ two c.c4 ++ two c.c5))) = t := by rw [List.append_assoc, List.append_assoc, List.append_assoc, List.append_assoc, List.append_assoc]; exact tick_tb ht _
      unfold readS
      rw [if_neg (by omega), if_neg (by omega), if_pos ⟨rfl, hsz⟩]
      exact fin _ _ htk k2.symm (fun h => by omega)
    · rw [if_neg h]; rfl
  · rw [if_neg k2]; rfl

/-! ### The laws -/
theorem envA12_ok : EnvOk Try.prog (envA12 writeS readS) := EnvOk.p (EnvOk.p (EnvOk.p ok_nil (enter_of Try.func30 (by kernel_rfl) rfl) fresh_con) (enter_of Try.func26 (by kernel_rfl) rfl) sread_con) (enter_of Try.func28 (by kernel_rfl) rfl) swrite_con
theorem awake12_ok : PureOk Try.prog 25 anyArgs yesF := by
  refine pure_of envA12_ok 100 _ _ _ ?_
  rintro args v - h
  unfold yesF at h
  split at h <;> cases h
  refine ⟨rfl, rfl, (awake12_raw writeS readS).trans ?_⟩
  have hw : writeS 1 7 ⟨32, 0, -32, 0, 0, 0⟩ = ⟨1, ⟨#[0, 0, 0, 0, 0, 7, 0, 32, 0, 0, 255, 224]⟩, true⟩ := by kernel_rfl
  have hr : readS 1 ⟨#[0, 0, 0, 0, 0, 7, 0, 32, 0, 0, 255, 224]⟩ = (⟨1, 7, ⟨1073741824, 0, -1073741824⟩⟩, true) := by kernel_rfl
  dsimp only
  rw [hw]
  dsimp only
  rw [hr, rEq_refl]
  rfl
theorem envL12_ok : EnvOk Try.prog (envL12 writeS writeS readS readS) :=
  EnvOk.p (EnvOk.p (EnvOk.p (EnvOk.p envA12_ok (enter_of Try.func31 (by kernel_rfl) rfl) rfresh_con) (enter_of Try.func27 (by kernel_rfl) rfl) rread_con) (enter_of Try.func29 (by kernel_rfl) rfl) rswrite_con) (enter_of Try.func25 (by kernel_rfl) rfl) awake12_ok
theorem sreads_law (k : Int) (s : ByteArray) (w : World) : Calls Try.prog 8 #[.agg ⟨[.int .i64 k, .string s]⟩] w fun e w' => e = .returned (.bool true) ∧ Go.RowKit.Below w.heap.size w w' := by
  refine law_true envL12_ok ((sreads_raw writeS writeS readS readS k s).trans (by rw [rEq_refl]; simp [an])) (RL.cons ?_ (RL_nil.2 rfl))
  simp only [R]
  exact ⟨_, rfl, RL.cons (R_int _ _ _) (RL.cons (R_str _ _) (RL_nil.2 rfl))⟩
theorem sixR (m : List Nat) (c : Six) : R m c.av (.agg ⟨[.int .i64 c.c0, .int .i64 c.c1, .int .i64 c.c2, .int .i64 c.c3, .int .i64 c.c4, .int .i64 c.c5]⟩) := by
  unfold Six.av
  simp only [R]
  exact ⟨_, rfl, RL.cons (R_int _ _ _) (RL.cons (R_int _ _ _) (RL.cons (R_int _ _ _) (RL.cons (R_int _ _ _) (RL.cons (R_int _ _ _) (RL.cons (R_int _ _ _) (RL_nil.2 rfl))))))⟩
theorem swrites_law (k t : Int) (c : Six) (w : World) : Calls Try.prog 9 #[.int .i64 k, .int .i64 t, .agg ⟨[.int .i64 c.c0, .int .i64 c.c1, .int .i64 c.c2, .int .i64 c.c3, .int .i64 c.c4, .int .i64 c.c5]⟩] w fun e w' => e = .returned (.bool true) ∧ Go.RowKit.Below w.heap.size w w' :=
  law_true envL12_ok ((swrites_raw writeS writeS readS readS k t c).trans (by dsimp only; rw [fEq_refl]; simp [an])) (RL.cons (R_int _ _ _) (RL.cons (R_int _ _ _) (RL.cons (sixR _ c) (RL_nil.2 rfl))))
theorem sfresh_law (t n : Int) (w : World) : Calls Try.prog 10 #[.int .i64 t, .int .i64 n] w fun e w' => e = .returned (.bool true) ∧ Go.RowKit.Below w.heap.size w w' :=
  law_true envL12_ok ((sfresh_raw writeS writeS readS readS t n).trans (by simp)) (RL.cons (R_int _ _ _) (RL.cons (R_int _ _ _) (RL_nil.2 rfl)))
theorem sback_law (k t : Int) (c : Six) (w : World) : Calls Try.prog 11 #[.int .i64 k, .int .i64 t, .agg ⟨[.int .i64 c.c0, .int .i64 c.c1, .int .i64 c.c2, .int .i64 c.c3, .int .i64 c.c4, .int .i64 c.c5]⟩] w fun e w' => e = .returned (.bool true) ∧ Go.RowKit.Below w.heap.size w w' :=
  law_true envL12_ok ((sback_raw writeS writeS readS readS k t c).trans (back_plain k t c)) (RL.cons (R_int _ _ _) (RL.cons (R_int _ _ _) (RL.cons (sixR _ c) (RL_nil.2 rfl))))
#print axioms sback_law
#print axioms sreads_law
end Go.Proofs.Ytkdlliedpjnobaa.Se
