/- A sensor's frame, and what is fresh: the program's and the reference's functions are the same plain ones. Conditions: none. -/
import Derived.Test.YtkdlliedpjnobaaSe3
namespace Go.Proofs.Ytkdlliedpjnobaa.Se
open Go Go.Proofs.Ytkdlliedpjnobaa.Ae Go.Proofs.Ytkdlliedpjnobaa.Fx Go.Proofs.Ytkdlliedpjnobaa.Lx Go.Proofs.Ytkdlliedpjnobaa.Tx Go.Proofs.Ytkdlliedpjnobaa.Ve Go.Proofs.Ytkdlliedpjnobaa.Te Go.Proofs.Ytkdlliedpjnobaa.Rx

/-- Six counts. -/
structure Six where
  (c0 c1 c2 c3 c4 c5 : Int)
def Six.av (c : Six) : AV := .agg [I c.c0, I c.c1, I c.c2, I c.c3, I c.c4, I c.c5]
def noFr : Option AV := some (Fr.av ⟨0, ⟨#[]⟩, false⟩)
def aFr (k : Int) (l : List Int) : Option AV := some (Fr.av ⟨k, strOf l, true⟩)
def tb (t : Int) : List Int := [wr .u8 (t / p2 40), wr .u8 (t / p2 32), wr .u8 (t / p2 24), wr .u8 (t / p2 16), wr .u8 (t / p2 8), wr .u8 (t / p2 0)]
def two (c : Int) : List Int := [wr .u8 (c / p2 8), wr .u8 c]
def s16 (c : Int) : Bool := c != wr .i64 (wr .i16 c)
def no16 (c : Int) : Bool := bif decide (c < 0) then true else decide (c > 65535)
def no16' (c : Int) : Bool := bif no16 c then true else false
theorem no16'_eq (c : Int) : no16' c = no16 c := by unfold no16'; cases no16 c <;> rfl
def envSW : Env := [(46, .text), (47, .text)]
def w3 (k t c0 c1 c2 : Int) : Option AV := bif !(okT t) then noFr else bif s16 c0 then noFr else bif s16 c1 then noFr else bif s16 c2 then noFr else aFr k (tb t ++ two c0 ++ two c1 ++ two c2)
theorem write1_raw (t : Int) (c : Six) : acall Try.prog envSW 200 28 [I 1, I t, c.av] [] pK = w3 1 t c.c0 c.c1 c.c2 := by kernel_rfl
theorem write3_raw (t : Int) (c : Six) : acall Try.prog envSW 200 28 [I 3, I t, c.av] [] pK = w3 3 t c.c0 c.c1 c.c2 := by kernel_rfl
theorem write2_raw (t : Int) (c : Six) : acall Try.prog envSW 200 28 [I 2, I t, c.av] [] pK =
    bif !(okT t) then noFr else bif no16' c.c0 then noFr else bif no16' c.c1 then noFr else bif no16' c.c2 then noFr else bif no16' c.c3 then noFr else bif no16' c.c4 then noFr else bif no16' c.c5 then noFr else
      aFr 2 (tb t ++ two c.c0 ++ two c.c1 ++ two c.c2 ++ two c.c3 ++ two c.c4 ++ two c.c5) := by kernel_rfl
theorem writeN_raw (k t : Int) (c : Six) : acall Try.prog envSW 200 28 [.intF .i64 k [] [] [1, 2, 3], I t, c.av] [] pK = noFr := by kernel_rfl
def rc (c : Int) : Int := bif decide (c < 0) then wr .i64 (c + 65536) else c
def rtwo (c : Int) : List Int := [wr .u8 (wr .i64 ((rc c).tdiv 256)), wr .u8 ((rc c).tmod 256)]
def rs16 (c : Int) : Bool := bif decide (c < -32768) then true else decide (c > 32767)
def renvSW : Env := [(51, .text)]
def rw3 (k t c0 c1 c2 : Int) : Option AV := bif !(rokT t) then noFr else bif rs16 c0 then noFr else bif rs16 c1 then noFr else bif rs16 c2 then noFr else aFr k (tb t ++ rtwo c0 ++ rtwo c1 ++ rtwo c2)
theorem rwrite1_raw (t : Int) (c : Six) : acall Try.prog renvSW 200 29 [I 1, I t, c.av] [] pK = rw3 1 t c.c0 c.c1 c.c2 := by kernel_rfl
theorem rwrite3_raw (t : Int) (c : Six) : acall Try.prog renvSW 200 29 [I 3, I t, c.av] [] pK = rw3 3 t c.c0 c.c1 c.c2 := by kernel_rfl
theorem rwrite2_raw (t : Int) (c : Six) : acall Try.prog renvSW 200 29 [I 2, I t, c.av] [] pK =
    bif !(rokT t) then noFr else bif no16 c.c0 then noFr else bif no16 c.c1 then noFr else bif no16 c.c2 then noFr else bif no16 c.c3 then noFr else bif no16 c.c4 then noFr else bif no16 c.c5 then noFr else
      aFr 2 (tb t ++ rtwo c.c0 ++ rtwo c.c1 ++ rtwo c.c2 ++ rtwo c.c3 ++ rtwo c.c4 ++ rtwo c.c5) := by kernel_rfl
theorem rwriteL_raw (k t : Int) (c : Six) : acall Try.prog renvSW 200 29 [.intF .i64 k [] [0] [1, 2, 3], I t, c.av] [] pK = noFr := by kernel_rfl
theorem rwriteH_raw (k t : Int) (c : Six) : acall Try.prog renvSW 200 29 [.intF .i64 k [4] [] [1, 2, 3], I t, c.av] [] pK = noFr := by kernel_rfl

/-! ### The plain function -/
def i16 (c : Int) : Bool := decide (-32768 ≤ c ∧ c ≤ 32767)
def i17 (c : Int) : Bool := decide (0 ≤ c ∧ c ≤ 65535)
def w3P (k t c0 c1 c2 : Int) : Fr := if (okP t && i16 c0 && i16 c1 && i16 c2) = true then ⟨k, strOf (tb t ++ two c0 ++ two c1 ++ two c2), true⟩ else ⟨0, ⟨#[]⟩, false⟩
def w6P (t : Int) (c : Six) : Fr := if (okP t && i17 c.c0 && i17 c.c1 && i17 c.c2 && i17 c.c3 && i17 c.c4 && i17 c.c5) = true then ⟨2, strOf (tb t ++ two c.c0 ++ two c.c1 ++ two c.c2 ++ two c.c3 ++ two c.c4 ++ two c.c5), true⟩ else ⟨0, ⟨#[]⟩, false⟩
def writeS (k t : Int) (c : Six) : Fr := if k = 1 ∨ k = 3 then w3P k t c.c0 c.c1 c.c2 else if k = 2 then w6P t c else ⟨0, ⟨#[]⟩, false⟩
theorem s16_eq (c : Int) : s16 c = !(i16 c) := by
  unfold s16 i16
  have e : wr .i64 (wr .i16 c) = (c + 32768) % 65536 - 32768 := by
    have : wr .i16 c = (c + 32768) % 65536 - 32768 := rfl
    rw [this]; exact w64_in (by omega) (by omega)
  rw [e]
  by_cases h : -32768 ≤ c ∧ c ≤ 32767
  · have : (c + 32768) % 65536 - 32768 = c := by omega
    rw [this, decide_eq_true h]; simp
  · have : c ≠ (c + 32768) % 65536 - 32768 := by omega
    rw [decide_eq_false h]; simpa using this
theorem rng_eq (c lo hi : Int) : (bif decide (c < lo) then true else decide (c > hi)) = !(decide (lo ≤ c ∧ c ≤ hi)) := by
  by_cases h : c < lo
  · rw [decide_eq_true h, bt, decide_eq_false (by omega)]; rfl
  · rw [decide_eq_false h, bf]
    by_cases h2 : c > hi
    · rw [decide_eq_true h2, decide_eq_false (by omega)]; rfl
    · rw [decide_eq_false h2, decide_eq_true (by omega)]; rfl
theorem no16_eq (c : Int) : no16 c = !(i17 c) := rng_eq c 0 65535
theorem rs16_eq (c : Int) : rs16 c = !(i16 c) := rng_eq c (-32768) 32767
theorem rtwo_eq {c : Int} (h : -32768 ≤ c ∧ c ≤ 65535) : rtwo c = two c := by
  unfold rtwo two
  have e8 : p2 8 = 256 := by decide
  have hc : 0 ≤ rc c ∧ rc c ≤ 65535 ∧ rc c % 65536 = c % 65536 := by
    unfold rc
    by_cases hn : c < 0
    · rw [decide_eq_true hn, bt, w64_in (by omega) (by omega)]; omega
    · rw [decide_eq_false hn, bf]; omega
  generalize rc c = d at *
  have e1 : d.tdiv 256 = d / 256 := Int.tdiv_eq_ediv_of_nonneg hc.1
  have e2 : d.tmod 256 = d % 256 := Int.tmod_eq_emod_of_nonneg hc.1
  rw [e1, e2, e8, w64_in (by omega) (by omega), u8_eq, u8_eq, u8_eq, u8_eq]
  have e3 : d / 256 % 256 = c / 256 % 256 := by omega
  have e4 : d % 256 % 256 = c % 256 := by omega
  rw [e3, e4]
theorem i16_in {c : Int} (h : i16 c = true) : -32768 ≤ c ∧ c ≤ 32767 := of_decide_eq_true h
theorem i17_in {c : Int} (h : i17 c = true) : 0 ≤ c ∧ c ≤ 65535 := of_decide_eq_true h
theorem w3_eq (k t c0 c1 c2 : Int) : w3 k t c0 c1 c2 = some (w3P k t c0 c1 c2).av := by
  unfold w3 w3P
  rw [okT_eq, s16_eq, s16_eq, s16_eq]
  cases okP t <;> cases i16 c0 <;> cases i16 c1 <;> cases i16 c2 <;> rfl
theorem rw3_eq (k t c0 c1 c2 : Int) : rw3 k t c0 c1 c2 = some (w3P k t c0 c1 c2).av := by
  unfold rw3 w3P
  rw [rokT_eq, rs16_eq, rs16_eq, rs16_eq]
  cases okP t with
  | false => rfl
  | true =>
  cases h0 : i16 c0 with
  | false => rfl
  | true =>
  cases h1 : i16 c1 with
  | false => rfl
  | true =>
  cases h2 : i16 c2 with
  | false => rfl
  | true =>
  have h0 := i16_in h0; have h1 := i16_in h1; have h2 := i16_in h2
  rw [rtwo_eq (by omega), rtwo_eq (by omega), rtwo_eq (by omega)]
  rfl
theorem w6_eq (t : Int) (c : Six) : (bif !(okT t) then noFr else bif no16' c.c0 then noFr else bif no16' c.c1 then noFr else bif no16' c.c2 then noFr else bif no16' c.c3 then noFr else bif no16' c.c4 then noFr else bif no16' c.c5 then noFr else
      aFr 2 (tb t ++ two c.c0 ++ two c.c1 ++ two c.c2 ++ two c.c3 ++ two c.c4 ++ two c.c5)) = some (w6P t c).av := by
  unfold w6P
  rw [okT_eq, no16'_eq, no16'_eq, no16'_eq, no16'_eq, no16'_eq, no16'_eq, no16_eq, no16_eq, no16_eq, no16_eq, no16_eq, no16_eq]
  cases okP t <;> cases i17 c.c0 <;> cases i17 c.c1 <;> cases i17 c.c2 <;> cases i17 c.c3 <;> cases i17 c.c4 <;> cases i17 c.c5 <;> rfl
theorem rw6_eq (t : Int) (c : Six) : (bif !(rokT t) then noFr else bif no16 c.c0 then noFr else bif no16 c.c1 then noFr else bif no16 c.c2 then noFr else bif no16 c.c3 then noFr else bif no16 c.c4 then noFr else bif no16 c.c5 then noFr else
      aFr 2 (tb t ++ rtwo c.c0 ++ rtwo c.c1 ++ rtwo c.c2 ++ rtwo c.c3 ++ rtwo c.c4 ++ rtwo c.c5)) = some (w6P t c).av := by
  rw [← w6_eq, no16'_eq, no16'_eq, no16'_eq, no16'_eq, no16'_eq, no16'_eq, okT_eq, rokT_eq, no16_eq, no16_eq, no16_eq, no16_eq, no16_eq, no16_eq]
  cases okP t with
  | false => rfl
  | true =>
  cases h0 : i17 c.c0 with
  | false => rfl
  | true =>
  cases h1 : i17 c.c1 with
  | false => rfl
  | true =>
  cases h2 : i17 c.c2 with
  | false => rfl
  | true =>
  cases h3 : i17 c.c3 with
  | false => rfl
  | true =>
  cases h4 : i17 c.c4 with
  | false => rfl
  | true =>
  cases h5 : i17 c.c5 with
  | false => rfl
  | true =>
  have h0 := i17_in h0; have h1 := i17_in h1; have h2 := i17_in h2; have h3 := i17_in h3; have h4 := i17_in h4; have h5 := i17_in h5
  rw [rtwo_eq (by omega), rtwo_eq (by omega), rtwo_eq (by omega), rtwo_eq (by omega), rtwo_eq (by omega), rtwo_eq (by omega)]
def swriteF (wf : Int → Int → Six → Fr) : List AV → Option AV
  | [.int .i64 k, .int .i64 t, .agg [.int .i64 a, .int .i64 b, .int .i64 c, .int .i64 d, .int .i64 e, .int .i64 f]] => some (wf k t ⟨a, b, c, d, e, f⟩).av
  | _ => none
theorem swriteF_some {wf : Int → Int → Six → Fr} {args : List AV} {v : AV} (h : swriteF wf args = some v) : ∃ k t c, args = [I k, I t, Six.av c] ∧ v = (wf k t c).av := by
  unfold swriteF at h
  split at h <;> cases h
  exact ⟨_, _, ⟨_, _, _, _, _, _⟩, rfl, rfl⟩
theorem RL_first {m : List Nat} {k : Int} {r : List AV} {a : AV} (h : ∀ V, R m (I k) V → R m a V) {Vs : List Value} (hv : RL m (I k :: r) Vs) : RL m (a :: r) Vs := by
  obtain ⟨V, Vs', rfl, h1, h2⟩ := RL_cons.1 hv
  exact RL.cons (h _ h1) h2
theorem swrite_con : PureOk Try.prog 28 anyArgs (swriteF writeS) := by
  have hE : EnvOk Try.prog envSW := EnvOk.t (EnvOk.t ok_nil (enter_of Try.func47 (by kernel_rfl) rfl)) (enter_of Try.func46 (by kernel_rfl) rfl)
  refine pure_of' hE 200 _ _ _ ?_
  rintro args v - h
  obtain ⟨k, t, c, rfl, rfl⟩ := swriteF_some h
  refine ⟨rfl, ?_⟩
  by_cases k1 : k = 1
  · subst k1
    exact ⟨_, rfl, fun m Vs hv => hv, (write1_raw t c).trans (w3_eq ..)⟩
  by_cases k3 : k = 3
  · subst k3
    exact ⟨_, rfl, fun m Vs hv => hv, (write3_raw t c).trans (w3_eq ..)⟩
  by_cases k2 : k = 2
  · subst k2
    exact ⟨_, rfl, fun m Vs hv => hv, (write2_raw t c).trans (w6_eq ..)⟩
  refine ⟨[.intF .i64 k [] [] [1, 2, 3], I t, c.av], rfl, fun m Vs hv => RL_first (fun V hV => R_intF m k _ _ _ ⟨by simp, by simp⟩ (by simp; omega) hV) hv, (writeN_raw k t c).trans ?_⟩
  unfold writeS
  rw [if_neg (by omega), if_neg k2]
  rfl
theorem rswrite_con : PureOk Try.prog 29 anyArgs (swriteF writeS) := by
  have hE : EnvOk Try.prog renvSW := EnvOk.t ok_nil (enter_of Try.func51 (by kernel_rfl) rfl)
  refine pure_of' hE 200 _ _ _ ?_
  rintro args v - h
  obtain ⟨k, t, c, rfl, rfl⟩ := swriteF_some h
  refine ⟨rfl, ?_⟩
  by_cases k1 : k = 1
  · subst k1
    exact ⟨_, rfl, fun m Vs hv => hv, (rwrite1_raw t c).trans (rw3_eq ..)⟩
  by_cases k3 : k = 3
  · subst k3
    exact ⟨_, rfl, fun m Vs hv => hv, (rwrite3_raw t c).trans (rw3_eq ..)⟩
  by_cases k2 : k = 2
  · subst k2
    exact ⟨_, rfl, fun m Vs hv => hv, (rwrite2_raw t c).trans (rw6_eq ..)⟩
  have z : noFr = some (writeS k t c).av := by
    unfold writeS
    rw [if_neg (by omega), if_neg k2]
    rfl
  rcases (show k ≤ 0 ∨ 4 ≤ k by omega) with l | l
  · exact ⟨[.intF .i64 k [] [0] [1, 2, 3], I t, c.av], rfl, fun m Vs hv => RL_first (fun V hV => R_intF m k _ _ _ ⟨by simp, by simpa using l⟩ (by simp; omega) hV) hv, (rwriteL_raw k t c).trans z⟩
  · exact ⟨[.intF .i64 k [4] [] [1, 2, 3], I t, c.av], rfl, fun m Vs hv => RL_first (fun V hV => R_intF m k _ _ _ ⟨by simpa using l, by simp⟩ (by simp; omega) hV) hv, (rwriteH_raw k t c).trans z⟩

/-! ### Fresh -/
def freshP (t n : Int) : Bool := bif decide (t ≤ n) then decide (wr .u64 (wr .u64 n - wr .u64 t) ≤ 500) else false
theorem fresh_raw (k t a b c n : Int) : acall Try.prog [] 60 30 [.agg [I k, I t, I a, I b, I c], I n] [] pK = some (.bool (freshP t n)) := by kernel_rfl
theorem rfresh_raw (k t a b c n : Int) : acall Try.prog [] 60 31 [.agg [I k, I t, I a, I b, I c], I n] [] pK =
    bif decide (t > n) then some (.bool false) else some (.bool (decide (wr .u64 (wr .u64 n - wr .u64 t) ≤ 500))) := by kernel_rfl
def freshF : List AV → Option AV
  | [.agg [.int .i64 _, .int .i64 t, .int .i64 _, .int .i64 _, .int .i64 _], .int .i64 n] => some (.bool (freshP t n))
  | _ => none
theorem freshF_some {args : List AV} {v : AV} (h : freshF args = some v) : ∃ k t a b c n, args = [.agg [I k, I t, I a, I b, I c], I n] ∧ v = .bool (freshP t n) := by
  unfold freshF at h
  split at h <;> cases h
  exact ⟨_, _, _, _, _, _, rfl, rfl⟩
theorem fresh_con : PureOk Try.prog 30 anyArgs freshF := by
  refine pure_of ok_nil 60 _ _ _ ?_
  rintro args v - h
  obtain ⟨k, t, a, b, c, n, rfl, rfl⟩ := freshF_some h
  exact ⟨rfl, rfl, fresh_raw k t a b c n⟩
theorem rfresh_con : PureOk Try.prog 31 anyArgs freshF := by
  refine pure_of ok_nil 60 _ _ _ ?_
  rintro args v - h
  obtain ⟨k, t, a, b, c, n, rfl, rfl⟩ := freshF_some h
  refine ⟨rfl, rfl, (rfresh_raw k t a b c n).trans ?_⟩
  unfold freshP
  by_cases hn : t ≤ n
  · rw [decide_eq_true hn, decide_eq_false (show ¬ t > n by omega), bt, bf]
  · rw [decide_eq_false hn, decide_eq_true (show t > n by omega), bt, bf]
#print axioms rswrite_con
end Go.Proofs.Ytkdlliedpjnobaa.Se
