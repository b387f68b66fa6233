/- Orders as plain numbers; their laws. Conditions: none. -/
import Derived.Test.YtkdlliedpjnobaaOr2
namespace Go.Proofs.Ytkdlliedpjnobaa.Orb
open Go Go.Proofs.Ytkdlliedpjnobaa.Ae Go.Proofs.Ytkdlliedpjnobaa.Fx Go.Proofs.Ytkdlliedpjnobaa.Lx Go.Proofs.Ytkdlliedpjnobaa.Tx Go.Proofs.Ytkdlliedpjnobaa.Te Go.Proofs.Ytkdlliedpjnobaa.Rx Go.Proofs.Ytkdlliedpjnobaa.Row

/-! ### Which elements are right -/
def rightO (o : El) : Bool :=
  let m1 := mul o.a (wr .i64 (1099511627776 - o.e)) false
  let m2 := mul o.a (wr .i64 (1099511627776 + o.e)) m1.2
  !(farA o.node) && !(farA o.peri) && !(farA o.m) && !(decide (o.e < 0)) && !(decide (o.e > 109951162777)) && !(decide (o.i < 0)) && !(decide (o.i > 3454217652358)) && ckT o.t && decide (m1.1 ≥ 7232738120604) && decide (m2.1 ≤ 9211859050600) && !m2.2
theorem chkS_eq : ∀ (l : List Bool) (b : Bool), chkS l (some (.bool b)) = some (.bool (l.all (fun x => !x) && b))
  | [], b => by simp [chkS]
  | x :: l, b => by
    simp only [chkS]
    rw [chkS_eq l]
    cases x <;> simp
theorem inA_eq (n : Int) : inA n = !(farA n) := by
  unfold inA farA
  rw [an_eq, oor_eq']
  by_cases h1 : n < -6908435304716 <;> by_cases h2 : n > 6908435304716 <;> simp [h1, h2] <;> omega
where oor_eq' (a b : Bool) : oor a b = (a || b) := by cases a <;> rfl
theorem rightRaw_eq (o : El) (m1 m2 : Int × Bool) :
    chkS [farA o.node, farA o.peri, farA o.m, decide (o.e < 0), decide (o.e > 109951162777), decide (o.i < 0), decide (o.i > 3454217652358), !(ckT o.t)]
      (bif decide (m1.1 ≥ 7232738120604) then (bif decide (m2.1 ≤ 9211859050600) then some (.bool !m2.2) else some (.bool false)) else some (.bool false)) =
    some (.bool (!(farA o.node) && !(farA o.peri) && !(farA o.m) && !(decide (o.e < 0)) && !(decide (o.e > 109951162777)) && !(decide (o.i < 0)) && !(decide (o.i > 3454217652358)) && ckT o.t && decide (m1.1 ≥ 7232738120604) && decide (m2.1 ≤ 9211859050600) && !m2.2)) := by
  have e : (bif decide (m1.1 ≥ 7232738120604) then (bif decide (m2.1 ≤ 9211859050600) then some (AV.bool !m2.2) else some (.bool false)) else some (.bool false)) = some (.bool (decide (m1.1 ≥ 7232738120604) && (decide (m2.1 ≤ 9211859050600) && !m2.2))) := by
    cases decide (m1.1 ≥ 7232738120604) <;> cases decide (m2.1 ≤ 9211859050600) <;> rfl
  rw [e, chkS_eq]
  simp only [List.all_cons, List.all_nil, Bool.not_not, Bool.and_true, Bool.and_assoc]
theorem rrightRaw_eq (o : El) (m1 m2 : Int × Bool) :
    chkS [decide (o.e < 0), decide (o.e > 109951162777), decide (o.i < 0), decide (o.i > 3454217652358), !(inA o.node), !(inA o.peri), !(inA o.m), !(an (decide (o.t ≥ 0)) (decide (o.t ≤ 157766400000)))]
      (some (.bool (an (an (!m2.2) (decide (m1.1 ≥ 7232738120604))) (decide (m2.1 ≤ 9211859050600))))) =
    some (.bool (!(farA o.node) && !(farA o.peri) && !(farA o.m) && !(decide (o.e < 0)) && !(decide (o.e > 109951162777)) && !(decide (o.i < 0)) && !(decide (o.i > 3454217652358)) && ckT o.t && decide (m1.1 ≥ 7232738120604) && decide (m2.1 ≤ 9211859050600) && !m2.2)) := by
  rw [chkS_eq]
  simp only [List.all_cons, List.all_nil, Bool.not_not, Bool.and_true, inA_eq, an_eq]
  have ec : ckT o.t = (decide (o.t ≥ 0) && decide (o.t ≤ 157766400000)) := by unfold ckT; rw [an_eq]
  rw [ec]
  congr 2
  generalize farA o.node = b0
  generalize farA o.peri = b1
  generalize farA o.m = b2
  generalize decide (o.e < 0) = b3
  generalize decide (o.e > 109951162777) = b4
  generalize decide (o.i < 0) = b5
  generalize decide (o.i > 3454217652358) = b6
  generalize decide (o.t ≥ 0) = b7
  generalize decide (o.t ≤ 157766400000) = b8
  generalize decide (m1.1 ≥ 7232738120604) = b9
  generalize decide (m2.1 ≤ 9211859050600) = b10
  generalize m2.2 = b11
  ac_rfl
theorem elF_some {f : El → Bool} {args : List AV} {v : AV} (h : elF f args = some v) : ∃ o : El, args = [.agg o.av] ∧ v = .bool (f o) := by
  unfold elF at h
  split at h <;> cases h
  rename_i a e i n p m t
  exact ⟨⟨a, e, i, n, p, m, t⟩, rfl, rfl⟩
theorem oright_con : PureOk Try.prog 43 anyArgs (elF rightO) := by
  have hE : EnvOk Try.prog [(47, .text), (62, m2 62 mul)] := EnvOk.t (EnvOk.f ok_nil Fx.en_mul mul_con) (enter_of Try.func47 (by kernel_rfl) rfl)
  refine pure_of hE 60 _ _ _ ?_
  rintro args v - h
  obtain ⟨o, rfl, rfl⟩ := elF_some h
  exact ⟨rfl, rfl, (oright_raw mul o).trans (rightRaw_eq o _ _)⟩
theorem roright_con : PureOk Try.prog 45 anyArgs (elF rightO) := by
  have hE : EnvOk Try.prog [(51, .text), (85, .text), (74, m2 64 mul)] := EnvOk.t (EnvOk.t (EnvOk.f ok_nil en_rMul rmul_con) (enter_of Try.func85 (by kernel_rfl) rfl)) (enter_of Try.func51 (by kernel_rfl) rfl)
  refine pure_of hE 60 _ _ _ ?_
  rintro args v - h
  obtain ⟨o, rfl, rfl⟩ := elF_some h
  exact ⟨rfl, rfl, (roright_raw mul o).trans (rrightRaw_eq o _ _)⟩

/-! ### Reading -/
def readO (k : Int) (s : ByteArray) : RO :=
  if k = 16 ∧ 2 ≤ s.size then
    if gOf s 1 = 1 ∨ gOf s 1 = 2 ∨ gOf s 1 = 4 then
      if s.size = 2 then ⟨⟨gOf s 0, gOf s 1, El.zero⟩, 0⟩ else ⟨⟨gOf s 0, 0, El.zero⟩, 1⟩
    else if gOf s 1 = 3 then
      if s.size = 58 then (if rightO (rdEl (gOf s)) then ⟨⟨gOf s 0, 3, rdEl (gOf s)⟩, 0⟩ else ⟨⟨gOf s 0, 0, El.zero⟩, 3⟩) else ⟨⟨gOf s 0, 0, El.zero⟩, 1⟩
    else ⟨⟨gOf s 0, 0, El.zero⟩, 2⟩
  else ⟨⟨0, 0, El.zero⟩, 1⟩
def oreadF (rd : Int → ByteArray → RO) : List AV → Option AV
  | [.agg [.int .i64 k, .str s]] => some (rd k s).av
  | _ => none
theorem oreadF_some {rd : Int → ByteArray → RO} {args : List AV} {v : AV} (h : oreadF rd args = some v) : ∃ k s, args = [.agg [I k, .str s]] ∧ v = (rd k s).av := by
  unfold oreadF at h
  split at h <;> cases h
  exact ⟨_, _, rfl, rfl⟩
theorem envOR_ok : EnvOk Try.prog (envOR rightO) := EnvOk.t (EnvOk.t (EnvOk.p ok_nil (enter_of Try.func43 (by kernel_rfl) rfl) oright_con) (enter_of Try.func44 (by kernel_rfl) rfl)) (enter_of Try.func42 (by kernel_rfl) rfl)
theorem eq_t {a b : Int} (h : a = b) : (a == b) = true := by simpa using h
theorem eq_f {a b : Int} (h : ¬ a = b) : (a == b) = false := by simpa using h
theorem ne_t {a b : Int} (h : ¬ a = b) : (a != b) = true := by simpa using h
theorem ne_f {a b : Int} (h : a = b) : (a != b) = false := by simpa using h
theorem is24_t {c : Int} (h : c = 2 ∨ c = 4) : is24 c = true := by
  unfold is24
  rcases h with rfl | rfl <;> decide
theorem is24_f {c : Int} (h2 : ¬ c = 2) (h4 : ¬ c = 4) : is24 c = false := by
  unfold is24; rw [eq_f h2, bf, eq_f h4]
theorem gw (s : ByteArray) (i : Nat) : wr .i64 (gOf s i) = gOf s i := by have := gOf_B s i; exact w64_in (by omega) (by omega)
/-- The orders' tree, by its parts. -/
theorem tree_eq {q c : Int} {n1 n2 x1 x2 x3 x4 : Option AV} (h1 : c = 1 → x1 = n1) (h24 : c = 2 ∨ c = 4 → x2 = n1) (h3 : c = 3 → x3 = n2) (h0 : ¬ c = 1 → ¬ c = 2 → ¬ c = 4 → ¬ c = 3 → x4 = ro q 0 El.zero 2) :
    (bif c == 1 then x1 else bif is24 c then x2 else bif c == 3 then x3 else x4) = if c = 1 ∨ c = 2 ∨ c = 4 then n1 else if c = 3 then n2 else ro q 0 El.zero 2 := by
  by_cases c1 : c = 1
  · rw [eq_t c1, bt, if_pos (.inl c1), h1 c1]
  · rw [eq_f c1, bf]
    by_cases c24 : c = 2 ∨ c = 4
    · rw [is24_t c24, bt, if_pos (.inr c24), h24 c24]
    · have c2 : ¬ c = 2 := fun e => c24 (.inl e)
      have c4 : ¬ c = 4 := fun e => c24 (.inr e)
      rw [is24_f c2 c4, bf, if_neg (by rintro (h | h | h) <;> contradiction)]
      by_cases c3 : c = 3
      · rw [eq_t c3, bt, if_pos c3, h3 c3]
      · rw [eq_f c3, bf, if_neg c3, h0 c1 c2 c4 c3]
theorem oread_con : PureOk Try.prog 24 anyArgs (oreadF readO) := by
  refine pure_of' envOR_ok 120 _ _ _ ?_
  rintro args v - h
  obtain ⟨k, s, rfl, rfl⟩ := oreadF_some h
  refine ⟨rfl, ?_⟩
  have strG : ∀ n, s.size = n → ∀ m Vs, RL m [.agg [I k, .str s]] Vs → RL m [.agg [I k, .strG s n (gOf s)]] Vs := fun n hn m Vs hv => RL_frame (fun V hV => by rw [← hn]; exact R_strG m s hV) hv
  have none1 : ¬ (k = 16 ∧ 2 ≤ s.size) → some (readO k s).av = ro 0 0 El.zero 1 := fun hn => by unfold readO; rw [if_neg hn]; rfl
  have kind : ∀ (X : Option AV), (k = 16 → X = some (readO k s).av) → 2 ≤ s.size → (bif oor (k != 16) false then ro 0 0 El.zero 1 else X) = some (readO k s).av := fun X hX h2 => by
    rw [oor_f]
    by_cases hk : k = 16
    · rw [ne_f hk, bf, hX hk]
    · rw [ne_t hk, bt, none1 (fun h => hk h.1)]
  rcases Nat.lt_or_ge s.size 2 with hlt | hge
  · rcases (show s.size = 0 ∨ s.size = 1 by omega) with hs | hs
    · exact ⟨_, rfl, strG 0 hs, (oread0_raw rightO k s (gOf s)).trans (by rw [oor_t, bt, none1 (fun h => by omega)])⟩
    · exact ⟨_, rfl, strG 1 hs, (oread1_raw rightO k s (gOf s)).trans (by rw [oor_t, bt, none1 (fun h => by omega)])⟩
  · have rd : ∀ (hk : k = 16), some (readO k s).av = if gOf s 1 = 1 ∨ gOf s 1 = 2 ∨ gOf s 1 = 4 then (if s.size = 2 then ro (gOf s 0) (gOf s 1) El.zero 0 else ro (gOf s 0) 0 El.zero 1) else if gOf s 1 = 3 then
        (if s.size = 58 then (if rightO (rdEl (gOf s)) then ro (gOf s 0) 3 (rdEl (gOf s)) 0 else ro (gOf s 0) 0 El.zero 3) else ro (gOf s 0) 0 El.zero 1) else ro (gOf s 0) 0 El.zero 2 := fun hk => by
      unfold readO
      rw [if_pos ⟨hk, hge⟩]
      repeat' split
      all_goals first | rfl | contradiction
    by_cases hs : s.size = 2
    · refine ⟨_, rfl, strG 2 hs, (oread2_raw rightO k s (gOf s)).trans (kind _ (fun hk => ?_) hge)⟩
      rw [rd hk, if_pos hs, if_neg (show ¬ s.size = 58 by omega), gw, gw]
      exact tree_eq (fun e => by rw [eq_f (show ¬ gOf s 1 = 3 by omega), bf]) (fun e => by rw [eq_f (show ¬ gOf s 1 = 3 by omega), bf]) (fun _ => rfl) (fun _ _ _ _ => rfl)
    · by_cases hs' : s.size = 58
      · refine ⟨_, rfl, strG 58 hs', (oread58_raw rightO k s (gOf s)).trans (kind _ (fun hk => ?_) hge)⟩
        rw [rd hk, if_neg hs, if_pos hs', gw, gw]
        refine tree_eq (fun _ => rfl) (fun _ => rfl) (fun e => ?_) (fun _ _ _ _ => rfl)
        rw [eq_t e, bt, e]
        cases rightO (rdEl (gOf s)) <;> rfl
      · refine ⟨[.agg [I k, .strF s 2 (gOf s) [2, 58]]], rfl, fun m Vs hv => RL_frame (fun V hV => R_strF m s 2 [2, 58] hge (by simp; omega) hV) hv, (oreadF_raw rightO k s (gOf s)).trans (kind _ (fun hk => ?_) hge)⟩
        rw [rd hk, if_neg hs, if_neg hs', gw, gw]
        exact tree_eq (fun _ => rfl) (fun _ => rfl) (fun _ => rfl) (fun _ _ _ _ => rfl)

/-! ### Writing -/
def writeO (o : Ord) : Fr :=
  if 0 ≤ o.q ∧ o.q ≤ 255 then
    if o.c = 1 ∨ o.c = 2 ∨ o.c = 4 then ⟨16, strOf [wr .u8 o.q, wr .u8 o.c], true⟩
    else if o.c = 3 ∧ rightO o.el = true then ⟨16, strOf (oBytes o), true⟩ else ⟨0, ⟨#[]⟩, false⟩
  else ⟨0, ⟨#[]⟩, false⟩
def owriteF (wf : Ord → Fr) : List AV → Option AV
  | [.agg [.int .i64 q, .int .i64 c, .int .i64 a, .int .i64 e, .int .i64 i, .int .i64 n, .int .i64 p, .int .i64 m, .int .i64 t]] => some (wf ⟨q, c, a, e, i, n, p, m, t⟩).av
  | _ => none
theorem owriteF_some {wf : Ord → Fr} {args : List AV} {v : AV} (h : owriteF wf args = some v) : ∃ o : Ord, args = [.agg o.cells] ∧ v = (wf o).av := by
  unfold owriteF at h
  split at h <;> cases h
  rename_i q c a e i n p m t
  exact ⟨⟨q, c, a, e, i, n, p, m, t⟩, rfl, rfl⟩
theorem wTail_24 {o : Ord} (h : ¬ o.c = 3) (rt : El → Bool) : wTail rt o = some (.tup [.agg [I 16, .str (strOf [wr .u8 o.q, wr .u8 o.c])], .bool true]) := by
  unfold wTail; rw [eq_f h, bf]
theorem wTail_3 {o : Ord} (h : o.c = 3) (rt : El → Bool) : wTail rt o = if rt o.el = true then some (.tup [.agg [I 16, .str (strOf (oBytes o))], .bool true]) else some noFrame := by
  unfold wTail; rw [eq_t h, bt]
  cases rt o.el <;> rfl
theorem owriteRaw_eq (o : Ord) : (bif decide (o.q < 0) then some noFrame else bif decide (o.q > 255) then some noFrame else
    bif o.c == 1 then wTail rightO o else bif is24 o.c then wTail rightO o else bif o.c == 3 then wTail rightO o else some noFrame) = some (writeO o).av := by
  unfold writeO
  by_cases h0 : o.q < 0
  · rw [decide_eq_true h0, bt, if_neg (by omega)]; rfl
  rw [decide_eq_false h0, bf]
  by_cases h1 : o.q > 255
  · rw [decide_eq_true h1, bt, if_neg (by omega)]; rfl
  rw [decide_eq_false h1, bf, if_pos (by omega)]
  by_cases c1 : o.c = 1
  · rw [eq_t c1, bt, if_pos (.inl c1), wTail_24 (by omega)]; rfl
  rw [eq_f c1, bf]
  by_cases c24 : o.c = 2 ∨ o.c = 4
  · rw [is24_t c24, bt, if_pos (.inr c24), wTail_24 (by omega)]; rfl
  have c2 : ¬ o.c = 2 := fun e => c24 (.inl e)
  have c4 : ¬ o.c = 4 := fun e => c24 (.inr e)
  rw [is24_f c2 c4, bf, if_neg (by rintro (h | h | h) <;> contradiction)]
  by_cases c3 : o.c = 3
  · rw [eq_t c3, bt, wTail_3 c3]
    by_cases hr : rightO o.el = true
    · rw [if_pos hr, if_pos ⟨c3, hr⟩]; rfl
    · rw [if_neg hr, if_neg (fun h => hr h.2)]; rfl
  · rw [eq_f c3, bf, if_neg (fun h => c3 h.1)]; rfl
theorem owrite_con : PureOk Try.prog 22 anyArgs (owriteF writeO) := by
  refine pure_of envOR_ok 150 _ _ _ ?_
  rintro args v - h
  obtain ⟨o, rfl, rfl⟩ := owriteF_some h
  exact ⟨rfl, rfl, (owrite_raw rightO o).trans (owriteRaw_eq o)⟩
theorem pnums : p2 56 = 72057594037927936 ∧ p2 48 = 281474976710656 ∧ p2 40 = 1099511627776 ∧ p2 32 = 4294967296 ∧ p2 24 = 16777216 ∧ p2 16 = 65536 ∧ p2 8 = 256 ∧ p2 0 = 1 := by decide
theorem rpb_eq (n : Int) : rpb n = pb n := by
  obtain ⟨p1, p2', p3, p4, p5, p6, p7, p8⟩ := pnums
  unfold rpb pb
  simp only [u8_eq, wr_u64, p1, p2', p3, p4, p5, p6, p7, p8]
  have e1 : n % 18446744073709551616 / 72057594037927936 % 256 = n / 72057594037927936 % 256 := by omega
  have e2 : n % 18446744073709551616 / 281474976710656 % 256 = n / 281474976710656 % 256 := by omega
  have e3 : n % 18446744073709551616 / 1099511627776 % 256 = n / 1099511627776 % 256 := by omega
  have e4 : n % 18446744073709551616 / 4294967296 % 256 = n / 4294967296 % 256 := by omega
  have e5 : n % 18446744073709551616 / 16777216 % 256 = n / 16777216 % 256 := by omega
  have e6 : n % 18446744073709551616 / 65536 % 256 = n / 65536 % 256 := by omega
  have e7 : n % 18446744073709551616 / 256 % 256 = n / 256 % 256 := by omega
  have e8 : n % 18446744073709551616 / 1 % 256 = n / 1 % 256 := by omega
  rw [e1, e2, e3, e4, e5, e6, e7, e8]
theorem rwTail_eq (o : Ord) (rt : El → Bool) : rwTail rt o = wTail rt o := by
  unfold rwTail wTail roBytes oBytes
  simp only [rpb_eq]
theorem rowrite_con : PureOk Try.prog 23 anyArgs (owriteF writeO) := by
  refine pure_of (EnvOk.p ok_nil (enter_of Try.func45 (by kernel_rfl) rfl) roright_con) 150 _ _ _ ?_
  rintro args v - h
  obtain ⟨o, rfl, rfl⟩ := owriteF_some h
  refine ⟨rfl, rfl, (rowrite_raw rightO o).trans (Eq.trans ?_ (owriteRaw_eq o))⟩
  rw [rwTail_eq]
  by_cases h0 : o.q < 0
  · rw [decide_eq_true h0, bt]; rfl
  by_cases h1 : o.q > 255
  · rw [decide_eq_true h1, decide_eq_false h0]; rfl
  by_cases h2 : o.c < 1
  · rw [decide_eq_false h0, decide_eq_false h1, decide_eq_true h2, eq_f (show ¬ o.c = 1 by omega), is24_f (by omega) (by omega), eq_f (show ¬ o.c = 3 by omega)]; rfl
  by_cases h3 : o.c > 4
  · rw [decide_eq_false h0, decide_eq_false h1, decide_eq_false h2, decide_eq_true h3, eq_f (show ¬ o.c = 1 by omega), is24_f (by omega) (by omega), eq_f (show ¬ o.c = 3 by omega)]; rfl
  rw [decide_eq_false h0, decide_eq_false h1, decide_eq_false h2, decide_eq_false h3]
  simp only [oor, bf]
  rcases (show o.c = 1 ∨ o.c = 2 ∨ o.c = 3 ∨ o.c = 4 by omega) with h | h | h | h
  · rw [eq_t h, bt]
  · rw [eq_f (show ¬ o.c = 1 by omega), bf, is24_t (.inl h), bt]
  · rw [eq_f (show ¬ o.c = 1 by omega), bf, is24_f (by omega) (by omega), bf, eq_t h, bt]
  · rw [eq_f (show ¬ o.c = 1 by omega), bf, is24_t (.inr h), bt]
#print axioms rowrite_con
end Go.Proofs.Ytkdlliedpjnobaa.Orb
