/- Frames of what is told, read: the program's and the reference's functions are the same one; the three laws of layer 17. Conditions: none. -/
import Derived.Test.YtkdlliedpjnobaaTe4
namespace Go.Proofs.Ytkdlliedpjnobaa.Te
open Go Go.Proofs.Ytkdlliedpjnobaa.Ae Go.Proofs.Ytkdlliedpjnobaa.Fx Go.Proofs.Ytkdlliedpjnobaa.Lx Go.Proofs.Ytkdlliedpjnobaa.Tx Go.Proofs.Ytkdlliedpjnobaa.Row Go.Proofs.Ytkdlliedpjnobaa.Rx

/-! ### Bytes -/
theorem or_small {a b : Nat} (hb : b < 256) : 256 * a ||| b = 256 * a + b := by
  have h : b < 2 ^ 8 := by omega
  have := or_add (a := a) (i := 8) h
  have e : (2 : Nat) ^ 8 = 256 := by decide
  rw [e] at this; exact this
/-- A byte beside others. -/
theorem bor64_lo {x b : Int} (hx : 0 ≤ x) (hx1 : x < 36028797018963968) (hb : 0 ≤ b ∧ b < 256) : bor .i64 (x * 256) b = x * 256 + b := by
  have h : bor .i64 (x * 256) b = wr .i64 ((BitVec.ofInt 64 (x * 256) ||| BitVec.ofInt 64 b).toNat : Int) := by unfold bor; rw [wr_eq]; rfl
  rw [h, BitVec.toNat_or, ofInt_toNat (by omega) (by omega), ofInt_toNat (by omega) (by omega)]
  have e : (x * 256).toNat = 256 * x.toNat := by omega
  rw [e, or_small (by omega), w64_in (by omega) (by omega)]
  omega
theorem ofInt16_toNat {x : Int} (h0 : 0 ≤ x) (h1 : x < 65536) : (BitVec.ofInt 16 x).toNat = x.toNat := by
  rw [BitVec.toNat_ofInt]
  have : x % ((2 ^ 16 : Nat) : Int) = x := Int.emod_eq_of_lt h0 (by simpa using h1)
  rw [this]
theorem bor16_lo {x b : Int} (hx : 0 ≤ x ∧ x < 256) (hb : 0 ≤ b ∧ b < 256) : bor .u16 (x * 256) b = x * 256 + b := by
  have h : bor .u16 (x * 256) b = wr .u16 ((BitVec.ofInt 16 (x * 256) ||| BitVec.ofInt 16 b).toNat : Int) := by unfold bor; rw [wr_eq]; rfl
  rw [h, BitVec.toNat_or, ofInt16_toNat (by omega) (by omega), ofInt16_toNat (by omega) (by omega)]
  have e : (x * 256).toNat = 256 * x.toNat := by omega
  rw [e, or_small (by omega)]
  have : wr .u16 (((256 * x.toNat + b.toNat : Nat)) : Int) = ((256 * x.toNat + b.toNat : Nat) : Int) % 65536 := rfl
  rw [this]
  omega
def B (g : Nat → Int) : Prop := ∀ i, 0 ≤ g i ∧ g i < 256
/-- What stands in bytes. -/
def sg (a b : Int) : Int := if a * 256 + b ≥ 32768 then a * 256 + b - 65536 else a * 256 + b
def dTell (g : Nat → Int) : Tell :=
  ⟨((((g 0 * 256 + g 1) * 256 + g 2) * 256 + g 3) * 256 + g 4) * 256 + g 5, g 6, g 7, g 8, g 9, g 10 * 256 + g 11,
    sg (g 12) (g 13), sg (g 14) (g 15), sg (g 16) (g 17), sg (g 18) (g 19), sg (g 20) (g 21), sg (g 22) (g 23), sg (g 24) (g 25)⟩
theorem cnt_eq {a b : Int} (ha : 0 ≤ a ∧ a < 256) (hb : 0 ≤ b ∧ b < 256) : cnt a b = sg a b := by
  unfold cnt sg
  have e1 : wr .u16 a = a := by show a % 65536 = a; omega
  have e2 : wr .u16 b = b := by show b % 65536 = b; omega
  have e3 : wr .u16 (a * 256) = a * 256 := by show a * 256 % 65536 = a * 256; omega
  rw [p2_8, e1, e2, e3, bor16_lo ha hb]
  have e4 : wr .i16 (a * 256 + b) = (a * 256 + b + 32768) % 65536 - 32768 := rfl
  rw [e4, w64_in (by omega) (by omega)]
  split <;> omega
theorem tk_eq {t b : Int} (ht : 0 ≤ t) (ht1 : t < 36028797018963968) (hb : 0 ≤ b ∧ b < 256) : tk t b = t * 256 + b := by
  unfold tk
  rw [p2_8, w64_in (n := t * 256) (by omega) (by omega), w64_in (n := b) (by omega) (by omega), bor64_lo ht ht1 hb]
theorem rtk_eq {t b : Int} (ht : 0 ≤ t) (ht1 : t < 36028797018963968) (hb : 0 ≤ b ∧ b < 256) : rtk t b = t * 256 + b := by
  unfold rtk
  rw [w64_in (n := t * 256) (by omega) (by omega), w64_in (n := b) (by omega) (by omega), w64_in (by omega) (by omega)]
theorem rdTell_eq {g : Nat → Int} (hg : B g) : rdTell g = dTell g := by
  have h0 := hg 0; have h1 := hg 1; have h2 := hg 2; have h3 := hg 3; have h4 := hg 4; have h5 := hg 5; have h6 := hg 6; have h7 := hg 7; have h8 := hg 8; have h9 := hg 9; have h10 := hg 10; have h11 := hg 11
  unfold rdTell dTell
  rw [cnt_eq (hg 12) (hg 13), cnt_eq (hg 14) (hg 15), cnt_eq (hg 16) (hg 17), cnt_eq (hg 18) (hg 19), cnt_eq (hg 20) (hg 21), cnt_eq (hg 22) (hg 23), cnt_eq (hg 24) (hg 25)]
  rw [tk_eq (t := 0) (by omega) (by omega) h0, tk_eq (by omega) (by omega) h1, tk_eq (by omega) (by omega) h2, tk_eq (by omega) (by omega) h3, tk_eq (by omega) (by omega) h4, tk_eq (by omega) (by omega) h5]
  rw [p2_8, w64_in (n := g 10) (by omega) (by omega), w64_in (n := g 10 * 256) (by omega) (by omega), w64_in (n := g 11) (by omega) (by omega), bor64_lo (by omega) (by omega) h11]
  rw [w64_in (n := g 6) (by omega) (by omega), w64_in (n := g 7) (by omega) (by omega), w64_in (n := g 8) (by omega) (by omega), w64_in (n := g 9) (by omega) (by omega)]
  simp only [Int.zero_mul, Int.zero_add]
theorem rrdTell_eq {g : Nat → Int} (hg : B g) : rrdTell sg g = dTell g := by
  have h0 := hg 0; have h1 := hg 1; have h2 := hg 2; have h3 := hg 3; have h4 := hg 4; have h5 := hg 5; have h6 := hg 6; have h7 := hg 7; have h8 := hg 8; have h9 := hg 9; have h10 := hg 10; have h11 := hg 11
  unfold rrdTell dTell
  rw [rtk_eq (t := 0) (by omega) (by omega) h0, rtk_eq (by omega) (by omega) h1, rtk_eq (by omega) (by omega) h2, rtk_eq (by omega) (by omega) h3, rtk_eq (by omega) (by omega) h4, rtk_eq (by omega) (by omega) h5]
  rw [w64_in (n := g 10) (by omega) (by omega), w64_in (n := g 10 * 256) (by omega) (by omega), w64_in (n := g 11) (by omega) (by omega), w64_in (n := g 10 * 256 + g 11) (by omega) (by omega)]
  rw [w64_in (n := g 6) (by omega) (by omega), w64_in (n := g 7) (by omega) (by omega), w64_in (n := g 8) (by omega) (by omega), w64_in (n := g 9) (by omega) (by omega)]
  simp only [Int.zero_mul, Int.zero_add]

/-! ### Reading -/
def gOf (s : ByteArray) (i : Nat) : Int := ((s.data.getD i 0).toNat : Int)
theorem gOf_B (s : ByteArray) : B (gOf s) := fun i => by
  unfold gOf
  have := (s.data.getD i 0).toNat_lt
  omega
theorem R_strG (m : List Nat) (s : ByteArray) {V : Value} (h : R m (.str s) V) : R m (.strG s s.size (gOf s)) V := by
  simp only [R] at h ⊢
  exact ⟨h, trivial, fun i _ => rfl⟩
theorem R_strF (m : List Nat) (s : ByteArray) (lo : Nat) (ex : List Int) (hlo : lo ≤ s.size) (hex : ∀ c ∈ ex, (s.size : Int) ≠ c) {V : Value} (h : R m (.str s) V) : R m (.strF s lo (gOf s) ex) V := by
  simp only [R] at h ⊢
  exact ⟨h, ⟨hlo, fun i _ => rfl⟩, hex⟩
theorem RL_frame {m : List Nat} {k : Int} {s : ByteArray} {a : AV} (h : ∀ V, R m (.str s) V → R m a V) {Vs : List Value} (hv : RL m [.agg [I k, .str s]] Vs) : RL m [.agg [I k, a]] Vs := by
  obtain ⟨V, Vs', rfl, h1, h2⟩ := RL_cons.1 hv
  refine RL.cons ?_ h2
  simp only [R] at h1 ⊢
  obtain ⟨Ws, rfl, h3⟩ := h1
  obtain ⟨W1, Ws1, rfl, h4, h5⟩ := RL_cons.1 h3
  obtain ⟨W2, Ws2, rfl, h6, h7⟩ := RL_cons.1 h5
  refine ⟨_, rfl, RL.cons h4 (RL.cons (h _ h6) h7)⟩

def readP (k : Int) (s : ByteArray) : Rd := if k = 32 ∧ s.size = 26 ∧ rightP (dTell (gOf s)) = true then ⟨dTell (gOf s), true⟩ else ⟨Tell.zero, false⟩
theorem readF_some {rd : Int → ByteArray → Rd} {args : List AV} {v : AV} (h : readF rd args = some v) : ∃ k s, args = [.agg [I k, .str s]] ∧ v = (rd k s).av := by
  unfold readF at h
  split at h <;> cases h
  exact ⟨_, _, rfl, rfl⟩
theorem oor_t (c : Bool) : oor c true = true := by cases c <;> rfl
theorem oor_f (c : Bool) : oor c false = c := by cases c <;> rfl
theorem readRaw_eq (k : Int) (s : ByteArray) (hs : s.size = 26) : (bif oor (k != 32) false then some noTell else bif !(rightP (dTell (gOf s))) then some noTell else some (.tup [.agg (dTell (gOf s)).av, .bool true])) = some (readP k s).av := by
  rw [oor_f]
  unfold readP
  by_cases hk : k = 32
  · subst hk
    rw [show ((32 : Int) != 32) = false from by decide, bf]
    cases hr : rightP (dTell (gOf s))
    · rw [if_neg (by simp)]; rfl
    · rw [if_pos ⟨rfl, hs, rfl⟩]; rfl
  · have : (k != 32) = true := by simpa using hk
    rw [this, bt, if_neg (fun h => hk h.1)]; rfl
theorem read_con : PureOk Try.prog 19 anyArgs (readF readP) := by
  have hE : EnvOk Try.prog (envR rightP) := EnvOk.t (EnvOk.p ok_nil (enter_of Try.func37 (by kernel_rfl) rfl) right_con) (enter_of Try.func35 (by kernel_rfl) rfl)
  refine pure_of' hE 80 _ _ _ ?_
  rintro args v - h
  obtain ⟨k, s, rfl, rfl⟩ := readF_some h
  refine ⟨rfl, ?_⟩
  by_cases hs : s.size = 26
  · refine ⟨[.agg [I k, .strG s 26 (gOf s)]], rfl, fun m Vs hv => RL_frame (fun V hV => by rw [← hs]; exact R_strG m s hV) hv, (read_raw rightP k s (gOf s)).trans ?_⟩
    rw [rdTell_eq (gOf_B s)]
    exact readRaw_eq k s hs
  · refine ⟨[.agg [I k, .strF s 0 (gOf s) [26]]], rfl, fun m Vs hv => RL_frame (fun V hV => R_strF m s 0 [26] (by omega) (by simp; omega) hV) hv, (read_no rightP k s (gOf s)).trans ?_⟩
    rw [oor_t, bt]
    unfold readP
    rw [if_neg (fun h => hs h.2.1)]; rfl
def cnR (a b : Int) : Int :=
  let c := wr .i64 (wr .i64 (wr .i64 a * 256) + wr .i64 b)
  bif decide (c ≥ 32768) then wr .i64 (c - 65536) else c
theorem count_con : PureOk Try.prog 41 cntC (cntF cnR) := by
  refine pure_of ok_nil 40 _ _ _ ?_
  rintro args v hC h
  unfold cntF at h
  split at h <;> cases h
  rename_i s n g i
  simp only [cntC, Bool.and_eq_true, decide_eq_true_eq] at hC
  refine ⟨rfl, rfl, (rcount_raw s n g i).trans ?_⟩
  rw [w64_in (n := i + 1) (by omega) (by omega), decide_eq_true (show 0 ≤ i by omega), decide_eq_true (show i < (n : Int) by omega), decide_eq_true (show 0 ≤ i + 1 by omega), decide_eq_true (show i + 1 < (n : Int) by omega)]
  simp only [Bool.and_self, cond_true]
  unfold cnR
  dsimp only
  generalize wr .i64 (wr .i64 (wr .i64 (g i.toNat) * 256) + wr .i64 (g (i + 1).toNat)) = c
  cases decide (c ≥ 32768)
  · rw [bf, bf]
  · rw [bt, bt]
theorem cnR_eq {a b : Int} (ha : 0 ≤ a ∧ a < 256) (hb : 0 ≤ b ∧ b < 256) : cnR a b = sg a b := by
  unfold cnR sg
  rw [w64_in (n := a) (by omega) (by omega), w64_in (n := a * 256) (by omega) (by omega), w64_in (n := b) (by omega) (by omega), w64_in (n := a * 256 + b) (by omega) (by omega)]
  dsimp only
  by_cases h : a * 256 + b ≥ 32768
  · rw [decide_eq_true h, bt, if_pos h, w64_in (by omega) (by omega)]
  · rw [decide_eq_false h, bf, if_neg h]
theorem rrdTell_eq' {g : Nat → Int} (hg : B g) : rrdTell cnR g = dTell g := by
  rw [← rrdTell_eq hg]
  unfold rrdTell
  rw [cnR_eq (hg 12) (hg 13), cnR_eq (hg 14) (hg 15), cnR_eq (hg 16) (hg 17), cnR_eq (hg 18) (hg 19), cnR_eq (hg 20) (hg 21), cnR_eq (hg 22) (hg 23), cnR_eq (hg 24) (hg 25)]
theorem rread_con : PureOk Try.prog 20 anyArgs (readF readP) := by
  have hE : EnvOk Try.prog (renvD rightP cnR) := EnvOk.p (EnvOk.p ok_nil (enter_of Try.func39 (by kernel_rfl) rfl) rright_con) (enter_of Try.func41 (by kernel_rfl) rfl) count_con
  refine pure_of' hE 80 _ _ _ ?_
  rintro args v - h
  obtain ⟨k, s, rfl, rfl⟩ := readF_some h
  refine ⟨rfl, ?_⟩
  by_cases hs : s.size = 26
  · refine ⟨[.agg [I k, .strG s 26 (gOf s)]], rfl, fun m Vs hv => RL_frame (fun V hV => by rw [← hs]; exact R_strG m s hV) hv, (rread_raw rightP cnR k s (gOf s)).trans ?_⟩
    rw [rrdTell_eq' (gOf_B s)]
    exact readRaw_eq k s hs
  · refine ⟨[.agg [I k, .strF s 0 (gOf s) [26]]], rfl, fun m Vs hv => RL_frame (fun V hV => R_strF m s 0 [26] (by omega) (by simp; omega) hV) hv, (rread_no rightP cnR k s (gOf s)).trans ?_⟩
    rw [oor_t, bt]
    unfold readP
    rw [if_neg (fun h => hs h.2.1)]; rfl

/-! ### What is written is read as that -/
theorem gOf_strOf (l : List Int) {i : Nat} {n : Int} (h : l[i]? = some n) (h0 : 0 ≤ n ∧ n < 256) : gOf (strOf l) i = n := by
  unfold gOf strOf
  simp [Array.getD_eq_getD_getElem?, h]
  omega
theorem strOf_size (l : List Int) : (strOf l).size = l.length := by simp [strOf, ByteArray.size]
theorem two_sg {n : Int} (h : -32768 ≤ n ∧ n ≤ 32767) : sg (n / 256 % 256) (n % 256) = n := by
  unfold sg; split <;> omega
theorem dTell_wBytes {x : Tell} (h : rightP x = true) : dTell (gOf (strOf (wBytes x))) = x := by
  obtain ⟨t, m, f, a, e, r, q0, q1, q2, q3, d0, d1, d2⟩ := rightX h
  have hp : p2 40 = 1099511627776 ∧ p2 32 = 4294967296 ∧ p2 24 = 16777216 ∧ p2 16 = 65536 ∧ p2 8 = 256 ∧ p2 0 = 1 := by decide
  obtain ⟨p1, p2', p3, p4, p5, p6⟩ := hp
  have G : ∀ (i : Nat) (n : Int), (wBytes x)[i]? = some (wr .u8 n) → gOf (strOf (wBytes x)) i = n % 256 := fun i n h => gOf_strOf _ (n := n % 256) h (by omega)
  unfold dTell
  rw [G 0 (x.t / p2 40) rfl, G 1 (x.t / p2 32) rfl, G 2 (x.t / p2 24) rfl, G 3 (x.t / p2 16) rfl, G 4 (x.t / p2 8) rfl, G 5 (x.t / p2 0) rfl, G 6 x.m rfl, G 7 x.f rfl, G 8 x.a rfl, G 9 x.e rfl, G 10 (x.r / p2 8) rfl, G 11 x.r rfl,
    G 12 (x.q0 / p2 8) rfl, G 13 x.q0 rfl, G 14 (x.q1 / p2 8) rfl, G 15 x.q1 rfl, G 16 (x.q2 / p2 8) rfl, G 17 x.q2 rfl, G 18 (x.q3 / p2 8) rfl, G 19 x.q3 rfl, G 20 (x.d0 / p2 8) rfl, G 21 x.d0 rfl, G 22 (x.d1 / p2 8) rfl, G 23 x.d1 rfl, G 24 (x.d2 / p2 8) rfl, G 25 x.d2 rfl]
  rw [p1, p2', p3, p4, p5, p6, two_sg q0, two_sg q1, two_sg q2, two_sg q3, two_sg d0, two_sg d1, two_sg d2]
  have e1 : ((((x.t / 1099511627776 % 256 * 256 + x.t / 4294967296 % 256) * 256 + x.t / 16777216 % 256) * 256 + x.t / 65536 % 256) * 256 + x.t / 256 % 256) * 256 + x.t / 1 % 256 = x.t := by omega
  have e2 : x.m % 256 = x.m := by omega
  have e3 : x.f % 256 = x.f := by omega
  have e4 : x.a % 256 = x.a := by omega
  have e5 : x.e % 256 = x.e := by omega
  have e6 : x.r / 256 % 256 * 256 + x.r % 256 = x.r := by omega
  rw [e1, e2, e3, e4, e5, e6]
theorem readP_writeP (x : Tell) : readP (writeP x).k (writeP x).s = ⟨if rightP x then x else Tell.zero, rightP x⟩ := by
  unfold writeP
  cases h : rightP x
  · simp only [Bool.false_eq_true, if_false]
    unfold readP
    rw [if_neg (fun h => by have := h.1; omega)]
  · simp only [if_true]
    unfold readP
    rw [dTell_wBytes h, if_pos ⟨rfl, by rw [strOf_size]; rfl, h⟩]
theorem tlEq_refl (x : Tell) : tlEq x x = true := by unfold tlEq; simp
theorem bytes_refl (s : ByteArray) : (s == s) = true := by
  rw [beq_toListBytes]; simp
theorem fEq_refl (k : Int) (s : ByteArray) : fEq k k s s = true := by unfold fEq; rw [bytes_refl]; simp
theorem twrites_plain (t : Tell) :
    (let x := writeP t
    let y := writeP t
    bif oor (!(fEq x.k y.k x.s y.s)) (x.ok != y.ok) then some false else
    let r := readP x.k x.s
    some (an (r.ok == x.ok) (oor (!x.ok) (tlEq r.t t)))) = some true := by
  dsimp only
  rw [fEq_refl, readP_writeP]
  have e : (writeP t).ok = rightP t := by unfold writeP; cases rightP t <;> rfl
  rw [e]
  cases h : rightP t
  · rfl
  · simp only [if_true, tlEq_refl]; rfl

/-! ### What is read is written as just that frame -/
theorem list26 {α : Type} {l : List α} (h : l.length = 26) : ∃ a b c d e f g h i j k m n o p q r s t u v w x y z aa, l = [a, b, c, d, e, f, g, h, i, j, k, m, n, o, p, q, r, s, t, u, v, w, x, y, z, aa] := by
  match l, h with
  | [a, b, c, d, e, f, g, h, i, j, k, m, n, o, p, q, r, s, t, u, v, w, x, y, z, aa], _ => exact ⟨a, b, c, d, e, f, g, h, i, j, k, m, n, o, p, q, r, s, t, u, v, w, x, y, z, aa, rfl⟩
theorem byte_back (s : ByteArray) (i : Nat) : UInt8.ofNat (gOf s i).toNat = s.data.getD i 0 := by
  unfold gOf; simp
theorem strOf_gOf {s : ByteArray} {l : List Int} (hl : l.length = s.size) (h : ∀ i, i < s.size → l[i]? = some (gOf s i)) : strOf l = s := by
  have : (strOf l).data = s.data := by
    apply Array.ext
    · rw [show (strOf l).data.size = (strOf l).size from rfl, strOf_size, hl]; rfl
    · intro i h1 h2
      have hi : i < s.size := h2
      have e := h i hi
      obtain ⟨hl2, e2⟩ := List.getElem?_eq_some_iff.1 e
      have : (strOf l).data[i] = UInt8.ofNat (l[i]).toNat := by simp [strOf]
      rw [this, e2, byte_back, Array.getD_eq_getD_getElem?, Array.getElem?_eq_getElem h2]
      rfl
  cases s; cases hq : strOf l; rw [hq] at this; simpa using this
theorem two_hi {a b : Int} (ha : 0 ≤ a ∧ a < 256) (hb : 0 ≤ b ∧ b < 256) : sg a b / 256 % 256 = a ∧ sg a b % 256 = b := by
  unfold sg; split <;> omega
theorem wBytes_back {s : ByteArray} (hs : s.size = 26) : strOf (wBytes (dTell (gOf s))) = s := by
  have hg := gOf_B s
  refine strOf_gOf (by rw [hs]; rfl) (fun i hi => ?_)
  rw [hs] at hi
  have hp : p2 40 = 1099511627776 ∧ p2 32 = 4294967296 ∧ p2 24 = 16777216 ∧ p2 16 = 65536 ∧ p2 8 = 256 ∧ p2 0 = 1 := by decide
  obtain ⟨p1, p2', p3, p4, p5, p6⟩ := hp
  have h0 := hg 0; have h1 := hg 1; have h2 := hg 2; have h3 := hg 3; have h4 := hg 4; have h5 := hg 5; have h6 := hg 6; have h7 := hg 7; have h8 := hg 8; have h9 := hg 9; have h10 := hg 10; have h11 := hg 11
  have t1 := two_hi (hg 12) (hg 13); have t2 := two_hi (hg 14) (hg 15); have t3 := two_hi (hg 16) (hg 17); have t4 := two_hi (hg 18) (hg 19); have t5 := two_hi (hg 20) (hg 21); have t6 := two_hi (hg 22) (hg 23); have t7 := two_hi (hg 24) (hg 25)
  generalize gOf s = g at *
  have key : wBytes (dTell g) = [g 0, g 1, g 2, g 3, g 4, g 5, g 6, g 7, g 8, g 9, g 10, g 11, g 12, g 13, g 14, g 15, g 16, g 17, g 18, g 19, g 20, g 21, g 22, g 23, g 24, g 25] := by
    unfold wBytes dTell two
    simp only [u8_eq, p1, p2', p3, p4, p5, p6, t1.1, t1.2, t2.1, t2.2, t3.1, t3.2, t4.1, t4.2, t5.1, t5.2, t6.1, t6.2, t7.1, t7.2, List.cons_append, List.nil_append]
    generalize g 0 = b0 at *
    generalize g 1 = b1 at *
    generalize g 2 = b2 at *
    generalize g 3 = b3 at *
    generalize g 4 = b4 at *
    generalize g 5 = b5 at *
    have e0 : (((((b0 * 256 + b1) * 256 + b2) * 256 + b3) * 256 + b4) * 256 + b5) / 1099511627776 % 256 = b0 := by omega
    have e1 : (((((b0 * 256 + b1) * 256 + b2) * 256 + b3) * 256 + b4) * 256 + b5) / 4294967296 % 256 = b1 := by omega
    have e2 : (((((b0 * 256 + b1) * 256 + b2) * 256 + b3) * 256 + b4) * 256 + b5) / 16777216 % 256 = b2 := by omega
    have e3 : (((((b0 * 256 + b1) * 256 + b2) * 256 + b3) * 256 + b4) * 256 + b5) / 65536 % 256 = b3 := by omega
    have e4 : (((((b0 * 256 + b1) * 256 + b2) * 256 + b3) * 256 + b4) * 256 + b5) / 256 % 256 = b4 := by omega
    have e5 : (((((b0 * 256 + b1) * 256 + b2) * 256 + b3) * 256 + b4) * 256 + b5) / 1 % 256 = b5 := by omega
    have e6 : g 6 % 256 = g 6 := by omega
    have e7 : g 7 % 256 = g 7 := by omega
    have e8 : g 8 % 256 = g 8 := by omega
    have e9 : g 9 % 256 = g 9 := by omega
    have e10 : (g 10 * 256 + g 11) / 256 % 256 = g 10 := by omega
    have e11 : (g 10 * 256 + g 11) % 256 = g 11 := by omega
    rw [e0, e1, e2, e3, e4, e5, e6, e7, e8, e9, e10, e11]
  rw [key]
  match i, hi with
  | 0, _ | 1, _ | 2, _ | 3, _ | 4, _ | 5, _ | 6, _ | 7, _ | 8, _ | 9, _ | 10, _ | 11, _ | 12, _ | 13, _ | 14, _ | 15, _ | 16, _ | 17, _ | 18, _ | 19, _ | 20, _ | 21, _ | 22, _ | 23, _ | 24, _ | 25, _ => rfl
  | n + 26, h => exact absurd h (by omega)
theorem treads_plain (k : Int) (s : ByteArray) :
    (let x := readP k s
    let y := readP k s
    bif oor (!(tlEq x.t y.t)) (x.ok != y.ok) then some false else
    bif !x.ok then some true else
    let z := writeP x.t
    some (an z.ok (fEq k z.k s z.s))) = some true := by
  dsimp only
  rw [tlEq_refl]
  unfold readP
  by_cases h : k = 32 ∧ s.size = 26 ∧ rightP (dTell (gOf s)) = true
  · rw [if_pos h]
    obtain ⟨rfl, h2, h3⟩ := h
    unfold writeP
    simp only [h3, if_true, wBytes_back h2, fEq_refl]
    rfl
  · rw [if_neg h]; rfl
#print axioms treads_plain
end Go.Proofs.Ytkdlliedpjnobaa.Te
