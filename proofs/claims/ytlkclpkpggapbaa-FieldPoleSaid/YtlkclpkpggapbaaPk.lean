/- Shorthands of the texts above. Conditions: none. -/
import Derived.Test.YtlkclpkpggapbaaTx2
namespace Go.Proofs.Ytlkclpkpggapbaa.Te
open Go Go.Proofs.Ytlkclpkpggapbaa.Ae Go.Proofs.Ytlkclpkpggapbaa.Fx Go.Proofs.Ytlkclpkpggapbaa.Lx Go.Proofs.Ytlkclpkpggapbaa.Tx Go.Proofs.Ytlkclpkpggapbaa.Row Go.Proofs.Ytlkclpkpggapbaa.Rx
abbrev I (n : Int) : AV := .int .i64 n
def pK (v : AV) (_ : List AB) : Option AV := bif v.noPtr then some v else none
def an (a b : Bool) : Bool := bif a then b else false
def oor (a b : Bool) : Bool := bif a then true else b
def yesF : List AV → Option AV
  | [] => some (.bool true)
  | _ => none
/-- A frame, or none. -/
structure Fr where
  (k : Int)
  s : ByteArray
  ok : Bool
def Fr.av (x : Fr) : AV := .tup [.agg [I x.k, .str x.s], .bool x.ok]
def fEq (k k' : Int) (s s' : ByteArray) : Bool := (k == k') && ((s == s') && true)
theorem an_eq (a b : Bool) : an a b = (a && b) := by cases a <;> rfl
theorem dand (p q : Prop) [Decidable p] [Decidable q] : (decide p && decide q) = decide (p ∧ q) := by
  by_cases hp : p <;> by_cases hq : q <;> simp [hp, hq]
theorem p2_8 : p2 8 = 256 := by decide
theorem u8_eq (n : Int) : wr .u8 n = n % 256 := rfl
theorem or_small {a b : Nat} (hb : b < 256) : 256 * a ||| b = 256 * a + b := by
  have h : b < 2 ^ 8 := by omega
  have := or_add (a := a) (i := 8) h
  have e : (2 : Nat) ^ 8 = 256 := by decide
  rw [e] at this; exact this
/-- A byte beside others. -/
theorem bor64_lo {x b : Int} (hx : 0 ≤ x) (hx1 : x < 36028797018963968) (hb : 0 ≤ b ∧ b < 256) : bor .i64 (x * 256) b = x * 256 + b := by
  have h : bor .i64 (x * 256) b = wr .i64 ((BitVec.ofInt 64 (x * 256) ||| BitVec.ofInt 64 b).toNat : Int) := by unfold bor; rw [wr_eq]; rfl
  rw [h, BitVec.toNat_or, ofInt_toNat (by omega) (by omega), ofInt_toNat (by omega) (by omega)]
  have e : (x * 256).toNat = 256 * x.toNat := by omega
  rw [e, or_small (by omega), w64_in (by omega) (by omega)]
  omega
theorem ofInt16_toNat {x : Int} (h0 : 0 ≤ x) (h1 : x < 65536) : (BitVec.ofInt 16 x).toNat = x.toNat := by
  rw [BitVec.toNat_ofInt]
  have : x % ((2 ^ 16 : Nat) : Int) = x := Int.emod_eq_of_lt h0 (by simpa using h1)
  rw [this]
theorem bor16_lo {x b : Int} (hx : 0 ≤ x ∧ x < 256) (hb : 0 ≤ b ∧ b < 256) : bor .u16 (x * 256) b = x * 256 + b := by
  have h : bor .u16 (x * 256) b = wr .u16 ((BitVec.ofInt 16 (x * 256) ||| BitVec.ofInt 16 b).toNat : Int) := by unfold bor; rw [wr_eq]; rfl
  rw [h, BitVec.toNat_or, ofInt16_toNat (by omega) (by omega), ofInt16_toNat (by omega) (by omega)]
  have e : (x * 256).toNat = 256 * x.toNat := by omega
  rw [e, or_small (by omega)]
  have : wr .u16 (((256 * x.toNat + b.toNat : Nat)) : Int) = ((256 * x.toNat + b.toNat : Nat) : Int) % 65536 := rfl
  rw [this]
  omega
def B (g : Nat → Int) : Prop := ∀ i, 0 ≤ g i ∧ g i < 256
/-- What stands in bytes. -/
def sg (a b : Int) : Int := if a * 256 + b ≥ 32768 then a * 256 + b - 65536 else a * 256 + b
def gOf (s : ByteArray) (i : Nat) : Int := ((s.data.getD i 0).toNat : Int)
theorem gOf_B (s : ByteArray) : B (gOf s) := fun i => by
  unfold gOf
  have := (s.data.getD i 0).toNat_lt
  omega
theorem R_strG (m : List Nat) (s : ByteArray) {V : Value} (h : R m (.str s) V) : R m (.strG s s.size (gOf s)) V := by
  simp only [R] at h ⊢
  exact ⟨h, trivial, fun i _ => rfl⟩
theorem R_strF (m : List Nat) (s : ByteArray) (lo : Nat) (ex : List Int) (hlo : lo ≤ s.size) (hex : ∀ c ∈ ex, (s.size : Int) ≠ c) {V : Value} (h : R m (.str s) V) : R m (.strF s lo (gOf s) ex) V := by
  simp only [R] at h ⊢
  exact ⟨h, ⟨hlo, fun i _ => rfl⟩, hex⟩
theorem RL_frame {m : List Nat} {k : Int} {s : ByteArray} {a : AV} (h : ∀ V, R m (.str s) V → R m a V) {Vs : List Value} (hv : RL m [.agg [I k, .str s]] Vs) : RL m [.agg [I k, a]] Vs := by
  obtain ⟨V, Vs', rfl, h1, h2⟩ := RL_cons.1 hv
  refine RL.cons ?_ h2
  simp only [R] at h1 ⊢
  obtain ⟨Ws, rfl, h3⟩ := h1
  obtain ⟨W1, Ws1, rfl, h4, h5⟩ := RL_cons.1 h3
  obtain ⟨W2, Ws2, rfl, h6, h7⟩ := RL_cons.1 h5
  refine ⟨_, rfl, RL.cons h4 (RL.cons (h _ h6) h7)⟩
theorem oor_t (c : Bool) : oor c true = true := by cases c <;> rfl
theorem oor_f (c : Bool) : oor c false = c := by cases c <;> rfl
theorem gOf_strOf (l : List Int) {i : Nat} {n : Int} (h : l[i]? = some n) (h0 : 0 ≤ n ∧ n < 256) : gOf (strOf l) i = n := by
  unfold gOf strOf
  simp [Array.getD_eq_getD_getElem?, h]
  omega
theorem strOf_size (l : List Int) : (strOf l).size = l.length := by simp [strOf, ByteArray.size]
theorem bytes_refl (s : ByteArray) : (s == s) = true := by
  rw [beq_toListBytes]; simp
theorem fEq_refl (k : Int) (s : ByteArray) : fEq k k s s = true := by unfold fEq; rw [bytes_refl]; simp
theorem byte_back (s : ByteArray) (i : Nat) : UInt8.ofNat (gOf s i).toNat = s.data.getD i 0 := by
  unfold gOf; simp
theorem strOf_gOf {s : ByteArray} {l : List Int} (hl : l.length = s.size) (h : ∀ i, i < s.size → l[i]? = some (gOf s i)) : strOf l = s := by
  have : (strOf l).data = s.data := by
    apply Array.ext
    · rw [show (strOf l).data.size = (strOf l).size from rfl, strOf_size, hl]; rfl
    · intro i h1 h2
      have hi : i < s.size := h2
      have e := h i hi
      obtain ⟨hl2, e2⟩ := List.getElem?_eq_some_iff.1 e
      have : (strOf l).data[i] = UInt8.ofNat (l[i]).toNat := by simp [strOf]
      rw [this, e2, byte_back, Array.getD_eq_getD_getElem?, Array.getElem?_eq_getElem h2]
      rfl
  cases s; cases hq : strOf l; rw [hq] at this; simpa using this
theorem oor_eq (a b : Bool) : oor a b = (a || b) := by cases a <;> rfl
theorem eq_t {a b : Int} (h : a = b) : (a == b) = true := by simpa using h
theorem eq_f {a b : Int} (h : ¬ a = b) : (a == b) = false := by simpa using h
theorem ne_t {a b : Int} (h : ¬ a = b) : (a != b) = true := by simpa using h
theorem ne_f {a b : Int} (h : a = b) : (a != b) = false := by simpa using h
def ckT (t : Int) : Bool := an (decide (0 ≤ t)) (decide (t ≤ 157766400000))
end Go.Proofs.Ytlkclpkpggapbaa.Te
