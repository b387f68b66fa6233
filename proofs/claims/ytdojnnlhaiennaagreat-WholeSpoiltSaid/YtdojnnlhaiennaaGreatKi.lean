/- A sum's step by its bits and by the table are one; it takes no two bytes, and no two sums, to one. Conditions: none. -/
import Derived.Test.YtdojnnlhaiennaaGreatKh
import Derived.Lib.Bytealg
import Derived.Test.YtdojnnlhaiennaaGreatKg
import Derived.Test.YtdojnnlhaiennaaGreatProg
import Derived.Test.YtdojnnlhaiennaaGreatKd
import Derived.ProofKit
import Derived.Below
import Derived.ChangeSame
import Derived.OpenShut
namespace Go.Proofs.YtdojnnlhaiennaaGreat.Cr
open Go Go.Proofs.YtdojnnlhaiennaaGreat.Ae

abbrev W := BitVec 16
def B1 (x : W) : W := bif x.msb then (x <<< 1) ^^^ 4129#16 else x <<< 1
def B8 (x : W) : W := B1 (B1 (B1 (B1 (B1 (B1 (B1 (B1 x)))))))
theorem B1_xor (x y : W) : B1 (x ^^^ y) = B1 x ^^^ B1 y := by
  unfold B1
  rw [BitVec.msb_xor, BitVec.shiftLeft_xor_distrib]
  generalize x <<< 1 = a
  generalize y <<< 1 = b
  cases x.msb <;> cases y.msb <;> simp only [Bool.xor_false, Bool.xor_true, Bool.not_false, Bool.not_true, Bool.xor_self, cond_true, cond_false]
  · ac_rfl
  · ac_rfl
  · have : a ^^^ 4129#16 ^^^ (b ^^^ 4129#16) = a ^^^ b ^^^ (4129#16 ^^^ 4129#16) := by ac_rfl
    rw [this, BitVec.xor_self, BitVec.xor_zero]
theorem B8_xor (x y : W) : B8 (x ^^^ y) = B8 x ^^^ B8 y := by
  unfold B8
  rw [B1_xor, B1_xor, B1_xor, B1_xor, B1_xor, B1_xor, B1_xor, B1_xor]
theorem B1_zero {x : W} (h : B1 x = 0) : x = 0 := by
  unfold B1 at h
  cases hm : x.msb with
  | true =>
    rw [hm, cond_true] at h
    have := congrArg (fun y => y.getLsbD 0) h
    simp at this
  | false =>
    rw [hm, cond_false] at h
    have h2 := congrArg BitVec.toNat h
    rw [BitVec.toNat_shiftLeft, Nat.shiftLeft_eq] at h2
    have h4 : x.toNat * 2 ^ 1 % 65536 = 0 := h2
    have h3 : x.toNat < 32768 := by
      rw [BitVec.msb_eq_decide] at hm
      simpa using hm
    apply BitVec.eq_of_toNat_eq
    show x.toNat = 0
    omega
theorem B8_zero {x : W} (h : B8 x = 0) : x = 0 := B1_zero (B1_zero (B1_zero (B1_zero (B1_zero (B1_zero (B1_zero (B1_zero h)))))))
theorem B8_inj {x y : W} (h : B8 x = B8 y) : x = y := by
  have : B8 (x ^^^ y) = 0 := by rw [B8_xor, h, BitVec.xor_self]; rfl
  have h2 := B8_zero this
  have h3 : x ^^^ y ^^^ y = 0#16 ^^^ y := by rw [h2]; rfl
  rwa [BitVec.xor_assoc, BitVec.xor_self, BitVec.xor_zero, BitVec.zero_xor] at h3

def I (x : W) : Int := (x.toNat : Int)
theorem I_lt (x : W) : 0 ≤ I x ∧ I x < 65536 := by unfold I; have := x.isLt; omega
theorem ofI (x : W) : BitVec.ofInt 16 (I x) = x := by unfold I; exact BitVec.ofInt_natCast .. |>.trans (by simp)
theorem wrapI (x : W) : IntKind.u16.wrap (x.toNat : Int) = I x := by
  rw [wr_eq]
  show ((x.toNat : Int) % 65536) = _
  have := x.isLt
  unfold I; omega
theorem bx (x y : W) : bxor .u16 (I x) (I y) = I (x ^^^ y) := by
  unfold bxor
  show IntKind.u16.wrap ((BitVec.ofInt 16 (I x) ^^^ BitVec.ofInt 16 (I y)).toNat : Int) = _
  rw [ofI, ofI, wrapI]
theorem sh1 (x : W) : wr .u16 (I x * 2) = I (x <<< 1) := by
  show (I x * 2) % 65536 = _
  unfold I
  rw [BitVec.toNat_shiftLeft, Nat.shiftLeft_eq]
  have := x.isLt
  omega
theorem sh8 (x : W) : wr .u16 (I x * 256) = I (x <<< 8) := by
  show (I x * 256) % 65536 = _
  unfold I
  rw [BitVec.toNat_shiftLeft, Nat.shiftLeft_eq]
  have := x.isLt
  omega
theorem bit1_I (x : W) : bit1 (I x) = I (B1 x) := by
  unfold bit1 B1
  have hm : x.msb = decide (I x ≥ 32768) := by
    rw [BitVec.msb_eq_decide]
    unfold I
    simp
    omega
  rw [hm, sh1, show (4129 : Int) = I 4129#16 from rfl, bx]
  cases decide (I x ≥ 32768) <;> rfl
def up (b : BitVec 8) : W := b.setWidth 16 <<< 8
def I8 (b : BitVec 8) : Int := (b.toNat : Int)
theorem wrb (b : BitVec 8) : wr .u16 (wr .u16 (I8 b) * 256) = I (up b) := by
  show ((I8 b % 65536) * 256) % 65536 = _
  unfold I I8 up
  rw [BitVec.toNat_shiftLeft, Nat.shiftLeft_eq, BitVec.toNat_setWidth]
  have := b.isLt
  omega
theorem byte1_I (x : W) (b : BitVec 8) : byte1 (I x) (I8 b) = I (B8 (x ^^^ up b)) := by
  unfold byte1 B8
  rw [wrb, bx, bit1_I, bit1_I, bit1_I, bit1_I, bit1_I, bit1_I, bit1_I, bit1_I]

/-! ### The table -/
def tabN (i : Nat) : Int := tabI.getD i 0
theorem tab_all : (List.range 256).all (fun i => tabN i == I (B8 (up (BitVec.ofNat 8 i))) && (B8 ((BitVec.ofNat 8 i).setWidth 16) == (BitVec.ofNat 8 i).setWidth 16 <<< 8)) = true := by kernel_rfl
theorem tab_at (b : BitVec 8) : tabN b.toNat = I (B8 (up b)) ∧ B8 (b.setWidth 16) = b.setWidth 16 <<< 8 := by
  have h := List.all_eq_true.1 tab_all b.toNat (List.mem_range.2 b.isLt)
  rw [Bool.and_eq_true, beq_iff_eq, beq_iff_eq] at h
  rw [show BitVec.ofNat 8 b.toNat = b by simp] at h
  exact h
def stepT (r b : Int) : Int := bxor .u16 (wr .u16 (r * 256)) (tabN (bxor .u8 (wr .u8 (r / 256)) b).toNat)
def hi (x : W) : BitVec 8 := (x >>> 8).setWidth 8
def lo (x : W) : BitVec 8 := x.setWidth 8
theorem parts (x : W) : x = (lo x).setWidth 16 ^^^ up (hi x) := by
  apply BitVec.eq_of_getLsbD_eq
  intro i hi'
  simp only [lo, up, hi, BitVec.getLsbD_xor, BitVec.getLsbD_setWidth, BitVec.getLsbD_shiftLeft, BitVec.getLsbD_ushiftRight]
  by_cases h : i < 8
  · simp [h, hi']
  · have h2 : i - 8 < 8 := by omega
    have h3 : i - 8 < 16 := by omega
    have h4 : 8 + (i - 8) = i := by omega
    simp [h, hi', h2, h3, h4]
theorem up_xor (a b : BitVec 8) : up (a ^^^ b) = up a ^^^ up b := by
  unfold up
  rw [← BitVec.shiftLeft_xor_distrib]
  congr 1
theorem hi_I (x : W) (b : BitVec 8) : (bxor .u8 (wr .u8 (I x / 256)) (I8 b)) = I8 (hi x ^^^ b) := by
  unfold bxor
  show IntKind.u8.wrap ((BitVec.ofInt 8 (wr .u8 (I x / 256)) ^^^ BitVec.ofInt 8 (I8 b)).toNat : Int) = _
  have h1 : wr .u8 (I x / 256) = ((hi x).toNat : Int) := by
    show (I x / 256) % 256 = _
    unfold hi I
    rw [BitVec.toNat_setWidth, BitVec.toNat_ushiftRight, Nat.shiftRight_eq_div_pow]
    omega
  have h2 : ∀ c : BitVec 8, BitVec.ofInt 8 (c.toNat : Int) = c := fun c => BitVec.ofInt_natCast .. |>.trans (by simp)
  rw [h1, h2]
  unfold I8
  rw [h2, wr_eq]
  show ((hi x ^^^ b).toNat : Int) % 256 = _
  have := (hi x ^^^ b).isLt
  omega
theorem step_I (x : W) (b : BitVec 8) : stepT (I x) (I8 b) = byte1 (I x) (I8 b) := by
  unfold stepT
  rw [hi_I, show (I8 (hi x ^^^ b)).toNat = (hi x ^^^ b).toNat from rfl, (tab_at _).1, sh8, bx, byte1_I, up_xor, B8_xor, B8_xor]
  congr 1
  have hx : B8 x = B8 ((lo x).setWidth 16) ^^^ B8 (up (hi x)) := by rw [← B8_xor, ← parts]
  have hs : x <<< 8 = (lo x).setWidth 16 <<< 8 := by
    apply BitVec.eq_of_getLsbD_eq
    intro i hi'
    simp only [lo, BitVec.getLsbD_setWidth, BitVec.getLsbD_shiftLeft]
    by_cases h : i < 8
    · simp [h]
    · have h2 : i - 8 < 8 := by omega
      have h3 : i - 8 < 16 := by omega
      simp [h, h2, h3]
  rw [hx, (tab_at (lo x)).2, hs]
  try ac_rfl
end Go.Proofs.YtdojnnlhaiennaaGreat.Cr

/- Sums of bytes, by the table: a contract. Conditions: none. -/
namespace Go.Proofs.YtdojnnlhaiennaaGreat.Cr
open Go Go.Proofs.YtdojnnlhaiennaaGreat.Ae Go.Proofs.YtdojnnlhaiennaaGreat.Fx

def envS : Env := [(196, .pure (fun _ => true) tabF)]
theorem ok_S : EnvOk Tryz.prog envS := EnvOk.p ok_nil (enter_at (nt := 24) (res := [.cell 0 252]) (by kernel_rfl)) tab_con
noncomputable def psumB : Code := Code.nav [1, 1, 1, 0, 1, 2, 3] (bodyOf Tryz.prog 164)
def tabT : AB := .tab (fun i => [.int .u16 (tabN i)]) 1 256 252
def bytesT (s : ByteArray) : AB := .tab (fun i => [.int .u8 ((s.data.getD i 0).toNat : Int)]) 1 s.size 5
abbrev psT (s : ByteArray) (r : Int) (i : Int) : List (Nat × AV) := [(3, .ptr 0 0), (4, .int .u16 r), (9, .own 1 s.size), (10, .int .i64 s.size), (11, .int .i64 i)]
theorem psum_round (s : ByteArray) (i : Nat) (r : Int) (tf bf : Nat → Int) : acode Tryz.prog [] 100 27 psumB (psT s r i) [.tab (fun i => [.int .u16 (tf i)]) 1 256 252, .tab (fun i => [.int .u8 (bf i)]) 1 s.size 5, .dead] (keepK [3, 4, 9, 10, 11]) =
    bif decide ((i : Int) < s.size) then
      (bif decide (0 ≤ (i : Int)) && decide ((i : Int) < s.size) then
        (bif Nat.beq 1 1 && Nat.ble ((i : Int).toNat * 1 + 1) s.size then
          (bif decide (0 ≤ bxor .u8 (wr .u8 (r / 256)) (bf ((i : Int).toNat * 1))) && decide (bxor .u8 (wr .u8 (r / 256)) (bf ((i : Int).toNat * 1)) < (256 : Nat)) then
            (bif Nat.beq 1 1 && Nat.ble (0 + (bxor .u8 (wr .u8 (r / 256)) (bf ((i : Int).toNat * 1))).toNat * 1 + 1) 256 then
              some (.normal, psT s (bxor .u16 (wr .u16 (r * 256)) (tf (0 + (bxor .u8 (wr .u8 (r / 256)) (bf ((i : Int).toNat * 1))).toNat * 1))) (wr .i64 ((i : Int) + 1)), [.tab (fun i => [.int .u16 (tf i)]) 1 256 252, .tab (fun i => [.int .u8 (bf i)]) 1 s.size 5, .dead])
            else none)
          else none)
        else none)
      else none)
    else some (.exit 0, psT s r i, [.tab (fun i => [.int .u16 (tf i)]) 1 256 252, .tab (fun i => [.int .u8 (bf i)]) 1 s.size 5, .dead]) := by kernel_rfl

theorem RB_tab1 {m : List Nat} {l : List AV} {Vs : List Value} {t : TypeId} {fz : Nat × Nat} (f : Nat → AV) {n : Nat} (hn : n = l.length) (h0 : l.length ≤ Vs.length) (h : RL m l (Vs.take l.length)) (hf : ∀ i, i < n → l[i]? = some (f i)) : RB m (.tab (fun i => [f i]) 1 n t) (.cells ⟨Vs⟩ t fz) := by
  refine ⟨Vs, fz, rfl, fun i hi => ⟨by omega, rfl, ?_⟩⟩
  rw [Nat.mul_one]
  have h1 := RL_take 1 (RL_drop i h)
  rw [drop_take_take Vs (by omega)] at h1
  have h2 : (l.drop i).take 1 = [f i] := by
    have h3 := hf i hi
    obtain ⟨h4, h5⟩ := List.getElem?_eq_some_iff.1 h3
    rw [List.drop_eq_getElem_cons h4, h5]
    rfl
  rwa [h2] at h1
theorem tell_ro (s : ByteArray) {m : List Nat} {o : Obj} (h : RB m (.ro (s.data.toList.map fun b => AV.int .u8 (b.toNat : Int)) 5) o) : RB m (bytesT s) o := by
  obtain ⟨Vs, fz, rfl, h0, h1⟩ := h
  have hl : (s.data.toList.map fun b => AV.int .u8 (b.toNat : Int)).length = s.size := by
    rw [List.length_map, Array.length_toList]; rfl
  refine RB_tab1 (fun i => .int .u8 ((s.data.getD i 0).toNat : Int)) hl.symm h0.1 h1 fun i hi => ?_
  have h' : i < s.data.size := hi
  rw [List.getElem?_map, Array.getElem?_toList, Array.getElem?_eq_getElem h', Array.getD, dif_pos h']
  rfl
theorem tell_tab {m : List Nat} {o : Obj} (h : RB m (.cells (tabI.map fun n => AV.int .u16 n) 252) o) : RB m tabT o := by
  obtain ⟨Vs, rfl, h1⟩ := h
  have hl := RL_len h1
  have h256 : (tabI.map fun n => AV.int .u16 n).length = 256 := by kernel_rfl
  refine RB_tab1 (fun i => .int .u16 (tabN i)) h256.symm (by omega) (by rw [← hl, List.take_length]; exact h1) fun i hi => ?_
  have h256' : tabI.length = 256 := by rw [← h256, List.length_map]
  rw [List.getElem?_map, List.getElem?_eq_getElem (by omega)]
  unfold tabN
  rw [List.getD_eq_getElem?_getD, List.getElem?_eq_getElem (by omega)]
  rfl
abbrev hi' (x : W) (b : BitVec 8) : BitVec 8 := hi x ^^^ b
theorem upto_I (s : ByteArray) : ∀ i, ∃ x : W, upto s i = I x
  | 0 => ⟨65535#16, by unfold upto I; rw [List.take_zero]; rfl⟩
  | i + 1 => by
    obtain ⟨x, hx⟩ := upto_I s i
    by_cases h : i < s.size
    · rw [upto_step s i h, hx]
      have := byte1_I x (BitVec.ofNat 8 (s.data.getD i 0).toNat)
      have h2 : I8 (BitVec.ofNat 8 (s.data.getD i 0).toNat) = ((s.data.getD i 0).toNat : Int) := by
        unfold I8
        rw [BitVec.toNat_ofNat, Nat.mod_eq_of_lt (UInt8.toNat_lt _)]
      rw [h2] at this
      exact ⟨_, this⟩
    · refine ⟨x, ?_⟩
      rw [← hx]
      unfold upto
      have hl := bytesI_len s
      rw [List.take_of_length_le (by omega), List.take_of_length_le (by omega)]
theorem psum_con : PureOk Tryz.prog 164 (fun _ => true) sumF := by
  refine pure_at (nt := 27) (res := [.tmp 2]) (by kernel_rfl) fun args v hv => ?_
  unfold sumF at hv
  split at hv
  · rename_i s
    cases hb : Nat.ble s.size 100000 with
    | false => rw [hb] at hv; cases hv
    | true =>
      rw [hb] at hv
      have hn := Nat.le_of_ble_eq_true hb
      cases hv
      refine ⟨rfl, rfl, Nat.le_of_ble_eq_true rfl, fun w0 a h0 => ?_⟩
      refine wp_seqN (by kernel_rfl) (At.codeK ok_S 100 [0] (e := .normal) (T' := [(0, .str s)]) (H' := []) (by kernel_rfl) h0 fun a w hs => then_normal ?_)
      refine wp_seqN (by kernel_rfl) (At.codeK ok_S 100 [0, 3] (e := .normal) (T' := [(0, .str s), (3, .ptr 0 0)]) (H' := [.cells (tabI.map fun n => AV.int .u16 n) 252]) (by kernel_rfl) hs fun a w hs => then_normal ?_)
      have hs : At [] w0 27 [(0, .str s), (3, .ptr 0 0)] [tabT] a w := hs.tell 0 _ tabT rfl rfl (fun _ _ h => tell_tab h) fun _ _ _ => trivial
      refine wp_seqN (by kernel_rfl) (At.codeK ok_S 100 [0, 3, 4] (e := .normal) (T' := [(0, .str s), (3, .ptr 0 0), (4, .int .u16 65535)]) (H' := [tabT]) (by kernel_rfl) hs fun a w hs => then_normal ?_)
      refine wp_seqN (by kernel_rfl) (wp_seqN (by kernel_rfl) (At.codeK ok_S 100 [3, 4, 9, 10, 11] (e := .normal) (T' := psT s 65535 0) (H' := [tabT, .ro (s.data.toList.map fun b => AV.int .u8 (b.toNat : Int)) 5, .dead]) (by kernel_rfl) hs fun a w hs => then_normal ?_))
      have hs : At [] w0 27 (psT s 65535 0) [tabT, bytesT s, .dead] a w := hs.tell 1 _ (bytesT s) rfl rfl (fun _ _ h => tell_ro s h) fun _ _ _ => trivial
      refine wp_blockN 0 (by kernel_rfl) (wp_as (.loop psumB) (by kernel_rfl) ?_)
      refine At.loop (σ := Nat) (fun i a w => i ≤ s.size ∧ At [] w0 27 (psT s (upto s i) i) [tabT, bytesT s, .dead] a w) (fun i => s.size - i) ?_ 0 ⟨Nat.zero_le _, hs⟩
      rintro i a w ⟨hi, hs⟩
      have hr := psum_round s i (upto s i) tabN (fun i => ((s.data.getD i 0).toNat : Int))
      by_cases hlt : i < s.size
      · obtain ⟨x, hx⟩ := upto_I s i
        have h8 : (((s.data.getD i 0).toNat : Nat) : Int) = I8 (BitVec.ofNat 8 (s.data.getD i 0).toNat) := by
          unfold I8
          rw [BitVec.toNat_ofNat, Nat.mod_eq_of_lt (UInt8.toNat_lt _)]
        have hst := step_I x (BitVec.ofNat 8 (s.data.getD i 0).toNat)
        unfold stepT at hst
        rw [← h8, ← hx, ← upto_step s i hlt] at hst
        have hxr : bxor .u8 (wr .u8 (upto s i / 256)) ((s.data.getD i 0).toNat : Int) = I8 (hi' x (BitVec.ofNat 8 (s.data.getD i 0).toNat)) := by rw [hx, h8]; exact hi_I x _
        have h9 : 0 ≤ I8 (hi' x (BitVec.ofNat 8 (s.data.getD i 0).toNat)) ∧ I8 (hi' x (BitVec.ofNat 8 (s.data.getD i 0).toNat)) < 256 := by
          unfold I8; have := (hi' x (BitVec.ofNat 8 (s.data.getD i 0).toNat)).isLt; omega
        rw [show (i : Int).toNat * 1 = i from Nat.mul_one i, Nat.zero_add, Nat.mul_one, hst] at hr
        rw [hxr] at hr
        generalize I8 (hi' x (BitVec.ofNat 8 (s.data.getD i 0).toNat)) = z at hr h9
        rw [decide_eq_true (by omega : (i : Int) < s.size), decide_eq_true (by omega : 0 ≤ (i : Int)), Nat.ble_eq_true_of_le (by omega : i + 1 ≤ s.size), decide_eq_true h9.1, decide_eq_true (by omega : z < (256 : Nat)), Nat.ble_eq_true_of_le (by omega : z.toNat + 1 ≤ 256), wr_next hlt hn] at hr
        exact At.codeK ok_nil 100 [3, 4, 9, 10, 11] hr hs fun a w hs => then_normal ⟨i + 1, by omega, by omega, hs⟩
      · rw [decide_eq_false (by omega : ¬ (i : Int) < s.size)] at hr
        refine At.codeK ok_nil 100 [3, 4, 9, 10, 11] hr hs fun a w hs => then_exit (inBlock_exit (then_normalN ?_))
        obtain rfl : i = s.size := by omega
        rw [upto_all] at hs
        refine At.codeK ok_nil 100 [2] (e := .ret) (T' := [(2, .int .u16 (crcI s))]) (H' := [tabT, bytesT s, .dead]) (by kernel_rfl) hs fun a w hs => ?_
        exact ⟨.inr rfl, _, _, _, hs, rfl, rfl⟩
  · cases hv
end Go.Proofs.YtdojnnlhaiennaaGreat.Cr

/- Sums, for callers. Conditions: none. -/
namespace Go.Proofs.YtdojnnlhaiennaaGreat.Cr
open Go Go.Proofs.YtdojnnlhaiennaaGreat.Ae Go.Proofs.YtdojnnlhaiennaaGreat.Fx

def sumC : List AV → Bool
  | [.str s] => Nat.ble s.size 100000
  | [.strG _ n _] => Nat.ble n 100000
  | _ => false
def sumG : List AV → Option AV
  | [.str s] => some (.int .u16 (crcI s))
  | [.strG s _ _] => some (.int .u16 (crcI s))
  | _ => none
theorem sumF_at (s : ByteArray) (h : Nat.ble s.size 100000 = true) : sumF [.str s] = some (.int .u16 (crcI s)) := by
  show (bif Nat.ble s.size 100000 then some (AV.int .u16 (crcI s)) else none) = _
  rw [h]; rfl
theorem sumG_of {f : FuncId} (h : PureOk Tryz.prog f (fun _ => true) sumF) : PureOk Tryz.prog f sumC sumG := by
  intro args v hC hv m Args w hA
  unfold sumC at hC
  split at hC
  · rename_i s
    cases hv
    exact h _ _ rfl (sumF_at s hC) m Args w hA
  · rename_i s n g
    cases hv
    obtain ⟨V, Vs, e1, e2, e3⟩ := RL_cons.1 hA
    simp only [R] at e2
    refine h _ _ rfl (sumF_at s (by rw [e2.2.1]; exact hC)) m Args w ?_
    rw [e1]
    exact RL.cons (by simp only [R]; exact e2.1) e3
  · cases hC
def envO : Env := [(164, .pure sumC sumG), (29, .pure sumC sumG)]
theorem ok_O : EnvOk Tryz.prog envO :=
  EnvOk.p (EnvOk.p ok_nil (enter_at (nt := 32) (res := [.tmp 2]) (by kernel_rfl)) (sumG_of rsum_con)) (enter_at (nt := 27) (res := [.tmp 2]) (by kernel_rfl)) (sumG_of psum_con)
end Go.Proofs.YtdojnnlhaiennaaGreat.Cr

/- The program's Open: a contract. Conditions: none. -/
namespace Go.Proofs.YtdojnnlhaiennaaGreat.Cr
open Go Go.Proofs.YtdojnnlhaiennaaGreat.Ae Go.Proofs.YtdojnnlhaiennaaGreat.Fx

abbrev eS : ByteArray := { data := #[] }
abbrev noFr : AV := .tup [.agg [.int .i64 0, .str eS], .bool false]
def byteI (s : ByteArray) (i : Nat) : Int := ((s.data.getD i 0).toNat : Int)
def opens (s : ByteArray) : Bool := decide (5 ≤ s.size ∧ byteI s 0 = 165 ∧ byteI s 2 + 5 = s.size ∧ s.size ≤ 69 ∧ crcI (s.extract 1 (s.size - 2)) = byteI s (s.size - 2) * 256 + byteI s (s.size - 1))
def openV (s : ByteArray) : AV := bif opens s then .tup [.agg [.int .i64 (byteI s 1), .str (s.extract 3 (s.size - 2))], .bool true] else noFr
theorem byteI_lt (s : ByteArray) (i : Nat) : 0 ≤ byteI s i ∧ byteI s i < 256 := by
  unfold byteI
  have := UInt8.toNat_lt (s.data.getD i 0)
  omega
def openF : List AV → Option AV
  | [.str s] => bif Nat.ble 3 s.size && Nat.ble s.size 100000 then some (openV s) else none
  | _ => none
abbrev okK (v : AV) (_ : List AB) : Option AV := bif v.noPtr then some v else none
theorem open_raw (s : ByteArray) (m : Nat) (g : Nat → Int) : acall Tryz.prog envO 100 111 [.strG s (m + 5) g] [] okK =
    (bif (bif (bif (bif decide (((m + 5 : Nat) : Int) < 5) then true else g 0 != 165) then true else wr .i64 (g 2) != wr .i64 (((m + 5 : Nat) : Int) - 5)) then true else decide (wr .i64 (((m + 5 : Nat) : Int) - 5) > 64)) then some noFr
    else bif leN (wr .i64 (((m + 5 : Nat) : Int) - 2)) (m + 5) then
      bif leN 1 (wr .i64 (((m + 5 : Nat) : Int) - 2)).toNat then
        bif Nat.ble ((wr .i64 (((m + 5 : Nat) : Int) - 2)).toNat - 1) 100000 then
          bif ltN (wr .i64 (((m + 5 : Nat) : Int) - 2)) (m + 5) then
            bif ltN (wr .i64 (wr .i64 (((m + 5 : Nat) : Int) - 2) + 1)) (m + 5) then
              bif crcI (s.extract 1 (wr .i64 (((m + 5 : Nat) : Int) - 2)).toNat) != bor .u16 (wr .u16 (wr .u16 (g (wr .i64 (((m + 5 : Nat) : Int) - 2)).toNat) * 256)) (wr .u16 (g (wr .i64 (wr .i64 (((m + 5 : Nat) : Int) - 2) + 1)).toNat)) then some noFr
              else bif leN (wr .i64 (((m + 5 : Nat) : Int) - 2)) (m + 5) then
                bif leN 3 (wr .i64 (((m + 5 : Nat) : Int) - 2)).toNat then
                  some (.tup [.agg [.int .i64 (wr .i64 (g 1)), .strG (s.extract 3 (wr .i64 (((m + 5 : Nat) : Int) - 2)).toNat) ((wr .i64 (((m + 5 : Nat) : Int) - 2)).toNat - 3) fun i => g (3 + i)], .bool true])
                else none
              else none
            else none
          else none
        else none
      else none
    else none) := by kernel_rfl
theorem open_low (s : ByteArray) (g : Nat → Int) (n : Nat) (h3 : 3 ≤ n) (h5 : n < 5) : acall Tryz.prog envO 100 111 [.strG s n g] [] okK = some noFr := by
  have h3' : acall Tryz.prog envO 100 111 [.strG s 3 g] [] okK = some noFr := by kernel_rfl
  have h4' : acall Tryz.prog envO 100 111 [.strG s 4 g] [] okK = some noFr := by kernel_rfl
  have : n = 3 ∨ n = 4 := by omega
  rcases this with rfl | rfl
  · exact h3'
  · exact h4'
theorem bor_w (a b : Int) (ha : 0 ≤ a ∧ a < 256) (hb : 0 ≤ b ∧ b < 256) : bor .u16 (wr .u16 (wr .u16 a * 256)) (wr .u16 b) = a * 256 + b := by
  obtain ⟨x, rfl⟩ := Int.eq_ofNat_of_zero_le ha.1
  obtain ⟨y, rfl⟩ := Int.eq_ofNat_of_zero_le hb.1
  have h1 : wr .u16 (wr .u16 (x : Int) * 256) = ((x * 256 : Nat) : Int) := by
    show ((x : Int) % 65536 * 256) % 65536 = _
    omega
  have h2 : wr .u16 (y : Int) = ((y : Nat) : Int) := by
    show (y : Int) % 65536 = _
    omega
  rw [h1, h2]
  unfold bor
  have h3 : (BitVec.ofInt IntKind.u16.bits ((x * 256 : Nat) : Int) ||| BitVec.ofInt IntKind.u16.bits ((y : Nat) : Int)).toNat = x * 256 + y := by
    show (BitVec.ofInt 16 ((x * 256 : Nat) : Int) ||| BitVec.ofInt 16 ((y : Nat) : Int)).toNat = x * 256 + y
    rw [BitVec.toNat_or, BitVec.ofInt_natCast, BitVec.ofInt_natCast, BitVec.toNat_ofNat, BitVec.toNat_ofNat, Nat.mod_eq_of_lt (by omega), Nat.mod_eq_of_lt (by omega)]
    have := Nat.two_pow_add_eq_or_of_lt (i := 8) (b := y) (by omega) x
    rw [Nat.mul_comm x 256]
    exact this.symm
  rw [h3, wr_eq]
  show ((x * 256 + y : Nat) : Int) % 65536 = _
  omega

theorem pure_res {P : Program} {env : Env} (hE : EnvOk P env) (fuel : Nat) {f : FuncId} {args args' : List AV} {r v : AV} (hn : AV.noPtrL args = true) (ha : ∀ Vs, RL [] args Vs → RL [] args' Vs) (h : acall P env fuel f args' [] okK = some r) (hr : ∀ V, R [] r V → R [] v V)
    (m : List Nat) (Args : Array Value) (w : World) (hA : RL m args Args.toList) : Calls P f Args w fun e w' => ∃ V, e = .returned V ∧ R [] v V ∧ Ext [] w [] w' := by
  have hH : HR [] [] w := ⟨rfl, by simp, fun i B hB _ => by simp at hB⟩
  refine (acall_ok hE h (m := []) (ha _ (RL_noPtr args hn hA)) hH).mono fun e w' ⟨v', V, m', H', e1, e2, e3, e4, e5⟩ => ?_
  cases hb : v'.noPtr with
  | false => simp only [okK, hb, cond_false] at e5; cases e5
  | true =>
    simp only [okK, hb, cond_true, Option.some.injEq] at e5
    subst e5
    exact ⟨V, e1, hr V (R_noPtr v' hb e2), e4.back⟩
theorem RL_strG (s : ByteArray) (Vs : List Value) (h : RL [] [.str s] Vs) : RL [] [.strG s s.size (byteI s)] Vs := by
  obtain ⟨V, Vs', rfl, h1, h2⟩ := RL_cons.1 h
  simp only [R] at h1
  exact RL.cons (by rw [R]; exact ⟨h1, rfl, fun i _ => rfl⟩) h2
theorem R_openG {d : ByteArray} {n : Nat} {g : Nat → Int} {k : Int} {V : Value} (h : R [] (.tup [.agg [.int .i64 k, .strG d n g], .bool true]) V) : R [] (.tup [.agg [.int .i64 k, .str d], .bool true]) V := by
  simp only [R, RL] at h ⊢
  obtain ⟨Vs, h1, V1, Vs1, h2, ⟨Ws, h3, W1, Ws1, h4, h5, W2, Ws2, h6, h7, h8⟩, h9⟩ := h
  exact ⟨Vs, h1, V1, Vs1, h2, ⟨Ws, h3, W1, Ws1, h4, h5, W2, Ws2, h6, h7.1, h8⟩, h9⟩
theorem w_of {z : Int} (h : -9223372036854775808 ≤ z ∧ z < 9223372036854775808) : wr .i64 z = z := by
  show (z + 9223372036854775808) % 18446744073709551616 - 9223372036854775808 = z
  omega
theorem open_eq (s : ByteArray) (m : Nat) (hm : s.size = m + 5) (hn : s.size ≤ 100000) : ∃ r, acall Tryz.prog envO 100 111 [.strG s (m + 5) (byteI s)] [] okK = some r ∧ ∀ V, R [] r V → R [] (openV s) V := by
  rw [open_raw]
  have b2 := byteI_lt s 2
  have e1 : wr .i64 (((m + 5 : Nat) : Int) - 5) = (m : Int) := by rw [w_of (by omega)]; omega
  have e2 : wr .i64 (((m + 5 : Nat) : Int) - 2) = ((m + 3 : Nat) : Int) := by rw [w_of (by omega)]; omega
  have e3 : wr .i64 (((m + 3 : Nat) : Int) + 1) = ((m + 4 : Nat) : Int) := by rw [w_of (by omega)]; omega
  have e4 : wr .i64 (byteI s 2) = byteI s 2 := w_of (by omega)
  have e5 : wr .i64 (byteI s 1) = byteI s 1 := w_of (by have := byteI_lt s 1; omega)
  rw [e1, e2, e3, e4, e5, show (((m + 3 : Nat) : Int)).toNat = m + 3 from rfl, show (((m + 4 : Nat) : Int)).toNat = m + 4 from rfl, bor_w _ _ (byteI_lt s _) (byteI_lt s _)]
  rw [decide_eq_false (by omega : ¬ (((m + 5 : Nat) : Int) < 5)), leN_of (by omega : (0 : Int) ≤ ((m + 3 : Nat) : Int)) (by omega), leN_of (by omega : (0 : Int) ≤ 1) (by omega : (1 : Int) ≤ ((m + 3 : Nat) : Int)), Nat.ble_eq_true_of_le (by omega : m + 3 - 1 ≤ 100000), ltN_of (by omega : (0 : Int) ≤ ((m + 3 : Nat) : Int)) (by omega), ltN_of (by omega : (0 : Int) ≤ ((m + 4 : Nat) : Int)) (by omega), leN_of (by omega : (0 : Int) ≤ 3) (by omega : (3 : Int) ≤ ((m + 3 : Nat) : Int))]
  simp only [cond_true, cond_false]
  have s2 : s.size - 2 = m + 3 := by omega
  have s1 : s.size - 1 = m + 4 := by omega
  have no : opens s = false → openV s = noFr := fun h => by unfold openV; rw [h]; rfl
  by_cases c0 : byteI s 0 = 165
  · have q0 : (byteI s 0 != 165) = false := by rw [c0]; rfl
    simp only [q0, cond_false]
    by_cases c2 : byteI s 2 = (m : Int)
    · have q2 : (byteI s 2 != (m : Int)) = false := by rw [c2]; exact bne_self_eq_false _
      simp only [q2, cond_false]
      by_cases c3 : (m : Int) > 64
      · rw [decide_eq_true c3, no (decide_eq_false (by omega))]
        exact ⟨noFr, rfl, fun V h => h⟩
      · rw [decide_eq_false c3]
        simp only [cond_false]
        by_cases c4 : crcI (s.extract 1 (m + 3)) = byteI s (m + 3) * 256 + byteI s (m + 4)
        · have q4 : (crcI (s.extract 1 (m + 3)) != byteI s (m + 3) * 256 + byteI s (m + 4)) = false := by rw [c4]; exact bne_self_eq_false _
          have ho : opens s = true := decide_eq_true ⟨by omega, c0, by omega, by omega, by rw [s2, s1]; exact c4⟩
          have hv : openV s = .tup [.agg [.int .i64 (byteI s 1), .str (s.extract 3 (m + 3))], .bool true] := by unfold openV; rw [ho, s2]; rfl
          rw [q4, hv]
          exact ⟨_, rfl, fun V h => R_openG h⟩
        · have q4 : (crcI (s.extract 1 (m + 3)) != byteI s (m + 3) * 256 + byteI s (m + 4)) = true := bne_iff_ne.2 c4
          rw [q4, no (decide_eq_false fun h => c4 (by rw [s2, s1] at h; exact h.2.2.2.2))]
          exact ⟨noFr, rfl, fun V h => h⟩
    · have q2 : (byteI s 2 != (m : Int)) = true := bne_iff_ne.2 c2
      simp only [q2, cond_true]
      rw [no (decide_eq_false (by omega))]
      exact ⟨noFr, rfl, fun V h => h⟩
  · have q0 : (byteI s 0 != 165) = true := bne_iff_ne.2 c0
    simp only [q0, cond_true, cond_false]
    rw [no (decide_eq_false (by omega))]
    exact ⟨noFr, rfl, fun V h => h⟩
theorem open_con : PureOk Tryz.prog 111 (fun _ => true) openF := by
  intro args v hC hv
  clear hC
  unfold openF at hv
  split at hv
  · rename_i s
    cases hb : (Nat.ble 3 s.size && Nat.ble s.size 100000) with
    | false => rw [hb] at hv; cases hv
    | true =>
      rw [hb] at hv
      simp only [Bool.and_eq_true] at hb
      have h3 := Nat.le_of_ble_eq_true hb.1
      have hn := Nat.le_of_ble_eq_true hb.2
      cases hv
      by_cases h5 : s.size < 5
      · have hl := open_low s (byteI s) s.size h3 h5
        have ho : openV s = noFr := by
          unfold openV opens
          rw [decide_eq_false (by omega : ¬ (5 ≤ s.size ∧ _))]
          rfl
        rw [ho]
        exact pure_res ok_O 100 rfl (RL_strG s) hl fun V h => h
      · obtain ⟨r, h1, h2⟩ := open_eq s (s.size - 5) (by omega) hn
        rw [show s.size - 5 + 5 = s.size by omega] at h1
        exact pure_res ok_O 100 rfl (RL_strG s) h1 h2
  · cases hv
end Go.Proofs.YtdojnnlhaiennaaGreat.Cr

/- The reference's Wrap and Open: contracts. Conditions: none. -/
namespace Go.Proofs.YtdojnnlhaiennaaGreat.Cr
open Go Go.Proofs.YtdojnnlhaiennaaGreat.Ae Go.Proofs.YtdojnnlhaiennaaGreat.Fx

def headB (k : Int) (d : ByteArray) : ByteArray := strOf [wr .u8 k, wr .u8 (d.size : Int)] ++ d
def frameB (k : Int) (d : ByteArray) : ByteArray := { data := #[165] } ++ headB k d ++ strOf [wr .u8 (wr .u16 ((crcI (headB k d)).tdiv 256)), wr .u8 ((crcI (headB k d)).tmod 256)]
def badF (k : Int) (d : ByteArray) : Bool := bif bif decide (k < 0) then true else decide (k > 255) then true else decide ((d.size : Int) > 64)
def wrapC : List AV → Bool
  | [.agg [.int .i64 _, .str d]] => Nat.ble d.size 90000
  | _ => false
def wrapB (k : Int) (d : ByteArray) : ByteArray := bif badF k d then eS else frameB k d
def wrapF (fr : Int → ByteArray → ByteArray) (bd : Int → ByteArray → Bool) : List AV → Option AV
  | [.agg [.int .i64 k, .str d]] => some (.tup [.str (fr k d), .bool (!bd k d)])
  | _ => none
theorem rwrap_raw (k : Int) (d : ByteArray) : acall Tryz.prog envO 100 12 [.agg [.int .i64 k, .str d]] [] okK =
    bif badF k d then some (.tup [.str eS, .bool false])
    else bif decide ((strOf [wr .u8 k, wr .u8 (d.size : Int)]).size + d.size ≤ 4611686018427387904) then
      bif Nat.ble (headB k d).size 100000 then
        bif decide (({ data := #[165] } : ByteArray).size + (headB k d).size ≤ 4611686018427387904) then
          bif decide ((({ data := #[165] } : ByteArray) ++ headB k d).size + (strOf [wr .u8 (wr .u16 ((crcI (headB k d)).tdiv 256)), wr .u8 ((crcI (headB k d)).tmod 256)]).size ≤ 4611686018427387904) then
            some (.tup [.str (frameB k d), .bool true])
          else none
        else none
      else none
    else none := by kernel_rfl
theorem str2 (a b : Int) : (strOf [a, b]).size = 2 := rfl
theorem rwrap_con : PureOk Tryz.prog 12 wrapC (wrapF wrapB badF) := by
  refine pure_of ok_O 100 _ _ _ fun args v hC hv => ?_
  unfold wrapF at hv
  split at hv
  · rename_i k d
    have hd := Nat.le_of_ble_eq_true hC
    cases hv
    refine ⟨rfl, rfl, ?_⟩
    rw [show (fun (v : AV) (_ : List AB) => bif v.noPtr then some v else none) = okK from rfl, rwrap_raw]
    have h1 : (headB k d).size = 2 + d.size := by unfold headB; rw [ByteArray.size_append, str2]
    have h2 : ({ data := #[165] } : ByteArray).size = 1 := rfl
    rw [ByteArray.size_append, str2, str2, h1, h2, decide_eq_true (by omega : 2 + d.size ≤ 4611686018427387904), Nat.ble_eq_true_of_le (by omega : 2 + d.size ≤ 100000), decide_eq_true (by omega : 1 + (2 + d.size) ≤ 4611686018427387904), decide_eq_true (by omega : 1 + (2 + d.size) + 2 ≤ 4611686018427387904)]
    unfold wrapB
    cases badF k d <;> rfl
  · cases hv
def envRO (fr : Int → ByteArray → ByteArray) (bd : Int → ByteArray → Bool) : Env := [(12, .pure wrapC (wrapF fr bd))]
theorem ok_RO : EnvOk Tryz.prog (envRO wrapB badF) := EnvOk.p ok_nil (enter_at (nt := 45) (res := [.tmp 2, .tmp 3]) (by kernel_rfl)) rwrap_con
end Go.Proofs.YtdojnnlhaiennaaGreat.Cr

/- The reference's Open: a contract. Conditions: none. -/
namespace Go.Proofs.YtdojnnlhaiennaaGreat.Cr
open Go Go.Proofs.YtdojnnlhaiennaaGreat.Ae Go.Proofs.YtdojnnlhaiennaaGreat.Fx

theorem ropen_raw (s : ByteArray) (fr : Int → ByteArray → ByteArray) (bd : Int → ByteArray → Bool) : acall Tryz.prog (envRO fr bd) 100 26 [.str s] [] okK =
    (bif decide ((s.size : Int) < 5) then some noFr
    else bif ltN 1 s.size then
      bif leN (wr .i64 ((s.size : Int) - 2)) s.size then
        bif leN 3 (wr .i64 ((s.size : Int) - 2)).toNat then
          bif Nat.ble (s.extract 3 (wr .i64 ((s.size : Int) - 2)).toNat).size 90000 then
            bif (bif !!bd (wr .i64 (byteI s 1)) (s.extract 3 (wr .i64 ((s.size : Int) - 2)).toNat) then true else !(fr (wr .i64 (byteI s 1)) (s.extract 3 (wr .i64 ((s.size : Int) - 2)).toNat) == s)) then some noFr
            else some (.tup [.agg [.int .i64 (wr .i64 (byteI s 1)), .str (s.extract 3 (wr .i64 ((s.size : Int) - 2)).toNat)], .bool true])
          else none
        else none
      else none
    else none) := by kernel_rfl

/-! ### Bytes -/
theorem ba_ext {a b : ByteArray} (h : a.data.toList = b.data.toList) : a = b := by
  cases a; cases b
  simp only [ByteArray.mk.injEq]
  exact Array.toList_inj.1 h
theorem ba_beq (a b : ByteArray) : (a == b) = true ↔ a = b := by
  obtain ⟨x⟩ := a
  obtain ⟨y⟩ := b
  constructor
  · intro h
    have e : x = y := by simpa using (show (x == y) = true from h)
    rw [e]
  · intro h
    cases h
    show (x == x) = true
    simp
theorem app_l (a b : ByteArray) : (a ++ b).data.toList = a.data.toList ++ b.data.toList := by simp
theorem ext_l (s : ByteArray) (i j : Nat) : (s.extract i j).data.toList = (s.data.toList.drop i).take (j - i) := by
  simp
theorem byteI_l (s : ByteArray) (i : Nat) (h : i < s.size) : ∃ b, s.data.toList[i]? = some b ∧ byteI s i = (b.toNat : Int) := by
  have h' : i < s.data.size := h
  refine ⟨s.data[i], by rw [Array.getElem?_toList, Array.getElem?_eq_getElem h'], ?_⟩
  unfold byteI
  rw [Array.getD, dif_pos h']
  rfl
def crcL (l : List UInt8) : Int := (l.map fun b => (b.toNat : Int)).foldl byte1 65535
theorem crcI_l (s : ByteArray) : crcI s = crcL s.data.toList := rfl
theorem crcL_I : ∀ l : List UInt8, ∃ x : W, crcL l = I x := by
  intro l
  have : ∀ (l : List UInt8) (y : W), ∃ x : W, (l.map fun b => (b.toNat : Int)).foldl byte1 (I y) = I x := by
    intro l
    induction l with
    | nil => intro y; exact ⟨y, rfl⟩
    | cons b l ih =>
      intro y
      rw [List.map_cons, List.foldl_cons]
      have h2 : ((b.toNat : Nat) : Int) = I8 (BitVec.ofNat 8 b.toNat) := by
        unfold I8
        rw [BitVec.toNat_ofNat, Nat.mod_eq_of_lt (UInt8.toNat_lt _)]
      rw [h2, byte1_I]
      exact ih _
  exact this l 65535#16
theorem crcL_lt (l : List UInt8) : 0 ≤ crcL l ∧ crcL l < 65536 := by
  obtain ⟨x, h⟩ := crcL_I l
  rw [h]; exact I_lt x
theorem of_u8 (z : Int) (b : UInt8) (h : 0 ≤ z ∧ z < 256) : UInt8.ofNat z.toNat = b ↔ z = (b.toNat : Int) := by
  constructor
  · rintro rfl
    rw [UInt8.toNat_ofNat']
    omega
  · intro h
    subst h
    show UInt8.ofNat b.toNat = b
    simp
theorem split5 (s : ByteArray) (h : 5 ≤ s.size) : ∃ b0 b1 b2 dl e0 e1, s.data.toList = b0 :: b1 :: b2 :: (dl ++ [e0, e1]) := by
  have hl : s.data.toList.length = s.size := by rw [Array.length_toList]; rfl
  rcases hs : s.data.toList with _ | ⟨b0, _ | ⟨b1, _ | ⟨b2, M⟩⟩⟩ <;> rw [hs] at hl <;> simp only [List.length_nil, List.length_cons] at hl <;> try omega
  refine ⟨b0, b1, b2, M.take (M.length - 2), M[M.length - 2]'(by omega), M[M.length - 1]'(by omega), ?_⟩
  congr 3
  have h1 : M.drop (M.length - 2) = [M[M.length - 2]'(by omega), M[M.length - 1]'(by omega)] := by
    rw [List.drop_eq_getElem_cons (by omega), List.drop_eq_getElem_cons (by omega)]
    have : M.length - 2 + 1 = M.length - 1 := by omega
    simp only [this]
    rw [List.drop_eq_nil_of_le (by omega)]
  rw [← h1, List.take_append_drop]

theorem byteI_at (s : ByteArray) (i : Nat) (b : UInt8) (h : s.data.toList[i]? = some b) : byteI s i = (b.toNat : Int) := by
  have hl : s.data.toList.length = s.size := by rw [Array.length_toList]; rfl
  obtain ⟨b', h1, h2⟩ := byteI_l s i (by have := (List.getElem?_eq_some_iff.1 h).1; omega)
  rw [h] at h1
  cases h1
  exact h2
theorem open_law (s : ByteArray) (hs : 5 ≤ s.size) : (bif !!badF (byteI s 1) (s.extract 3 (s.size - 2)) then true else !(wrapB (byteI s 1) (s.extract 3 (s.size - 2)) == s)) = !opens s := by
  obtain ⟨b0, b1, b2, dl, e0, e1, hL⟩ := split5 s hs
  have hn : s.size = dl.length + 5 := by
    have : s.data.toList.length = s.size := by rw [Array.length_toList]; rfl
    rw [hL] at this
    simp at this
    omega
  have g0 : byteI s 0 = (b0.toNat : Int) := byteI_at s 0 b0 (by rw [hL]; rfl)
  have g1 : byteI s 1 = (b1.toNat : Int) := byteI_at s 1 b1 (by rw [hL]; rfl)
  have g2 : byteI s 2 = (b2.toNat : Int) := byteI_at s 2 b2 (by rw [hL]; rfl)
  have g3 : byteI s (s.size - 2) = (e0.toNat : Int) := byteI_at s _ e0 (by
    rw [hL, hn, show dl.length + 5 - 2 = dl.length + 3 by omega]
    simp)
  have g4 : byteI s (s.size - 1) = (e1.toNat : Int) := byteI_at s _ e1 (by
    rw [hL, hn, show dl.length + 5 - 1 = (dl.length + 1) + 3 by omega]
    simp)
  have hd : (s.extract 3 (s.size - 2)).data.toList = dl := by
    rw [ext_l, hL, hn]
    simp
  have hds : (s.extract 3 (s.size - 2)).size = dl.length := by
    have : (s.extract 3 (s.size - 2)).data.toList.length = (s.extract 3 (s.size - 2)).size := by rw [Array.length_toList]; rfl
    rw [← this, hd]
  have hx : crcI (s.extract 1 (s.size - 2)) = crcL (b1 :: b2 :: dl) := by
    rw [crcI_l, ext_l, hL, hn]
    congr 1
    simp
  have l0 := UInt8.toNat_lt b0
  have l1 := UInt8.toNat_lt b1
  have l2 := UInt8.toNat_lt b2
  have l3 := UInt8.toNat_lt e0
  have l4 := UInt8.toNat_lt e1
  have hb : badF (byteI s 1) (s.extract 3 (s.size - 2)) = decide (dl.length > 64) := by
    unfold badF
    rw [hds, g1, decide_eq_false (by omega : ¬ ((b1.toNat : Int) < 0)), decide_eq_false (by omega : ¬ ((b1.toNat : Int) > 255))]
    simp only [cond_false]
    exact decide_eq_decide.2 (by omega)
  generalize hdd : s.extract 3 (s.size - 2) = d at *
  by_cases hbig : dl.length > 64
  · rw [hb, decide_eq_true hbig]
    have : opens s = false := decide_eq_false (by omega)
    rw [this]; rfl
  · have hw : wrapB (byteI s 1) d = frameB (byteI s 1) d := by unfold wrapB; rw [hb, decide_eq_false hbig]; rfl
    rw [hb, hw, decide_eq_false hbig]
    simp only [Bool.not_false, Bool.not_true, cond_false]
    congr 1
    have hhead : (headB (byteI s 1) d).data.toList = b1 :: UInt8.ofNat dl.length :: dl := by
      unfold headB
      rw [app_l, hd, g1, hds]
      show UInt8.ofNat (((b1.toNat : Int) % 256).toNat) :: UInt8.ofNat ((((dl.length : Nat) : Int) % 256).toNat) :: dl = _
      rw [(of_u8 _ b1 (by omega)).2 (by omega), show ((((dl.length : Nat) : Int) % 256).toNat) = dl.length by omega]
    have hc : crcI (headB (byteI s 1) d) = crcL (b1 :: UInt8.ofNat dl.length :: dl) := by rw [crcI_l, hhead]
    have hcl := crcL_lt (b1 :: UInt8.ofNat dl.length :: dl)
    have hfr : (frameB (byteI s 1) d).data.toList = 165 :: b1 :: UInt8.ofNat dl.length :: (dl ++ [UInt8.ofNat (crcL (b1 :: UInt8.ofNat dl.length :: dl) / 256).toNat, UInt8.ofNat (crcL (b1 :: UInt8.ofNat dl.length :: dl) % 256).toNat]) := by
      unfold frameB
      rw [app_l, app_l, hhead, hc]
      generalize crcL (b1 :: UInt8.ofNat dl.length :: dl) = c at *
      have t1 : wr .u8 (wr .u16 (c.tdiv 256)) = c / 256 := by
        rw [Int.tdiv_eq_ediv_of_nonneg hcl.1]
        show (c / 256 % 65536) % 256 = _
        omega
      have t2 : wr .u8 (c.tmod 256) = c % 256 := by
        rw [Int.tmod_eq_emod_of_nonneg hcl.1]
        show (c % 256) % 256 = _
        omega
      rw [t1, t2]
      show [165] ++ (b1 :: UInt8.ofNat dl.length :: dl) ++ [UInt8.ofNat (c / 256).toNat, UInt8.ofNat (c % 256).toNat] = _
      simp
    have key : frameB (byteI s 1) d = s ↔ (b0 = 165 ∧ b2 = UInt8.ofNat dl.length ∧ e0 = UInt8.ofNat (crcL (b1 :: UInt8.ofNat dl.length :: dl) / 256).toNat ∧ e1 = UInt8.ofNat (crcL (b1 :: UInt8.ofNat dl.length :: dl) % 256).toNat) := by
      constructor
      · intro h
        rw [h, hL] at hfr
        simp at hfr
        exact ⟨hfr.1, hfr.2.1, hfr.2.2.1, hfr.2.2.2⟩
      · rintro ⟨h0, h2, h3, h4⟩
        refine ba_ext ?_
        rw [hfr, hL, h0, ← h2, h3, h4, ← h2]
    have hbeq : (frameB (byteI s 1) d == s) = decide (frameB (byteI s 1) d = s) := by rw [Bool.eq_iff_iff, ba_beq, decide_eq_true_iff]
    rw [hbeq]
    unfold opens
    refine decide_eq_decide.2 (key.trans ?_)
    rw [g0, g2, g3, g4, hx]
    have u2 : b2 = UInt8.ofNat dl.length ↔ (b2.toNat : Int) = dl.length := by
      rw [eq_comm, show dl.length = ((dl.length : Nat) : Int).toNat from rfl, of_u8 _ _ (by omega), eq_comm]
      rfl
    have u0 : b0 = 165 ↔ (b0.toNat : Int) = 165 := by
      rw [eq_comm, show (165 : UInt8) = UInt8.ofNat (165 : Int).toNat from rfl, of_u8 _ _ (by omega), eq_comm]
    rw [u0, u2]
    constructor
    · rintro ⟨h0, h2, h3, h4⟩
      have h2' := u2.2 h2
      rw [← h2'] at h3 h4
      have hcl' := crcL_lt (b1 :: b2 :: dl)
      have v3 := (of_u8 _ _ (by omega)).1 h3.symm
      have v4 := (of_u8 _ _ (by omega)).1 h4.symm
      exact ⟨hs, h0, by omega, by omega, by omega⟩
    · rintro ⟨_, h0, h2, _, h4⟩
      have h2'' : (b2.toNat : Int) = dl.length := by omega
      have h2' := u2.2 h2''
      rw [← h2']
      have hcl' := crcL_lt (b1 :: b2 :: dl)
      exact ⟨h0, h2'', ((of_u8 _ _ (by omega)).2 (by omega)).symm, ((of_u8 _ _ (by omega)).2 (by omega)).symm⟩

def ropenF : List AV → Option AV
  | [.str s] => bif Nat.ble s.size 90000 then some (openV s) else none
  | _ => none
theorem ropen_con : PureOk Tryz.prog 26 (fun _ => true) ropenF := by
  intro args v hC hv
  clear hC
  unfold ropenF at hv
  split at hv
  · rename_i s
    cases hb : Nat.ble s.size 90000 with
    | false => rw [hb] at hv; cases hv
    | true =>
      rw [hb] at hv
      have hn := Nat.le_of_ble_eq_true hb
      cases hv
      have hr := ropen_raw s wrapB badF
      by_cases h5 : s.size < 5
      · rw [decide_eq_true (by omega : (s.size : Int) < 5)] at hr
        have ho : openV s = noFr := by
          unfold openV opens
          rw [decide_eq_false (by omega : ¬ (5 ≤ s.size ∧ _))]
          rfl
        rw [ho]
        exact pure_res ok_RO 100 rfl (fun _ h => h) hr fun V h => h
      · have e2 : wr .i64 ((s.size : Int) - 2) = ((s.size - 2 : Nat) : Int) := by rw [w_of (by omega)]; omega
        have e5 : wr .i64 (byteI s 1) = byteI s 1 := w_of (by have := byteI_lt s 1; omega)
        have hds : (s.extract 3 (s.size - 2)).size = s.size - 2 - 3 := by rw [ByteArray.size_extract]; omega
        rw [e2, e5, show (((s.size - 2 : Nat) : Int)).toNat = s.size - 2 from rfl, hds, open_law s (by omega), decide_eq_false (by omega : ¬ ((s.size : Int) < 5)), ltN_of (by omega : (0 : Int) ≤ 1) (by omega), leN_of (by omega : (0 : Int) ≤ ((s.size - 2 : Nat) : Int)) (by omega), leN_of (by omega : (0 : Int) ≤ 3) (by omega : (3 : Int) ≤ ((s.size - 2 : Nat) : Int)), Nat.ble_eq_true_of_le (by omega : s.size - 2 - 3 ≤ 90000)] at hr
        simp only [cond_true, cond_false] at hr
        unfold openV
        cases ho : opens s with
        | true => rw [ho] at hr; exact pure_res ok_RO 100 rfl (fun _ h => h) hr fun V h => h
        | false => rw [ho] at hr; exact pure_res ok_RO 100 rfl (fun _ h => h) hr fun V h => h
  · cases hv
end Go.Proofs.YtdojnnlhaiennaaGreat.Cr

/- The reference's Scan: a contract. Conditions: none. Under way. -/
namespace Go.Proofs.YtdojnnlhaiennaaGreat.Cr
open Go Go.Proofs.YtdojnnlhaiennaaGreat.Ae Go.Proofs.YtdojnnlhaiennaaGreat.Fx

def opC (lim : Nat) : List AV → Bool
  | [.str s] => Nat.ble 3 s.size && Nat.ble s.size lim
  | [.strG _ n _] => Nat.ble 3 n && Nat.ble n lim
  | _ => false
/-- A frame's parts and whether it is one: for callers. -/
def opG (kd : ByteArray → Int) (dt : ByteArray → ByteArray) (ok : ByteArray → Bool) : List AV → Option AV
  | [.str s] => some (.tup [.agg [.int .i64 (kd s), .str (dt s)], .bool (ok s)])
  | [.strG s _ _] => some (.tup [.agg [.int .i64 (kd s), .str (dt s)], .bool (ok s)])
  | _ => none
def kdI (s : ByteArray) : Int := bif opens s then byteI s 1 else 0
def dtI (s : ByteArray) : ByteArray := bif opens s then s.extract 3 (s.size - 2) else eS
theorem openV_parts (s : ByteArray) : openV s = .tup [.agg [.int .i64 (kdI s), .str (dtI s)], .bool (opens s)] := by
  unfold openV kdI dtI
  cases opens s <;> rfl
/-- .. also where the bytes are told by a function. -/
theorem opG_of {f : FuncId} {lim : Nat} {F : List AV → Option AV} (h : PureOk Tryz.prog f (fun _ => true) F) (hF : ∀ s : ByteArray, (Nat.ble 3 s.size && Nat.ble s.size lim) = true → F [.str s] = some (openV s)) : PureOk Tryz.prog f (opC lim) (opG kdI dtI opens) := by
  intro args v hC hv
  unfold opC at hC
  split at hC
  · rename_i s
    cases hv
    refine h [.str s] _ rfl ?_
    rw [← openV_parts]
    exact hF s hC
  · rename_i s n g
    cases hv
    intro m Args w hA
    obtain ⟨V, Vs, e1, e2, e3⟩ := RL_cons.1 hA
    simp only [R] at e2
    refine h [.str s] (.tup [.agg [.int .i64 (kdI s), .str (dtI s)], .bool (opens s)]) rfl ?_ m Args w ?_
    · rw [← openV_parts]
      exact hF s (by rw [e2.2.1]; exact hC)
    · rw [e1]
      exact RL.cons (by simp only [R]; exact e2.1) e3
  · cases hC
theorem opG_p : PureOk Tryz.prog 111 (opC 100000) (opG kdI dtI opens) := opG_of open_con fun s hs => by
  show (bif Nat.ble 3 s.size && Nat.ble s.size 100000 then some (openV s) else none) = _
  rw [hs]; rfl
theorem opG_r : PureOk Tryz.prog 26 (opC 90000) (opG kdI dtI opens) := opG_of ropen_con fun s hs => by
  simp only [Bool.and_eq_true] at hs
  show (bif Nat.ble s.size 90000 then some (openV s) else none) = _
  rw [hs.2]; rfl
end Go.Proofs.YtdojnnlhaiennaaGreat.Cr

/- Frames of a stream, as plain bytes. Conditions: none. -/
namespace Go.Proofs.YtdojnnlhaiennaaGreat.Cr
open Go Go.Proofs.YtdojnnlhaiennaaGreat.Ae Go.Proofs.YtdojnnlhaiennaaGreat.Fx

/-- What is left of bytes without the first k. -/
def tailB (t : ByteArray) (k : Nat) : ByteArray := t.extract k t.size
theorem tail_l (t : ByteArray) (k : Nat) : (tailB t k).data.toList = t.data.toList.drop k := by
  unfold tailB
  rw [ext_l, List.take_of_length_le]
  rw [List.length_drop, Array.length_toList]
  exact Nat.le_refl _
theorem len_l (t : ByteArray) : t.data.toList.length = t.size := by rw [Array.length_toList]; rfl
theorem tail_size (t : ByteArray) (k : Nat) : (tailB t k).size = t.size - k := by rw [← len_l, tail_l, List.length_drop, len_l]
theorem tail_tail (t : ByteArray) (a b : Nat) : tailB (tailB t a) b = tailB t (a + b) := by
  refine ba_ext ?_
  rw [tail_l, tail_l, tail_l, List.drop_drop]
theorem tail_zero (t : ByteArray) : tailB t 0 = t := ba_ext (by rw [tail_l, List.drop_zero])
theorem byteI_get (t : ByteArray) (i : Nat) : byteI t i = (((t.data.toList[i]?).getD 0).toNat : Int) := by
  unfold byteI
  rw [Array.getElem?_toList, Array.getD_eq_getD_getElem?]
theorem tail_byte (t : ByteArray) (a k : Nat) : byteI (tailB t a) k = byteI t (a + k) := by
  rw [byteI_get, byteI_get, tail_l, List.getElem?_drop]
abbrev Frm := Int × ByteArray
structure ScR where
  fs : List Frm
  left : ByteArray
  over : Nat
def frm (x : ByteArray) : Frm := (kdI x, dtI x)
/-- How many bytes a frame has that begins here. -/
def fln (t : ByteArray) : Nat := (byteI t 2).toNat + 5
def scanP (t : ByteArray) (fs : List Frm) (over : Nat) : ScR :=
  if t.size = 0 then ⟨fs, eS, over⟩
  else if byteI t 0 ≠ 165 then scanP (tailB t 1) fs (over + 1)
  else if t.size < 3 then ⟨fs, t, over⟩
  else if fln t > 69 then scanP (tailB t 1) fs (over + 1)
  else if t.size < fln t then ⟨fs, t, over⟩
  else if opens (t.extract 0 (fln t)) = true then scanP (tailB t (fln t)) (fs ++ [frm (t.extract 0 (fln t))]) over
  else scanP (tailB t 1) fs (over + 1)
termination_by t.size
decreasing_by
  all_goals rw [tail_size]
  all_goals (try unfold fln)
  all_goals omega

/-! ### To the first mark -/
abbrev idxB (t : ByteArray) : Int := Lib.indexByte t.data.toList 165
theorem cons_l (t : ByteArray) (h : t.size ≠ 0) : ∃ b, t.data.toList = b :: (tailB t 1).data.toList ∧ byteI t 0 = (b.toNat : Int) := by
  rw [tail_l]
  cases hl : t.data.toList with
  | nil => exact absurd (by rw [← len_l, hl]; rfl) h
  | cons b l => exact ⟨b, by simp, byteI_at t 0 b (by rw [hl]; rfl)⟩
theorem scan_idx : ∀ (n : Nat) (t : ByteArray) (fs : List Frm) (over : Nat), t.size = n →
    (idxB t = -1 ∧ scanP t fs over = ⟨fs, eS, over + t.size⟩) ∨ (∃ p : Nat, idxB t = p ∧ p < t.size ∧ byteI t p = 165 ∧ scanP t fs over = scanP (tailB t p) fs (over + p))
  | 0, t, fs, over, h => by
    left
    have hl : t.data.toList = [] := List.eq_nil_of_length_eq_zero (by rw [len_l, h])
    constructor
    · show Lib.indexByte t.data.toList 165 = -1
      rw [hl]; rfl
    · rw [scanP, if_pos h, h]
      rfl
  | n + 1, t, fs, over, h => by
    obtain ⟨b, h1, h2⟩ := cons_l t (by omega)
    have hs : (tailB t 1).size = n := by rw [tail_size]; omega
    by_cases hb : b = 165
    · right
      refine ⟨0, ?_, by omega, ?_, ?_⟩
      · show Lib.indexByte t.data.toList 165 = 0
        rw [h1, hb]; rfl
      · rw [h2, hb]; rfl
      · rw [tail_zero]; rfl
    · have hne : byteI t 0 ≠ 165 := by
        rw [h2]
        intro h
        apply hb
        have : b.toNat = 165 := by omega
        exact UInt8.toNat_inj.1 this
      have hb' : (b == 165) = false := by simpa using hb
      have hidx : idxB t = if idxB (tailB t 1) == -1 then -1 else idxB (tailB t 1) + 1 := by
        show Lib.indexByte t.data.toList 165 = _
        rw [h1, Lib.indexByte, hb']
        rfl
      have hsc : scanP t fs over = scanP (tailB t 1) fs (over + 1) := by
        rw [scanP, if_neg (by omega), if_pos hne]
      rcases scan_idx n (tailB t 1) fs (over + 1) hs with ⟨i1, i2⟩ | ⟨p, i1, i2, i3, i4⟩
      · left
        refine ⟨by rw [hidx, i1]; rfl, ?_⟩
        rw [hsc, i2, hs, h]
        congr 1
        omega
      · right
        refine ⟨p + 1, ?_, by omega, ?_, ?_⟩
        · rw [hidx, i1]
          have : ((p : Int) == -1) = false := by
            rw [beq_eq_false_iff_ne]; omega
          rw [this]
          show (p : Int) + 1 = ((p + 1 : Nat) : Int)
          omega
        · rw [tail_byte] at i3
          rw [Nat.add_comm]; exact i3
        · rw [hsc, i4, tail_tail]
          congr 1
          · congr 1; omega
          · omega
end Go.Proofs.YtdojnnlhaiennaaGreat.Cr

/- The reference's Scan: a contract. Conditions: none. -/
namespace Go.Proofs.YtdojnnlhaiennaaGreat.Cr
open Go Go.Proofs.YtdojnnlhaiennaaGreat.Ae Go.Proofs.YtdojnnlhaiennaaGreat.Fx

section
variable (s : ByteArray) (n : Nat) (g : Nat → Int) (kd : ByteArray → Int) (dt : ByteArray → ByteArray) (ok : ByteArray → Bool)
end

/-! ### A round, by the plain one -/
section
variable (s : ByteArray)
end
end Go.Proofs.YtdojnnlhaiennaaGreat.Cr

/- The reference's Scan: its loop. Conditions: none. -/
namespace Go.Proofs.YtdojnnlhaiennaaGreat.Cr
open Go Go.Proofs.YtdojnnlhaiennaaGreat.Ae Go.Proofs.YtdojnnlhaiennaaGreat.Fx

/-! ### Rows of frames -/
def cellsF : List Frm → List AV
  | [] => []
  | f :: l => .int .i64 f.1 :: .str f.2 :: cellsF l
theorem cellsF_len : ∀ l : List Frm, (cellsF l).length = l.length * 2
  | [] => rfl
  | f :: l => by simp only [cellsF, List.length_cons, cellsF_len l]; omega
theorem cellsF_app : ∀ (l : List Frm) (f : Frm), cellsF (l ++ [f]) = cellsF l ++ [.int .i64 f.1, .str f.2]
  | [], f => rfl
  | g :: l, f => by simp only [cellsF, List.cons_append, cellsF_app l f]
theorem cellsF_trunc (L : Nat) : ∀ l : List Frm, AV.truncL L (cellsF l) = cellsF l
  | [] => rfl
  | f :: l => by simp only [cellsF, AV.truncL, AV.trunc, cellsF_trunc L l]
theorem cellsF_flat : ∀ l : List Frm, AV.noPtrL (cellsF l) = true
  | [] => rfl
  | f :: l => by simp only [cellsF, AV.noPtrL, AV.noPtr, cellsF_flat l, Bool.and_self]
def lvF : List Frm → AV
  | [] => .nils
  | f :: l => .own 0 (f :: l).length
def HF : List Frm → List AB
  | [] => []
  | f :: l => [.rowz 2 (cellsF (f :: l)) 53, .dead]
/-- Slots as they are, new blocks forgotten. -/
theorem keepF {w0 : World} {n : Nat} {a : Act} {w : World} {T : List (Nat × AV)} {X : List AB} (fs : List Frm) (hs : At [] w0 n T (HF fs ++ X) a w) (T2 : List (Nat × AV)) (hT : okT (HF fs).length T T2) : At [] w0 n T2 (HF fs) a w := by
  refine hs.keep (Nat.zero_le _) (by simp) hT ?_
  cases fs with
  | nil => exact trivial
  | cons f l => exact ⟨.inr ⟨rfl, cellsF_trunc _ _, by show (1 : Nat) < 2; omega⟩, .inl rfl, trivial⟩
theorem lvF_trunc (fs : List Frm) : (lvF fs).trunc (HF fs).length = lvF fs := by
  cases fs <;> rfl

section
variable (s : ByteArray)
end
end Go.Proofs.YtdojnnlhaiennaaGreat.Cr

/- Calls that make blocks and look at nothing; calls that work on the first blocks of a heap. Conditions: none. -/
namespace Go.Proofs.YtdojnnlhaiennaaGreat.Ae
open Go

mutual
/-- The numbering begins k later. -/
def AV.shift (k : Nat) : AV → AV
  | .ptr i o => .ptr (k + i) o
  | .slice i o l c => .slice (k + i) o l c
  | .own i n => .own (k + i) n
  | .view i o n => .view (k + i) o n
  | .map i => .map (k + i)
  | .agg l => .agg (AV.shiftL k l)
  | .tup l => .tup (AV.shiftL k l)
  | .fn f l => .fn f (AV.shiftL k l)
  | v => v
def AV.shiftL (k : Nat) : List AV → List AV
  | [] => []
  | v :: l => v.shift k :: AV.shiftL k l
end
theorem get_later {m x : List Nat} {i b : Nat} (h : x[i]? = some b) : (m ++ x)[m.length + i]? = some b := by
  rw [List.getElem?_append_right (by omega), Nat.add_sub_cancel_left]; exact h
mutual
theorem R_shift {m x : List Nat} : ∀ (v : AV) {V : Value}, R x v V → R (m ++ x) (v.shift m.length) V
  | .int .., _, h => by simpa only [R, AV.shift] using h
  | .bool _, _, h => by simpa only [R, AV.shift] using h
  | .str _, _, h => by simpa only [R, AV.shift] using h
  | .ptr .., _, h => by simp only [R, AV.shift] at h ⊢; obtain ⟨b, h1, h2⟩ := h; exact ⟨b, get_later h1, h2⟩
  | .nilp, _, h => by simpa only [R, AV.shift] using h
  | .slice .., _, h => by simp only [R, AV.shift] at h ⊢; obtain ⟨b, h1, h2⟩ := h; exact ⟨b, get_later h1, h2⟩
  | .nils, _, h => by simpa only [R, AV.shift] using h
  | .own .., _, h => by simp only [R, AV.shift] at h ⊢; obtain ⟨b, c, h1, h2, h3⟩ := h; exact ⟨b, c, get_later h1, get_later h2, h3⟩
  | .view .., _, h => by simp only [R, AV.shift] at h ⊢; obtain ⟨b, c, h1, h2⟩ := h; exact ⟨b, c, get_later h1, h2⟩
  | .agg l, _, h => by simp only [R, AV.shift] at h ⊢; obtain ⟨b, h1, h2⟩ := h; exact ⟨b, h1, RL_shift l h2⟩
  | .tup l, _, h => by simp only [R, AV.shift] at h ⊢; obtain ⟨b, h1, h2⟩ := h; exact ⟨b, h1, RL_shift l h2⟩
  | .fn _ l, _, h => by simp only [R, AV.shift] at h ⊢; obtain ⟨b, h1, h2⟩ := h; exact ⟨b, h1, RL_shift l h2⟩
  | .nilfn, _, h => by simpa only [R, AV.shift] using h
  | .map _, _, h => by simp only [R, AV.shift] at h ⊢; obtain ⟨b, h1, h2⟩ := h; exact ⟨b, get_later h1, h2⟩
  | .strF .., _, h => by simpa only [R, AV.shift] using h
  | .intF .., _, h => by simpa only [R, AV.shift] using h
  | .strG .., _, h => by simpa only [R, AV.shift] using h
  | .any, _, _ => by simp only [R, AV.shift]
theorem RL_shift {m x : List Nat} : ∀ (l : List AV) {Vs : List Value}, RL x l Vs → RL (m ++ x) (AV.shiftL m.length l) Vs
  | [], _, h => by simpa only [RL, AV.shiftL] using h
  | v :: l, _, h => by
    obtain ⟨V, Vs', h1, h2, h3⟩ := RL_cons.1 h
    exact RL_cons.2 ⟨V, Vs', h1, R_shift v h2, RL_shift l h3⟩
end
theorem capAt_later {m x : List Nat} {i b : Nat} {o : Obj} {B : AB} (h : capAt x i b o B) : capAt (m ++ x) (m.length + i) b o B := by
  cases B with
  | row l t => exact fun cs t fz e => get_later (h cs t fz e)
  | rowz z l t => exact fun cs t fz e => (h cs t fz e).imp fun c h => ⟨get_later h.1, h.2⟩
  | _ => trivial
theorem HR.nil_ (w : World) : HR [] [] w := ⟨rfl, by simp, fun i B hB _ => by simp at hB⟩
/-- What a call makes beside what is there. -/
theorem HR.beside {m : List Nat} {H : List AB} {w w' : World} (hH : HR m H w) {x : List Nat} {X : List AB} (hx : HR x X w') (he : Ext [] w x w') (hf : ∀ B ∈ X, B.flatB) : HR (m ++ x) (H ++ X) w' := by
  obtain ⟨y, hy, hys⟩ := he.pre
  rw [List.nil_append] at hy
  subst hy
  have fresh : ∀ b ∈ x, w.heap.size ≤ b := fun b hb => by
    rcases hys b hb with h | h
    · exact h
    · cases h
  refine hH.grow hx.len (fun i k A h1 h2 h3 => he.block k (hH.lt h1 h2 h3) (by simp)) (fun j b B h1 h2 h3 i A h4 h5 h6 => ?_) (fun i j b B C h1 h2 h3 h4 h5 h6 => hx.nodup i j b B C h1 h2 h3 h4 h5 h6) (fun j B h1 h2 => ?_)
  · have := fresh b (List.mem_of_getElem? h1)
    have := hH.lt h4 h5 h6
    omega
  · obtain ⟨b, o, g1, g2, g3, g4⟩ := hx.all j B h1 h2
    refine ⟨b, o, g1, g2, RB_flat g3 (hf B (List.mem_of_getElem? h1)), ?_⟩
    rw [← hH.len]
    exact capAt_later g4
theorem Ext.beside {m x : List Nat} {w w' : World} (he : Ext [] w x w') : Ext m w (m ++ x) w' := by
  obtain ⟨y, hy, hys⟩ := he.pre
  rw [List.nil_append] at hy
  subst hy
  exact ⟨⟨x, rfl, fun b hb => .inl ((hys b hb).resolve_right (by simp))⟩, he.os, he.tape, he.output, he.size, fun k hk _ => he.block k hk (by simp)⟩
/-- A call that looks at nothing and makes blocks. -/
def madeF (F : List AV → Option (AV × List AB)) (args : List AV) (H : List AB) : Option (AV × List AB) :=
  match F args with
  | some (v, X) => some (v.shift H.length, H ++ X)
  | none => none
theorem made_of {P : Program} {f : FuncId} {C : List AV → Bool} {F : List AV → Option (AV × List AB)}
    (h : ∀ args v X, C args = true → F args = some (v, X) → AV.noPtrL args = true ∧ (∀ B ∈ X, B.flatB) ∧ ∀ (Args : Array Value) (w : World), RL [] args Args.toList →
      Calls P f Args w fun e w' => ∃ V x, e = .returned V ∧ R x v V ∧ HR x X w' ∧ Ext [] w x w') : EffOk P f C (madeF F) := by
  intro args H v H' hC hF m Args w hA hH
  unfold madeF at hF
  split at hF
  · rename_i v0 X hF0
    cases hF
    obtain ⟨h1, h2, h3⟩ := h args v0 X hC hF0
    refine (h3 Args w (RL_noPtr args h1 hA)).mono fun e w' ⟨V, x, e1, e2, e3, e4⟩ => ?_
    refine ⟨V, m ++ x, e1, ?_, hH.beside e3 e4 h2, e4.beside⟩
    rw [← hH.len]
    exact R_shift v0 e2
  · cases hF
/-- A call whose body is walked, that looks at nothing and makes blocks. -/
theorem made_at {P : Program} {f : FuncId} {nt : Nat} {res : List ResultVar} (hb : hasBody P f nt res = true) {C : List AV → Bool} {F : List AV → Option (AV × List AB)}
    (h : ∀ args v X, C args = true → F args = some (v, X) → AV.noPtrL args = true ∧ (∀ B ∈ X, B.flatB) ∧ ∃ args', (∀ Vs, RL [] args Vs → RL [] args' Vs) ∧ args'.length ≤ nt ∧ ∀ w0 a, At [] w0 nt (mkT 0 args') [] a w0 →
      (bodyOf P f).wp P (fun e a' w' => (e = .normal ∨ e = .ret) ∧ ∃ T' vs, At [] w0 nt T' X a' w' ∧ ares P T' X res = some vs ∧ ∀ m V, R m (tupOf vs) V → R m v V) a w0) : EffOk P f C (madeF F) := by
  refine made_of fun args v X hC hF => ?_
  obtain ⟨h1, h3, args', h5, h2, h4⟩ := h args v X hC hF
  obtain ⟨fn, hfn, hbody, rfl, rfl, _⟩ := hasBody_ok hb
  refine ⟨h1, h3, fun Args w hA => ?_⟩
  refine calls_at hfn hbody h2 (h5 _ hA) (HR.nil_ w) fun a ha => wp_mono (h4 w a ha) ?_
  rintro e a' w' ⟨g1, T', vs, g2, g3, g4⟩
  exact ⟨g1, T', X, vs, g2, g3, fun V m' hV hH hE => ⟨V, m', rfl, g4 m' V hV, hH, hE⟩⟩
end Go.Proofs.YtdojnnlhaiennaaGreat.Ae

/- The reference's Scan: a contract. Conditions: none. -/
namespace Go.Proofs.YtdojnnlhaiennaaGreat.Cr
open Go Go.Proofs.YtdojnnlhaiennaaGreat.Ae Go.Proofs.YtdojnnlhaiennaaGreat.Fx

def scC (lim : Nat) : List AV → Bool
  | [.str s] => Nat.ble s.size lim
  | _ => false
def scO : List AV → Option (AV × List AB)
  | [.str s] => some (.tup [lvF (scanP s [] 0).fs, .str (scanP s [] 0).left, .int .i64 (scanP s [] 0).over], HF (scanP s [] 0).fs)
  | _ => none
theorem HF_flat (fs : List Frm) : ∀ B ∈ HF fs, B.flatB := by
  intro B hB
  cases fs with
  | nil => cases hB
  | cons f l =>
    rcases List.mem_cons.1 hB with rfl | hB
    · exact cellsF_flat _
    · rcases List.mem_cons.1 hB with rfl | hB
      · trivial
      · cases hB
end Go.Proofs.YtdojnnlhaiennaaGreat.Cr

/- The program's Scan: a contract. Conditions: none. -/
namespace Go.Proofs.YtdojnnlhaiennaaGreat.Cr
open Go Go.Proofs.YtdojnnlhaiennaaGreat.Ae Go.Proofs.YtdojnnlhaiennaaGreat.Fx

def ixF (ix : ByteArray → Int → Int) : List AV → Option AV
  | [.str t, .int .u8 c] => some (.int .i64 (ix t c))
  | [.strG t _ _, .int .u8 c] => some (.int .i64 (ix t c))
  | _ => none
def ixI (t : ByteArray) (c : Int) : Int := Lib.indexByte t.data.toList c.toNat.toUInt8
theorem ix_con : ExtOk Tryz.prog 200 anyArgs (ixF ixI) := by
  intro args v hC hF m Args hA
  have key : ∀ (t : ByteArray) (c : Int) (w : World), (callFunc 200 #[.string t, .int .u8 c]).run Tryz.prog w = .ok (.value (.int .i64 (ixI t c))) w := by
    intro t c w
    rw [run_callFunc_extern (fn := Tryz.f200) (e := Extern.BytealgIndexByte.indexByte) Tryz.func200 (by kernel_rfl) (by kernel_rfl) (by kernel_rfl) (by kernel_rfl), Lib.run_indexByteString]
    rfl
  unfold ixF at hF
  split at hF
  · rename_i t c
    cases hF
    obtain ⟨V, Vs, e1, e2, e3⟩ := RL_cons.1 hA
    obtain ⟨U, Us, rfl, f2, f3⟩ := RL_cons.1 e3
    rw [RL_nil.1 f3] at e1
    simp only [R] at e2 f2
    subst e2; subst f2
    have : Args = #[.string t, .int .u8 c] := Array.toList_inj.1 e1
    subst this
    exact ⟨_, R_int _ _ _, fun w => key t c w⟩
  · rename_i t n g c
    cases hF
    obtain ⟨V, Vs, e1, e2, e3⟩ := RL_cons.1 hA
    obtain ⟨U, Us, rfl, f2, f3⟩ := RL_cons.1 e3
    rw [RL_nil.1 f3] at e1
    simp only [R] at e2 f2
    obtain ⟨e2, _⟩ := e2
    subst e2; subst f2
    have : Args = #[.string t, .int .u8 c] := Array.toList_inj.1 e1
    subst this
    exact ⟨_, R_int _ _ _, fun w => key t c w⟩
  · cases hF
def envPS (ix : ByteArray → Int → Int) (kd : ByteArray → Int) (dt : ByteArray → ByteArray) (ok : ByteArray → Bool) : Env :=
  [(110, .text), (171, .text), (200, .ext anyArgs (ixF ix)), (111, .pure (opC 100000) (opG kd dt ok))]
theorem ok_PS : EnvOk Tryz.prog (envPS ixI kdI dtI opens) :=
  EnvOk.t (EnvOk.t (EnvOk.x (EnvOk.p ok_nil (enter_at (nt := 56) (res := [.cell 2 53, .tmp 3]) (by kernel_rfl)) opG_p) ix_con) (enter_of Tryz.func171 (by kernel_rfl) rfl)) (enter_of Tryz.func110 (by kernel_rfl) rfl)
noncomputable def pscB : Code := Code.nav [1, 1, 1, 2, 3, 2] (bodyOf Tryz.prog 67)

section
variable (t : ByteArray) (n : Nat) (g : Nat → Int) (ix : ByteArray → Int → Int) (kd : ByteArray → Int) (dt : ByteArray → ByteArray) (ok : ByteArray → Bool)
abbrev psI (lv : AV) (over : Int) : List (Nat × AV) := [(0, .strG t n g), (5, lv), (6, .int .i64 over)]
theorem psc_0 (lv : AV) (H : List AB) (over : Int) : acode Tryz.prog (envPS ix kd dt ok) 100 69 (Code.nav [0] pscB) (psI t n g lv over) H (keepK [0, 5, 6, 7]) = some (.normal, [(0, .strG t n g), (5, lv), (6, .int .i64 over), (7, .int .i64 (ix t 165))], H) := by kernel_rfl
theorem psc_1 (lv : AV) (H : List AB) (over q : Int) : acode Tryz.prog (envPS ix kd dt ok) 100 69 (Code.nav [1, 0] pscB) [(0, .strG t n g), (5, lv), (6, .int .i64 over), (7, .int .i64 q)] H (keepK [0, 2, 3, 4, 5, 6, 7]) =
    bif decide (q < 0) then some (.ret, [(0, .strG t n g), (2, lv), (3, .str eS), (4, .int .i64 (wr .i64 (over + (n : Int)))), (5, lv), (6, .int .i64 over), (7, .int .i64 q)], H)
    else some (.normal, [(0, .strG t n g), (2, .any), (3, .any), (4, .any), (5, lv), (6, .int .i64 over), (7, .int .i64 q)], H) := by kernel_rfl
theorem psc_2 (lv : AV) (H : List AB) (over q : Int) : acode Tryz.prog (envPS ix kd dt ok) 100 69 (Code.nav [1, 1, 0] pscB) [(0, .strG t n g), (2, .any), (3, .any), (4, .any), (5, lv), (6, .int .i64 over), (7, .int .i64 q)] H (keepK [0, 5, 6]) =
    bif leN q n then some (.normal, [(0, .strG (t.extract q.toNat n) (n - q.toNat) fun i => g (q.toNat + i)), (5, lv), (6, .int .i64 (wr .i64 (over + q)))], H) else none := by kernel_rfl
abbrev psE : Int := wr .i64 (wr .i64 (g 2) + 5)
abbrev psM : Int := if (n : Int) < psE g then (n : Int) else psE g
abbrev psX : ByteArray := t.extract 0 (psM n g).toNat
abbrev psR (lv : AV) (over : Int) : List (Nat × AV) := [(0, .strG t n g), (2, lv), (3, .strG t n g), (4, .int .i64 over), (5, lv), (6, .int .i64 over)]
def psTree (lv : AV) (H : List AB) (over : Int) (app : Option (Ex × List (Nat × AV) × List AB)) : Option (Ex × List (Nat × AV) × List AB) :=
  bif decide ((n : Int) < 3) then some (.ret, psR t n g lv over, H)
  else bif ltN 2 n then
    bif (bif decide (psE g > (n : Int)) then decide (psE g ≤ 69) else false) then some (.ret, psR t n g lv over, H)
    else bif leN (psM n g) n then
      bif opC 100000 [.strG (psX t n g) ((psM n g).toNat - 0) fun k => g (0 + k)] then
        bif ok (psX t n g) then app
        else bif leN 1 n then some (.normal, [(0, .strG (t.extract 1 n) (n - 1) fun i => g (1 + i)), (2, .any), (3, .any), (4, .any), (5, lv), (6, .int .i64 (wr .i64 (over + 1)))], H ++ [.cells [.int .i64 (kd (psX t n g)), .str (dt (psX t n g))] 53])
        else none
      else none
    else none
  else none
abbrev psA (lv : AV) (over : Int) : List (Nat × AV) := [(0, .strG (t.extract (psE g).toNat n) (n - (psE g).toNat) fun i => g ((psE g).toNat + i)), (2, .any), (3, .any), (4, .any), (5, lv), (6, .int .i64 over)]
theorem psc_nil (over : Int) : acode Tryz.prog (envPS ix kd dt ok) 100 69 (Code.nav [1, 1, 1] pscB) (psI t n g .nils over) [] (keepK [0, 2, 3, 4, 5, 6]) =
    psTree t n g kd dt ok .nils [] over (bif leN (psE g) n then some (.normal, psA t n g (.own 2 1) over, [.cells [.int .i64 (kd (psX t n g)), .str (dt (psX t n g))] 53, .cells [.int .i64 (kd (psX t n g)), .str (dt (psX t n g))] 53, .rowz 2 [.int .i64 (kd (psX t n g)), .str (dt (psX t n g))] 53, .dead]) else none) := by kernel_rfl
theorem psc_own (over : Int) (l : List AV) (k : Nat) : acode Tryz.prog (envPS ix kd dt ok) 100 69 (Code.nav [1, 1, 1] pscB) (psI t n g (.own 0 k) over) [.rowz 2 l 53, .dead] (keepK [0, 2, 3, 4, 5, 6]) =
    psTree t n g kd dt ok (.own 0 k) [.rowz 2 l 53, .dead] over (bif Nat.beq 2 2 && Nat.beq 53 53 && Nat.beq l.length (k * 2) && Nat.ble k 100000 then
      bif leN (psE g) n then some (.normal, psA t n g (.own 4 (k + 1)) over, [.dead, .dead, .cells [.int .i64 (kd (psX t n g)), .str (dt (psX t n g))] 53, .cells [.int .i64 (kd (psX t n g)), .str (dt (psX t n g))] 53, .rowz 2 (l ++ [.int .i64 (kd (psX t n g)), .str (dt (psX t n g))]) 53, .dead]) else none else none) := by kernel_rfl
end
section
variable (t : ByteArray)
def psTree' (lv : AV) (H : List AB) (over : Nat) (app : Option (Ex × List (Nat × AV) × List AB)) : Option (Ex × List (Nat × AV) × List AB) :=
  if t.size < 3 then some (.ret, psR t t.size (byteI t) lv over, H)
  else if fln t > 69 then some (.normal, [(0, .strG (tailB t 1) (tailB t 1).size (byteI (tailB t 1))), (2, .any), (3, .any), (4, .any), (5, lv), (6, .int .i64 ((over + 1 : Nat) : Int))], H ++ [.cells [.int .i64 (kdI (psX t t.size (byteI t))), .str (dtI (psX t t.size (byteI t)))] 53])
  else if t.size < fln t then some (.ret, psR t t.size (byteI t) lv over, H)
  else if opens (t.extract 0 (fln t)) = true then app
  else some (.normal, [(0, .strG (tailB t 1) (tailB t 1).size (byteI (tailB t 1))), (2, .any), (3, .any), (4, .any), (5, lv), (6, .int .i64 ((over + 1 : Nat) : Int))], H ++ [.cells [.int .i64 (kdI (psX t t.size (byteI t))), .str (dtI (psX t t.size (byteI t)))] 53])
theorem psE_eq : psE (byteI t) = ((fln t : Nat) : Int) := by
  have := byteI_lt t 2
  unfold psE fln
  rw [w_of (z := byteI t 2) (by omega), w_of (by omega)]
  omega
theorem tail_fun (k : Nat) : (fun i => byteI t (k + i)) = byteI (tailB t k) := by funext i; rw [tail_byte]
theorem ext_size (i j : Nat) (h : j ≤ t.size) : (t.extract i j).size = j - i := by
  rw [← len_l, ext_l, List.length_take, List.length_drop, len_l]
  omega
theorem ext_byte (j k : Nat) (h : k < j) : byteI (t.extract 0 j) k = byteI t k := by
  rw [byteI_get, byteI_get, ext_l, List.drop_zero, List.getElem?_take, if_pos (by omega)]
theorem psTree_eq (lv : AV) (H : List AB) (over : Nat) (app : Option (Ex × List (Nat × AV) × List AB)) (hs : t.size ≤ 90000) (ho : over ≤ 90000) :
    psTree t t.size (byteI t) kdI dtI opens lv H over app = psTree' t lv H over app := by
  have hb := byteI_lt t 2
  have hf : (fln t : Int) = byteI t 2 + 5 := by unfold fln; omega
  have hz1 := tail_size t 1
  have hM : psM t.size (byteI t) = ((min t.size (fln t) : Nat) : Int) := by
    unfold psM
    rw [psE_eq]
    split <;> omega
  have hX : psX t t.size (byteI t) = t.extract 0 (min t.size (fln t)) := by unfold psX; rw [hM]; rfl
  have nof : fln t > 69 ∨ t.size < fln t → opens (t.extract 0 (min t.size (fln t))) = false := by
    intro h
    refine decide_eq_false fun ⟨a1, a2, a3, a4, a5⟩ => ?_
    rw [ext_size t 0 _ (by omega)] at a3 a4
    rw [ext_byte t _ 2 (by omega)] at a3
    omega
  unfold psTree psTree'
  rw [psE_eq, show wr .i64 ((over : Int) + 1) = ((over + 1 : Nat) : Int) by rw [w_of (by omega)]; omega]
  rw [tail_fun t 1, show t.extract 1 t.size = tailB t 1 from rfl, ← hz1, hX, hM]
  generalize hF : fln t = f at *
  generalize kdI (t.extract 0 (min t.size f)) = kd
  generalize dtI (t.extract 0 (min t.size f)) = dt
  have hC : (2 < t.size) → opC 100000 [.strG (t.extract 0 (min t.size f)) (((min t.size f : Nat) : Int).toNat - 0) fun k => byteI t (0 + k)] = true := by
    intro h
    have h1 : Nat.ble 3 (((min t.size f : Nat) : Int).toNat - 0) = true := Nat.ble_eq_true_of_le (by rw [Int.toNat_natCast]; omega)
    have h2 : Nat.ble (((min t.size f : Nat) : Int).toNat - 0) 100000 = true := Nat.ble_eq_true_of_le (by rw [Int.toNat_natCast]; omega)
    unfold opC
    simp only
    rw [h1, h2]
    rfl
  generalize opC 100000 [.strG (t.extract 0 (min t.size f)) (((min t.size f : Nat) : Int).toNat - 0) fun k => byteI t (0 + k)] = c at *
  by_cases h2 : t.size < 3
  · rw [if_pos h2, decide_eq_true (by omega), bt]
  rw [if_neg h2, decide_eq_false (by omega), bf, ltN_of (by omega) (by omega), bt, leN_of (by omega) (by omega), bt, hC (by omega), bt, leN_of (by omega : (0 : Int) ≤ 1) (by omega), bt]
  by_cases h3 : f > 69
  · rw [if_pos h3, nof (.inl h3), decide_eq_false (by omega : ¬ (f : Int) ≤ 69), bf]
    cases decide ((f : Int) > (t.size : Int)) with
    | true => rw [bt, bf]
    | false => rw [bf, bf]
  rw [if_neg h3, decide_eq_true (by omega : (f : Int) ≤ 69)]
  by_cases h4 : t.size < f
  · rw [if_pos h4, decide_eq_true (by omega), bt, bt]
  rw [if_neg h4, decide_eq_false (by omega), bf, bf]
  rw [Nat.min_eq_right (by omega : f ≤ t.size)]
  cases opens (t.extract 0 f) with
  | true => rw [if_pos rfl, bt]
  | false => rw [if_neg (by simp), bf]
abbrev psJ (fs : List Frm) (over : Nat) : List (Nat × AV) := [(0, .strG t t.size (byteI t)), (5, lvF fs), (6, .int .i64 over)]
def psApp (fs : List Frm) (over : Nat) (x : ByteArray) (u : ByteArray) : Option (Ex × List (Nat × AV) × List AB) :=
  match fs with
  | [] => some (.normal, [(0, .strG u u.size (byteI u)), (2, .any), (3, .any), (4, .any), (5, .own 2 1), (6, .int .i64 over)], [.cells [.int .i64 (kdI x), .str (dtI x)] 53, .cells [.int .i64 (kdI x), .str (dtI x)] 53, .rowz 2 [.int .i64 (kdI x), .str (dtI x)] 53, .dead])
  | g :: l => some (.normal, [(0, .strG u u.size (byteI u)), (2, .any), (3, .any), (4, .any), (5, .own 4 ((g :: l).length + 1)), (6, .int .i64 over)], [.dead, .dead, .cells [.int .i64 (kdI x), .str (dtI x)] 53, .cells [.int .i64 (kdI x), .str (dtI x)] 53, .rowz 2 (cellsF (g :: l) ++ [.int .i64 (kdI x), .str (dtI x)]) 53, .dead])
theorem ps_round (fs : List Frm) (over : Nat) (hs : t.size ≤ 90000) (ho : over ≤ 90000) (hf : fs.length ≤ 90000) :
    ∃ app, (fln t ≤ t.size → app = psApp fs over (t.extract 0 (fln t)) (tailB t (fln t))) ∧ acode Tryz.prog (envPS ixI kdI dtI opens) 100 69 (Code.nav [1, 1, 1] pscB) (psJ t fs over) (HF fs) (keepK [0, 2, 3, 4, 5, 6]) = psTree' t (lvF fs) (HF fs) over app := by
  have hX : fln t ≤ t.size → psX t t.size (byteI t) = t.extract 0 (fln t) := by
    intro h
    unfold psX psM
    rw [psE_eq, if_neg (by omega)]
    rfl
  cases fs with
  | nil =>
    refine ⟨_, ?_, (psc_nil t t.size (byteI t) ixI kdI dtI opens over).trans (psTree_eq t _ _ over _ hs ho)⟩
    intro h
    rw [hX h]
    unfold psA
    rw [psE_eq, leN_of (by omega) (by omega), Int.toNat_natCast, tail_fun, ← tail_size]
    rfl
  | cons g l =>
    refine ⟨_, ?_, (psc_own t t.size (byteI t) ixI kdI dtI opens over (cellsF (g :: l)) (g :: l).length).trans (psTree_eq t _ _ over _ hs ho)⟩
    intro h
    rw [hX h]
    unfold psA
    rw [psE_eq, leN_of (by omega) (by omega), Int.toNat_natCast, tail_fun, ← tail_size, cellsF_len, Nat.ble_eq_true_of_le (by omega)]
    simp only [Nat.beq_refl, Bool.and_self]
    rfl
theorem ps_app {w0 : World} {a : Act} {w : World} (fs : List Frm) (over : Nat) (x u : ByteArray) {T' : List (Nat × AV)} {H' : List AB} (h : psApp fs over x u = some (.normal, T', H')) (hs : At [] w0 69 T' H' a w) :
    At [] w0 69 (psJ u (fs ++ [frm x]) over) (HF (fs ++ [frm x])) a w := by
  cases fs with
  | nil =>
    cases h
    refine At.drop (H1 := [_, _]) (H2 := [_, _]) hs ?_ ?_
    · exact ⟨⟨_, rfl, .inl ⟨rfl, rfl⟩⟩, ⟨_, rfl, .inr (.inl ⟨0, 1, rfl, rfl⟩)⟩, ⟨_, rfl, .inl ⟨rfl, rfl⟩⟩, trivial⟩
    · intro B hB
      rcases List.mem_cons.1 hB with rfl | hB
      · exact cellsF_flat [frm x]
      · rcases List.mem_cons.1 hB with rfl | hB
        · trivial
        · cases hB
  | cons g l =>
    cases h
    have e : HF (g :: l ++ [frm x]) = [.rowz 2 (cellsF (g :: l) ++ [.int .i64 (kdI x), .str (dtI x)]) 53, .dead] := by
      show [AB.rowz 2 (cellsF (g :: l ++ [frm x])) 53, AB.dead] = _
      rw [cellsF_app]; rfl
    have e2 : lvF (g :: l ++ [frm x]) = .own 0 ((g :: l).length + 1) := by
      show AV.own 0 (g :: l ++ [frm x]).length = _
      rw [List.length_append]; rfl
    show At [] w0 69 [_, (5, lvF (g :: l ++ [frm x])), _] _ a w
    rw [e, e2]
    refine At.drop (H1 := [_, _, _, _]) (H2 := [_, _]) hs ?_ ?_
    · exact ⟨⟨_, rfl, .inl ⟨rfl, rfl⟩⟩, ⟨_, rfl, .inr (.inl ⟨0, (g :: l).length + 1, rfl, rfl⟩)⟩, ⟨_, rfl, .inl ⟨rfl, rfl⟩⟩, trivial⟩
    · intro B hB
      rcases List.mem_cons.1 hB with rfl | hB
      · show AV.noPtrL (cellsF (g :: l) ++ [.int .i64 (kdI x), .str (dtI x)]) = true
        have := cellsF_flat (g :: l ++ [frm x])
        rwa [cellsF_app] at this
      · rcases List.mem_cons.1 hB with rfl | hB
        · trivial
        · cases hB
theorem ps_keep {w0 : World} {a : Act} {w : World} {X : List AB} (fs : List Frm) (over : Nat) (x2 x3 x4 : AV) (hs : At [] w0 69 [(0, .strG t t.size (byteI t)), (2, x2), (3, x3), (4, x4), (5, lvF fs), (6, .int .i64 over)] (HF fs ++ X) a w) : At [] w0 69 (psJ t fs over) (HF fs) a w :=
  keepF fs hs _ ⟨⟨rfl, rfl⟩, ⟨rfl, lvF_trunc fs⟩, ⟨rfl, rfl⟩, trivial⟩
end
section
variable (s : ByteArray)
abbrev PI (w0 : World) (x : ByteArray × List Frm × Nat) (a : Act) (w : World) : Prop := x.1.size + x.2.1.length + x.2.2 ≤ s.size ∧ scanP x.1 x.2.1 x.2.2 = scanP s [] 0 ∧ At [] w0 69 (psJ x.1 x.2.1 x.2.2) (HF x.2.1) a w
theorem scan_at {t : ByteArray} {fs : List Frm} {over : Nat} (h : t.size ≠ 0) (h1 : byteI t 0 = 165) : scanP t fs over = if t.size < 3 then ⟨fs, t, over⟩
  else if fln t > 69 then scanP (tailB t 1) fs (over + 1)
  else if t.size < fln t then ⟨fs, t, over⟩
  else if opens (t.extract 0 (fln t)) = true then scanP (tailB t (fln t)) (fs ++ [frm (t.extract 0 (fln t))]) over
  else scanP (tailB t 1) fs (over + 1) := by
  rw [scanP, if_neg h, if_neg (fun h => h h1)]
theorem ps_loop (hs : s.size ≤ 90000) {w0 : World} {Q : Exit → Act → World → Prop}
    (hret : ∀ (r : ScR) (X : AV) a w, (∀ m V, R m X V → R m (.str r.left) V) → r = scanP s [] 0 → At [] w0 69 [(2, lvF r.fs), (3, X), (4, .int .i64 r.over)] (HF r.fs) a w → Q .ret a w)
    {a : Act} {w : World} (h : At [] w0 69 (psJ s [] 0) [] a w) : (Code.loop (Code.block 1 pscB)).wp Tryz.prog Q a w := by
  refine At.loop (PI s w0) (fun x => x.1.size) ?_ (s, [], 0) ⟨by simp, rfl, h⟩
  rintro ⟨t, fs, over⟩ a w ⟨hn, hsc, hA⟩
  simp only at hn hsc hA
  refine wp_blockN 1 (by kernel_rfl) (wp_as pscB (by kernel_rfl) ?_)
  refine wp_seqN (by kernel_rfl) (At.codeK ok_PS 100 [0, 5, 6, 7] (psc_0 t t.size (byteI t) ixI kdI dtI opens (lvF fs) (HF fs) over) hA fun a w hA => then_normal ?_)
  have h1 := psc_1 t t.size (byteI t) ixI kdI dtI opens (lvF fs) (HF fs) over (ixI t 165)
  rcases scan_idx t.size t fs over rfl with ⟨i1, i2⟩ | ⟨p, i1, i2, i3, i4⟩
  · have i1' : ixI t 165 = -1 := i1
    rw [decide_eq_true (by omega : ixI t 165 < 0)] at h1
    refine wp_seqN (by kernel_rfl) (wp_as (Code.nav [1, 0] pscB) (by kernel_rfl) (At.codeK ok_PS 100 [0, 2, 3, 4, 5, 6, 7] h1 hA fun a w hA => then_ret (inBlock_ret (then_ret ?_))))
    refine hret ⟨fs, eS, over + t.size⟩ (.str eS) a w (fun _ _ h => h) (i2.symm.trans hsc) ?_
    have hk := keepF (X := []) fs (by rw [List.append_nil]; exact hA) [(2, lvF fs), (3, .str eS), (4, .int .i64 (wr .i64 ((over : Int) + (t.size : Int))))] ⟨⟨rfl, lvF_trunc fs⟩, ⟨rfl, rfl⟩, ⟨rfl, rfl⟩, trivial⟩
    rwa [w_of (by omega), show (over : Int) + (t.size : Int) = ((over + t.size : Nat) : Int) by omega] at hk
  · have i1' : ixI t 165 = (p : Int) := i1
    rw [i1'] at hA h1
    rw [decide_eq_false (by omega : ¬ (p : Int) < 0)] at h1
    refine wp_seqN (by kernel_rfl) (wp_as (Code.nav [1, 0] pscB) (by kernel_rfl) (At.codeK ok_PS 100 [0, 2, 3, 4, 5, 6, 7] h1 hA fun a w hA => then_normal ?_))
    have h2 := psc_2 t t.size (byteI t) ixI kdI dtI opens (lvF fs) (HF fs) over p
    rw [leN_of (by omega) (by omega), Int.toNat_natCast, tail_fun, ← tail_size, show t.extract p t.size = tailB t p from rfl, w_of (by omega), show (over : Int) + (p : Int) = ((over + p : Nat) : Int) by omega] at h2
    refine wp_seqN (by kernel_rfl) (wp_as (Code.nav [1, 1, 0] pscB) (by kernel_rfl) (At.codeK ok_PS 100 [0, 5, 6] h2 hA fun a w hA => then_normal ?_))
    have hz := tail_size t p
    rw [i4] at hsc
    have hb0 : byteI (tailB t p) 0 = 165 := by rw [tail_byte]; exact i3
    generalize tailB t p = u at *
    generalize hov : over + p = ov at *
    have hA : At [] w0 69 (psJ u fs ov) (HF fs) a w := hA
    have hu : u.size ≠ 0 := by omega
    rw [scan_at hu hb0] at hsc
    obtain ⟨app, hap, hr⟩ := ps_round u fs ov (by omega) (by omega) (by omega)
    unfold psTree' at hr
    have hz1 := tail_size u 1
    have skip : ∀ {x2 x3 x4 : AV} {X : List AB}, scanP (tailB u 1) fs (ov + 1) = scanP s [] 0 → acode Tryz.prog (envPS ixI kdI dtI opens) 100 69 (Code.nav [1, 1, 1] pscB) (psJ u fs ov) (HF fs) (keepK [0, 2, 3, 4, 5, 6]) = some (.normal, [(0, .strG (tailB u 1) (tailB u 1).size (byteI (tailB u 1))), (2, x2), (3, x3), (4, x4), (5, lvF fs), (6, .int .i64 ((ov + 1 : Nat) : Int))], HF fs ++ X) →
        (Code.nav [1, 1, 1] pscB).wp Tryz.prog (Exit.inBlock 1 (Exit.then (fun a' w' => ∃ y : ByteArray × List Frm × Nat, y.1.size < t.size ∧ PI s w0 y a' w') Q)) a w := by
      intro x2 x3 x4 X h1 h3
      exact At.codeK ok_PS 100 [0, 2, 3, 4, 5, 6] h3 hA fun a w hA => inBlock_normal (then_normalN ⟨(tailB u 1, fs, ov + 1), by simp only; omega, by simp only; omega, h1, ps_keep _ fs _ _ _ _ hA⟩)
    have ret : (⟨fs, u, ov⟩ : ScR) = scanP s [] 0 → acode Tryz.prog (envPS ixI kdI dtI opens) 100 69 (Code.nav [1, 1, 1] pscB) (psJ u fs ov) (HF fs) (keepK [0, 2, 3, 4, 5, 6]) = some (.ret, psR u u.size (byteI u) (lvF fs) ov, HF fs) →
        (Code.nav [1, 1, 1] pscB).wp Tryz.prog (Exit.inBlock 1 (Exit.then (fun a' w' => ∃ y : ByteArray × List Frm × Nat, y.1.size < t.size ∧ PI s w0 y a' w') Q)) a w := by
      intro h1 h3
      refine At.codeK ok_PS 100 [0, 2, 3, 4, 5, 6] h3 hA fun a w hA => inBlock_ret (then_ret ?_)
      refine hret ⟨fs, u, ov⟩ (.strG u u.size (byteI u)) a w (fun m V h => ?_) h1 ?_
      · simp only [R] at h ⊢; exact h.1
      · exact keepF (X := []) fs (by rw [List.append_nil]; exact hA) _ ⟨⟨rfl, lvF_trunc fs⟩, ⟨rfl, rfl⟩, ⟨rfl, rfl⟩, trivial⟩
    refine wp_as (Code.nav [1, 1, 1] pscB) (by kernel_rfl) ?_
    by_cases g2 : u.size < 3
    · rw [if_pos g2] at hsc hr
      exact ret hsc hr
    rw [if_neg g2] at hsc hr
    by_cases g3 : fln u > 69
    · rw [if_pos g3] at hsc hr
      exact skip hsc hr
    rw [if_neg g3] at hsc hr
    by_cases g4 : u.size < fln u
    · rw [if_pos g4] at hsc hr
      exact ret hsc hr
    rw [if_neg g4] at hsc hr
    by_cases g5 : opens (u.extract 0 (fln u)) = true
    · rw [if_pos g5] at hsc hr
      have hfl : 5 ≤ fln u := by unfold fln; omega
      rw [hap (by omega)] at hr
      have hzf := tail_size u (fln u)
      obtain ⟨T', H', hT⟩ : ∃ T' H', psApp fs ov (u.extract 0 (fln u)) (tailB u (fln u)) = some (.normal, T', H') := by
        cases fs <;> exact ⟨_, _, rfl⟩
      rw [hT] at hr
      refine At.codeK ok_PS 100 [0, 2, 3, 4, 5, 6] hr hA fun a w hA => inBlock_normal (then_normalN ⟨(tailB u (fln u), fs ++ [frm (u.extract 0 (fln u))], ov), by simp only; omega, ?_, hsc, ps_app fs ov _ _ hT hA⟩)
      simp only [List.length_append, List.length_cons, List.length_nil]; omega
    · rw [if_neg g5] at hsc hr
      exact skip hsc hr
end
theorem sc_resX {m : List Nat} {lv X : AV} {t : ByteArray} {o : Int} {V : Value} (hX : ∀ m V, R m X V → R m (.str t) V) (h : R m (.tup [lv, X, .int .i64 o]) V) : R m (.tup [lv, .str t, .int .i64 o]) V := by
  simp only [R] at h ⊢
  obtain ⟨Vs, h1, h2⟩ := h
  obtain ⟨V1, Vs1, rfl, h3, h4⟩ := RL_cons.1 h2
  obtain ⟨V2, Vs2, rfl, h5, h6⟩ := RL_cons.1 h4
  exact ⟨_, h1, RL.cons h3 (RL.cons (hX m V2 h5) h6)⟩
theorem pscan_con : EffOk Tryz.prog 67 (scC 90000) (madeF scO) := by
  refine made_at (nt := 69) (res := [.tmp 2, .tmp 3, .tmp 4]) (by kernel_rfl) fun args v X hC hF => ?_
  unfold scC at hC
  split at hC
  · rename_i s
    have hs := Nat.le_of_ble_eq_true hC
    simp only [scO, Option.some.injEq, Prod.mk.injEq] at hF
    obtain ⟨rfl, rfl⟩ := hF
    refine ⟨rfl, HF_flat _, [.strG s s.size (byteI s)], RL_strG s, Nat.le_of_ble_eq_true rfl, fun w0 a h0 => ?_⟩
    refine wp_seqN (by kernel_rfl) (At.codeK ok_nil 100 [0] (e := .normal) (T' := [(0, .strG s s.size (byteI s))]) (H' := []) (by kernel_rfl) h0 fun a w hs => then_normal ?_)
    refine wp_seqN (by kernel_rfl) (At.codeK ok_nil 100 [0, 5] (e := .normal) (T' := [(0, .strG s s.size (byteI s)), (5, .nils)]) (H' := []) (by kernel_rfl) hs fun a w hs => then_normal ?_)
    refine wp_seqN (by kernel_rfl) (At.codeK ok_nil 100 [0, 5, 6] (e := .normal) (T' := [(0, .strG s s.size (byteI s)), (5, .nils), (6, .int .i64 0)]) (H' := []) (by kernel_rfl) hs fun a w hs => then_normal ?_)
    refine wp_blockN 0 (by kernel_rfl) (wp_as (.loop (.block 1 pscB)) (by kernel_rfl) ?_)
    refine ps_loop s ‹_› (fun r X a w hX hr hs => inBlock_ret ?_) hs
    subst hr
    exact ⟨.inr rfl, _, _, hs, rfl, fun m V h => sc_resX hX h⟩
  · cases hC
end Go.Proofs.YtdojnnlhaiennaaGreat.Cr

/- The contracts of the reference's words of 128 bits, as the interpreter finds them. Conditions: none. -/
namespace Go.Proofs.YtdojnnlhaiennaaGreat.Rx
open Go Go.Proofs.YtdojnnlhaiennaaGreat.Ae Go.Proofs.YtdojnnlhaiennaaGreat.Fx

abbrev anyA : List AV → Bool := fun _ => true
def w (h l : Int) : AV := .agg [.int .u64 h, .int .u64 l]

/-! ### add -/
def waH (h1 l1 h2 l2 : Int) : Int := bif decide (wr .u64 (l1 + l2) < l1) then wr .u64 (wr .u64 (h1 + h2) + 1) else wr .u64 (h1 + h2)
def waF (wa : Int → Int → Int → Int → Int) : List AV → Option AV
  | [.agg [.int .u64 h1, .int .u64 l1], .agg [.int .u64 h2, .int .u64 l2]] => some (w (wa h1 l1 h2 l2) (wr .u64 (l1 + l2)))
  | _ => none
theorem wa_ok : PureOk Tryz.prog 59 anyA (waF waH) := by
  refine pure_of (EnvOk.nil _) 40 _ _ _ ?_
  rintro args v - h
  unfold waF at h
  split at h <;> cases h
  exact ⟨rfl, rfl, by kernel_rfl⟩

/-! ### Times -/
section
variable (wa : Int → Int → Int → Int → Int)
def timesRaw : Nat → Int → Int → Int → Int → Int → Option AV
  | 0, sh, sl, _, _, b => bif decide (b > 0) then none else some (w sh sl)
  | k + 1, sh, sl, th, tl, b =>
    bif decide (b > 0) then
      let c := b.tmod 2 == 1
      timesRaw k (bif c then wa sh sl th tl else sh) (bif c then wr .u64 (sl + tl) else sl) (wa th tl th tl) (wr .u64 (tl + tl)) (wr .u64 (b.tdiv 2))
    else some (w sh sl)
def envT : Env := [(59, .calc (waF wa))]
theorem times_raw (a b : Int) : acall Tryz.prog (envT wa) 75 60 [.int .u64 a, .int .u64 b] [] (fun v _ => bif v.noPtr then some v else none) = timesRaw wa 65 0 0 0 a b := by kernel_rfl
end

/-! ### Over -/
def overRaw (b lo : Int) : Nat → Int → Int → Int × Int
  | 0, left, q => (left, q)
  | n + 1, left, q =>
    let top := left / 9223372036854775808
    let l1 := bor .u64 (wr .u64 (left * 2)) (band .u64 (lo / p2 (min n 64)) 1)
    let q1 := wr .u64 (q * 2)
    let c := bif top == 1 then true else decide (l1 ≥ b)
    overRaw b lo n (bif c then wr .u64 (l1 - b) else l1) (bif c then wr .u64 (q1 + 1) else q1)
theorem over_raw (h l b : Int) : acall Tryz.prog [] 90 165 [w h l, .int .u64 b] [] (fun v _ => bif v.noPtr then some v else none) =
    bif (bif b == 0 then true else decide (h ≥ b)) then some (.tup [.int .u64 0, .int .u64 0, .bool false]) else
    some (.tup [.int .u64 (overRaw b l 64 h 0).2, .int .u64 (overRaw b l 64 h 0).1, .bool true]) := by kernel_rfl

/-! ### Rounded, size, number, above -/
section
variable (ok : Int → Int → Int → Bool) (qo lo : Int → Int → Int → Int)
def overF : List AV → Option AV
  | [.agg [.int .u64 h, .int .u64 l], .int .u64 b] => some (.tup [.int .u64 (qo h l b), .int .u64 (lo h l b), .bool (ok h l b)])
  | _ => none
def envO : Env := [(165, .pure anyA (overF ok qo lo))]
theorem rounded_raw (h l b : Int) : acall Tryz.prog (envO ok qo lo) 40 94 [w h l, .int .u64 b] [] (fun v _ => bif v.noPtr then some v else none) =
    bif (bif !(ok h l b) then true else decide (qo h l b > 4611686018427387904)) then some (.tup [.int .u64 0, .bool false]) else
    some (.tup [.int .u64 (bif decide (lo h l b ≥ wr .u64 (b - lo h l b)) then wr .u64 (qo h l b + 1) else qo h l b), .bool true]) := by kernel_rfl
end
theorem rsize_raw (n : Int) : acall Tryz.prog [] 30 61 [.int .i64 n] [] (fun v _ => bif v.noPtr then some v else none) =
    bif decide (n < 0) then some (.int .u64 (wr .u64 (wr .i64 (0 - n)))) else some (.int .u64 (wr .u64 n)) := by kernel_rfl
def numF : List AV → Option AV
  | [.int .i64 n] => some (.bool (bif decide (n ≥ -4611686018427387904) then decide (n ≤ 4611686018427387904) else false))
  | _ => none
theorem number_ok : PureOk Tryz.prog 93 anyA numF := by
  refine pure_of (EnvOk.nil _) 40 _ _ _ ?_
  rintro args v - h
  unfold numF at h
  split at h <;> cases h
  exact ⟨rfl, rfl, by kernel_rfl⟩
end Go.Proofs.YtdojnnlhaiennaaGreat.Rx

/- The methods of the reference's flow, as the interpreter finds them. Conditions: none. -/
namespace Go.Proofs.YtdojnnlhaiennaaGreat.Rx
open Go Go.Proofs.YtdojnnlhaiennaaGreat.Ae Go.Proofs.YtdojnnlhaiennaaGreat.Fx

section
variable (s : Int → Int) (th tl : Int → Int → Int) (rq : Int → Int → Int → Int) (ro : Int → Int → Int → Bool)
def rsizeF : List AV → Option AV
  | [.int .i64 n] => some (.int .u64 (s n))
  | _ => none
def timesF : List AV → Option AV
  | [.int .u64 a, .int .u64 b] => some (w (th a b) (tl a b))
  | _ => none
def roundedF : List AV → Option AV
  | [.agg [.int .u64 h, .int .u64 l], .int .u64 b] => some (.tup [.int .u64 (rq h l b), .bool (ro h l b)])
  | _ => none
def rgive (q : Int) (below : Bool) (bad : Bool) : Option (AV × Bool) :=
  bif decide (q > 4611686018427387904) then some (.int .i64 0, true) else bif below then some (.int .i64 (wr .i64 (0 - wr .i64 q)), bad) else some (.int .i64 (wr .i64 q), bad)
def rratRaw (a b c : Int) (bad : Bool) : Option (AV × Bool) :=
  let h := th (s a) (s b)
  let l := tl (s a) (s b)
    bif !(ro h l (s c)) then some (.int .i64 0, true) else
    let n := bif decide (a < 0) then wr .i64 (0 + 1) else 0
    let n := bif decide (b < 0) then wr .i64 (n + 1) else n
    let n := bif decide (c < 0) then wr .i64 (n + 1) else n
    rgive (rq h l (s c)) (n.tmod 2 == 1) bad
def envS : Env := [(61, .pure anyA (rsizeF s)), (60, .pure anyA (timesF th tl)), (94, .pure anyA (roundedF rq ro)), (63, .text)]
theorem rrat_raw (a b c : Int) (bad : Bool) : acall Tryz.prog (envS s th tl rq ro) 60 41 [.ptr 0 0, .int .i64 a, .int .i64 b, .int .i64 c] [.cells [.bool bad] 74] (flowK 74) =
    rratRaw s th tl rq ro a b c bad := by kernel_rfl

variable (ab : Int → Int → Int → Int → Bool) (rr : Int → Int → Int → Bool → Int × Bool) (ad : Int → Int → Bool → Int × Bool)
def abF : List AV → Option AV
  | [.agg [.int .u64 h1, .int .u64 l1], .agg [.int .u64 h2, .int .u64 l2]] => some (.bool (ab h1 l1 h2 l2))
  | _ => none
def envN : Env := [(40, .text), (41, .eff (fun l => ratC l.tail) (flowSpec 74 (int3 rr))), (63, .text),
  (93, .calc numF), (61, .pure anyA (rsizeF s)), (60, .pure anyA (timesF th tl)), (62, .pure anyA (abF ab)), (59, .calc (waF waH)), (50, .eff (fun _ => true) (flowSpec 74 (int2 ad)))]
def rnum (n : Int) : Bool := bif decide (n ≥ -4611686018427387904) then decide (n ≤ 4611686018427387904) else false
def rtakeB : Bool → List Int → Bool
  | bad, [] => bad
  | bad, n :: l => rtakeB (bif !rnum n then true else bad) l
def ropRaw (bad : Bool) (l : List Int) (k : Bool → Option (AV × Bool)) : Option (AV × Bool) :=
  bif !(!rtakeB bad l) then some (.int .i64 0, rtakeB bad l) else k (rtakeB bad l)
theorem rmul_raw (a b : Int) (bad : Bool) : acall Tryz.prog (envN s th tl ab rr ad) 60 47 [.ptr 0 0, .int .i64 a, .int .i64 b] [.cells [.bool bad] 74] (flowK 74) =
    ropRaw bad [a, b] (rrRaw rr a b 1099511627776) := by kernel_rfl
theorem rdiv_raw (a b : Int) (bad : Bool) : acall Tryz.prog (envN s th tl ab rr ad) 60 38 [.ptr 0 0, .int .i64 a, .int .i64 b] [.cells [.bool bad] 74] (flowK 74) =
    ropRaw bad [a, b] (rrRaw rr a 1099511627776 b) := by kernel_rfl
theorem rpart_raw (a b c : Int) (bad : Bool) : acall Tryz.prog (envN s th tl ab rr ad) 60 16 [.ptr 0 0, .int .i64 a, .int .i64 b, .int .i64 c] [.cells [.bool bad] 74] (flowK 74) =
    ropRaw bad [a, b, c] (rrRaw rr a b c) := by kernel_rfl
end
end Go.Proofs.YtdojnnlhaiennaaGreat.Rx

/- The reference's words of 128 bits, in plain numbers. Conditions: words are words. -/
namespace Go.Proofs.YtdojnnlhaiennaaGreat.Rx
open Go Go.Proofs.YtdojnnlhaiennaaGreat.Ae Go.Proofs.YtdojnnlhaiennaaGreat.Fx

theorem in64_iff {x : Int} : in64 x = true ↔ 0 ≤ x ∧ x < 18446744073709551616 := by simp [in64]

/-- What a word of 128 bits stands for. -/
theorem wa_val {h1 l1 h2 l2 : Int} (_a1 : 0 ≤ h1) (_a2 : h1 < 18446744073709551616) (a3 : 0 ≤ l1) (a4 : l1 < 18446744073709551616) (_b1 : 0 ≤ h2) (_b2 : h2 < 18446744073709551616) (b3 : 0 ≤ l2) (b4 : l2 < 18446744073709551616) :
    0 ≤ waH h1 l1 h2 l2 ∧ waH h1 l1 h2 l2 < 18446744073709551616 ∧ 0 ≤ wr .u64 (l1 + l2) ∧ wr .u64 (l1 + l2) < 18446744073709551616 ∧
    waH h1 l1 h2 l2 * 18446744073709551616 + wr .u64 (l1 + l2) = (h1 * 18446744073709551616 + l1 + (h2 * 18446744073709551616 + l2)) % 340282366920938463463374607431768211456 := by
  unfold waH
  simp only [wr_u64]
  by_cases c : (l1 + l2) % 18446744073709551616 < l1
  · rw [decide_eq_true c, bt]; omega
  · rw [decide_eq_false c, bf]; omega

theorem mod_step {M s t c b' : Int} : ((s + c * t) % M + (t + t) % M * b') % M = (s + t * (c + 2 * b')) % M := by
  have e1 : s + c * t = M * ((s + c * t) / M) + (s + c * t) % M := (Int.mul_ediv_add_emod _ _).symm
  have e2 : t + t = M * ((t + t) / M) + (t + t) % M := (Int.mul_ediv_add_emod _ _).symm
  generalize (s + c * t) / M = q1 at *
  generalize (s + c * t) % M = r1 at *
  generalize (t + t) / M = q2 at *
  generalize (t + t) % M = r2 at *
  have e3 : s + t * (c + 2 * b') = (r1 + r2 * b') + M * (q1 + q2 * b') := by
    have h1 : t * (c + 2 * b') = c * t + (t + t) * b' := by grind
    rw [h1, ← Int.add_assoc, e1, e2]; grind
  rw [e3, Int.add_mul_emod_self_left]

theorem timesRaw_eq : ∀ (k : Nat) (sh sl th tl b : Int), 0 ≤ sh → sh < 18446744073709551616 → 0 ≤ sl → sl < 18446744073709551616 → 0 ≤ th → th < 18446744073709551616 → 0 ≤ tl → tl < 18446744073709551616 →
    0 ≤ b → b < 18446744073709551616 → b < p2 k → ∃ rh rl, timesRaw waH k sh sl th tl b = some (w rh rl) ∧ 0 ≤ rh ∧ rh < 18446744073709551616 ∧ 0 ≤ rl ∧ rl < 18446744073709551616 ∧
      rh * 18446744073709551616 + rl = (sh * 18446744073709551616 + sl + (th * 18446744073709551616 + tl) * b) % 340282366920938463463374607431768211456
  | 0, sh, sl, th, tl, b, a1, a2, a3, a4, b1, b2, b3, b4, c1, c2, c3 => by
    have : b = 0 := by
      have e : p2 0 = 1 := by kernel_rfl
      rw [e] at c3; omega
    subst this
    refine ⟨sh, sl, ?_, a1, a2, a3, a4, ?_⟩
    · unfold timesRaw
      rw [decide_eq_false (by omega), bf]
    · rw [Int.mul_zero]; omega
  | k + 1, sh, sl, th, tl, b, a1, a2, a3, a4, b1, b2, b3, b4, c1, c2, c3 => by
    unfold timesRaw
    by_cases hb : b > 0
    · rw [decide_eq_true hb, bt]
      dsimp only
      have e2 : p2 (k + 1) = p2 k * 2 := by rw [p2_add]; rfl
      have hd : wr .u64 (b.tdiv 2) = b / 2 := by rw [Int.tdiv_eq_ediv_of_nonneg c1, wu64_in (by omega) (by omega)]
      have hm : b.tmod 2 = b % 2 := Int.tmod_eq_emod_of_nonneg c1
      rw [hd, hm]
      obtain ⟨t1, t2, t3, t4, t5⟩ := wa_val b1 b2 b3 b4 b1 b2 b3 b4
      obtain ⟨s1, s2, s3, s4, s5⟩ := wa_val a1 a2 a3 a4 b1 b2 b3 b4
      have hbs : b = b % 2 + 2 * (b / 2) := by omega
      by_cases hc : b % 2 = 1
      · have e : (b % 2 == 1) = true := by simp; exact hc
        rw [e, bt, bt]
        obtain ⟨rh, rl, r1, r2, r3, r4, r5, r6⟩ := timesRaw_eq k _ _ _ _ (b / 2) s1 s2 s3 s4 t1 t2 t3 t4 (by omega) (by omega) (by omega)
        refine ⟨rh, rl, r1, r2, r3, r4, r5, ?_⟩
        rw [r6, s5, t5]
        have := mod_step (M := 340282366920938463463374607431768211456) (s := sh * 18446744073709551616 + sl) (t := th * 18446744073709551616 + tl) (c := 1) (b' := b / 2)
        rw [Int.one_mul] at this
        rw [this, ← hc, ← hbs]
      · have e : (b % 2 == 1) = false := by simp; omega
        rw [e, bf, bf]
        obtain ⟨rh, rl, r1, r2, r3, r4, r5, r6⟩ := timesRaw_eq k _ _ _ _ (b / 2) a1 a2 a3 a4 t1 t2 t3 t4 (by omega) (by omega) (by omega)
        refine ⟨rh, rl, r1, r2, r3, r4, r5, ?_⟩
        rw [r6, t5]
        have := mod_step (M := 340282366920938463463374607431768211456) (s := sh * 18446744073709551616 + sl) (t := th * 18446744073709551616 + tl) (c := 0) (b' := b / 2)
        rw [Int.zero_mul, Int.add_zero, Int.emod_add_emod] at this
        rw [this]
        have hc0 : b % 2 = 0 := by omega
        rw [← hc0, ← hbs]
    · have : b = 0 := by omega
      subst this
      rw [decide_eq_false (by omega), bf]
      refine ⟨sh, sl, rfl, a1, a2, a3, a4, ?_⟩
      rw [Int.mul_zero]; omega

def timesP (wa : Int → Int → Int → Int → Int) : Nat → Int → Int → Int → Int → Int → Int × Int
  | 0, sh, sl, _, _, _ => (sh, sl)
  | k + 1, sh, sl, th, tl, b =>
    bif decide (b > 0) then
      let c := b.tmod 2 == 1
      timesP wa k (bif c then wa sh sl th tl else sh) (bif c then wr .u64 (sl + tl) else sl) (wa th tl th tl) (wr .u64 (tl + tl)) (wr .u64 (b.tdiv 2))
    else (sh, sl)
theorem timesP_eq {wa : Int → Int → Int → Int → Int} : ∀ (k : Nat) (sh sl th tl b : Int), b < p2 k → b < 18446744073709551616 → timesRaw wa k sh sl th tl b = some (w (timesP wa k sh sl th tl b).1 (timesP wa k sh sl th tl b).2)
  | 0, sh, sl, th, tl, b, h, _ => by
    have e : p2 0 = 1 := by kernel_rfl
    rw [e] at h
    unfold timesRaw timesP
    rw [decide_eq_false (by omega), bf]
  | k + 1, sh, sl, th, tl, b, h, h' => by
    unfold timesRaw timesP
    by_cases hb : b > 0
    · rw [decide_eq_true hb, bt, bt]
      dsimp only
      have e2 : p2 (k + 1) = p2 k * 2 := by rw [p2_add]; rfl
      have hd : wr .u64 (b.tdiv 2) = b / 2 := by rw [Int.tdiv_eq_ediv_of_nonneg (by omega), wu64_in (by omega) (by omega)]
      rw [hd]
      exact timesP_eq k _ _ _ _ _ (by omega) (by omega)
    · rw [decide_eq_false hb, bf, bf]
theorem timesP_all {wa : Int → Int → Int → Int → Int} (sh sl th tl b : Int) : timesRaw wa 65 sh sl th tl b = some (w (timesP wa 65 sh sl th tl b).1 (timesP wa 65 sh sl th tl b).2) := by
  unfold timesRaw timesP
  by_cases hb : b > 0
  · rw [decide_eq_true hb, bt, bt]
    dsimp only
    have hd : wr .u64 (b.tdiv 2) < 18446744073709551616 := by rw [wr_u64]; omega
    exact timesP_eq 64 _ _ _ _ _ (by rw [p2_64]; exact hd) hd
  · rw [decide_eq_false hb, bf, bf]
/-- The words of a product, as the loop finds them. -/
def thI (a b : Int) : Int := (timesP waH 65 0 0 0 a b).1
def tlI (a b : Int) : Int := (timesP waH 65 0 0 0 a b).2
theorem times_eq {a b : Int} (ha : in64 a = true) (hb : in64 b = true) : thI a b = a * b / 18446744073709551616 ∧ tlI a b = a * b % 18446744073709551616 := by
  have ha := in64_iff.1 ha
  have hb := in64_iff.1 hb
  obtain ⟨rh, rl, r1, r2, r3, r4, r5, r6⟩ := timesRaw_eq 65 0 0 0 a b (by omega) (by omega) (by omega) (by omega) (by omega) (by omega) ha.1 ha.2 hb.1 hb.2 (by rw [show 65 = 64 + 1 by rfl, p2_add, p2_64, show p2 1 = 2 by kernel_rfl]; omega)
  rw [timesP_all] at r1
  simp only [w, Option.some.injEq, AV.agg.injEq, List.cons.injEq, AV.int.injEq, true_and, and_true] at r1
  unfold thI tlI
  rw [r1.1, r1.2]
  have hle : a * b ≤ 18446744073709551615 * 18446744073709551615 := Int.mul_le_mul (by omega) (by omega) hb.1 (by omega)
  have h0 := Int.mul_nonneg ha.1 hb.1
  have e : (0 * 18446744073709551616 + 0 + (0 * 18446744073709551616 + a) * b) = a * b := by
    rw [Int.zero_mul, Int.zero_add, Int.zero_add, Int.zero_add]
  rw [e] at r6
  generalize a * b = p at *
  omega

/-! ### Over -/
theorem overRaw_eq {b lo h : Int} (hb : 0 < b) (hb1 : b < 18446744073709551616) (hl0 : 0 ≤ lo) (hl1 : lo < 18446744073709551616) : ∀ (n : Nat) (left q : Int), n ≤ 64 → 0 ≤ left → left < b → 0 ≤ q →
    q * b + left = h * p2 (64 - n) + lo / p2 n → h < b → 0 ≤ h → ((overRaw b lo n left q).2 = (h * 18446744073709551616 + lo) / b ∧ (overRaw b lo n left q).1 = (h * 18446744073709551616 + lo) % b)
  | 0, left, q, _, l0, l1, q0, inv, hh, hh0 => by
    unfold overRaw
    dsimp only
    have e0 : p2 0 = 1 := by kernel_rfl
    rw [Nat.sub_zero, p2_64, e0, Int.ediv_one] at inv
    rw [← inv]
    constructor
    · rw [Int.add_comm, Int.add_mul_ediv_right _ _ (by omega), Int.ediv_eq_zero_of_lt l0 l1, Int.zero_add]
    · rw [Int.add_comm, Int.add_mul_emod_self_right, Int.emod_eq_of_lt l0 l1]
  | n + 1, left, q, hn, l0, l1, q0, inv, hh, hh0 => by
    unfold overRaw
    dsimp only
    have hmin : min n 64 = n := by omega
    rw [hmin]
    have hpn := p2_pos n
    have e2 : p2 (n + 1) = p2 n * 2 := by rw [p2_add]; rfl
    have e3 : p2 (64 - n) = p2 (64 - (n + 1)) * 2 := by rw [show 64 - n = 64 - (n + 1) + 1 by omega, p2_add]; rfl
    -- the bit that comes
    have hz0 : 0 ≤ lo / p2 n := Int.ediv_nonneg hl0 (by omega)
    have hz1 : lo / p2 n < 18446744073709551616 := by
      have := Int.ediv_le_self (p2 n) hl0; omega
    have hbit : band .u64 (lo / p2 n) 1 = lo / p2 n % 2 := by
      rw [band_eq hz0 hz1 (by omega) (by omega)]
      have : ((1 : Int)).toNat = 2 ^ 1 - 1 := by decide
      rw [this, Nat.and_two_pow_sub_one_eq_mod]
      omega
    have hz : lo / p2 (n + 1) = lo / p2 n / 2 := by rw [e2, Int.ediv_ediv_of_nonneg (by omega)]
    rw [hbit]
    have hlow : wr .u64 (left * 2) = left * 2 % 18446744073709551616 := wr_u64 _
    have hor : bor .u64 (left * 2 % 18446744073709551616) (lo / p2 n % 2) = left * 2 % 18446744073709551616 + lo / p2 n % 2 := by
      rw [bor_eq (by omega) (by omega) (by omega) (by omega)]
      have hev : (left * 2 % 18446744073709551616).toNat = 2 ^ 1 * ((left * 2 % 18446744073709551616).toNat / 2) := by omega
      rw [hev, or_add (by omega), ← hev]
      omega
    rw [hlow, hor]
    have hinv2 : q * 2 * b + (left * 2 + lo / p2 n % 2) = h * p2 (64 - n) + lo / p2 n := by
      rw [e3, ← Int.mul_assoc]
      rw [hz] at inv
      have : q * 2 * b = q * b * 2 := Int.mul_right_comm _ _ _
      generalize h * p2 (64 - (n + 1)) = hp at *
      generalize lo / p2 n = z at *
      generalize q * b = qb at *
      omega
    have hbb : 0 ≤ lo / p2 n % 2 ∧ lo / p2 n % 2 ≤ 1 := by omega
    generalize lo / p2 n % 2 = bit at *
    -- the quotient is a word
    have hq2 : q * 2 < 18446744073709551616 := by
      have hle : p2 (64 - n) ≤ 18446744073709551616 := by
        have : p2 (64 - n) * p2 n = 18446744073709551616 := by rw [← p2_add, show 64 - n + n = 64 by omega, p2_64]
        have h1 : 1 ≤ p2 n := by omega
        have := Int.mul_le_mul_of_nonneg_left h1 (Int.le_of_lt (p2_pos (64 - n)))
        omega
      apply Int.lt_of_not_ge
      intro hge
      have hzlt : lo / p2 n < p2 (64 - n) := by
        rw [Int.ediv_lt_iff_lt_mul hpn, ← p2_add, show 64 - n + n = 64 by omega, p2_64]; exact hl1
      have m1 : h * p2 (64 - n) ≤ (b - 1) * p2 (64 - n) := Int.mul_le_mul_of_nonneg_right (by omega) (Int.le_of_lt (p2_pos _))
      rw [Int.sub_mul, Int.one_mul] at m1
      have m2 : p2 (64 - n) * b ≤ q * 2 * b := Int.mul_le_mul_of_nonneg_right (by omega) (by omega)
      rw [Int.mul_comm (p2 (64 - n)) b] at m2
      omega
    have hw2 : wr .u64 (q * 2) = q * 2 := wu64_in (by omega) hq2
    rw [hw2]
    by_cases hc : left * 2 + bit ≥ b
    · have ec : (bif left / 9223372036854775808 == 1 then true else decide (left * 2 % 18446744073709551616 + bit ≥ b)) = true := by
        by_cases ht : left / 9223372036854775808 = 1
        · have : (left / 9223372036854775808 == 1) = true := by simp; exact ht
          rw [this, bt]
        · have : (left / 9223372036854775808 == 1) = false := by simp; exact ht
          rw [this, bf]
          exact decide_eq_true (by omega)
      rw [ec, bt, bt]
      have e5 : wr .u64 (left * 2 % 18446744073709551616 + bit - b) = left * 2 + bit - b := by rw [wr_u64]; omega
      rw [e5]
      have hq3 : wr .u64 (q * 2 + 1) = q * 2 + 1 := wu64_in (by omega) (by omega)
      rw [hq3]
      refine overRaw_eq hb hb1 hl0 hl1 n _ _ (by omega) (by omega) (by omega) (by omega) ?_ hh hh0
      rw [Int.add_mul, Int.one_mul, ← hinv2]; omega
    · have ec : (bif left / 9223372036854775808 == 1 then true else decide (left * 2 % 18446744073709551616 + bit ≥ b)) = false := by
        have : (left / 9223372036854775808 == 1) = false := by simp; omega
        rw [this, bf]
        exact decide_eq_false (by omega)
      rw [ec, bf, bf]
      have e5 : left * 2 % 18446744073709551616 + bit = left * 2 + bit := by omega
      rw [e5]
      refine overRaw_eq hb hb1 hl0 hl1 n _ _ (by omega) (by omega) (by omega) (by omega) ?_ hh hh0
      rw [← hinv2]

end Go.Proofs.YtdojnnlhaiennaaGreat.Rx

/- The reference's sums, roots and lengths, as the interpreter finds them. Conditions: none. -/
namespace Go.Proofs.YtdojnnlhaiennaaGreat.Rx
open Go Go.Proofs.YtdojnnlhaiennaaGreat.Ae Go.Proofs.YtdojnnlhaiennaaGreat.Fx

section
variable (s : Int → Int) (th tl : Int → Int → Int) (ab : Int → Int → Int → Int → Bool) (rr : Int → Int → Int → Bool → Int × Bool) (ad : Int → Int → Bool → Int × Bool)
def raddS (a b : Int) : Int := wr .i64 (wr .i64 (wr .i64 (a.tdiv 2) + wr .i64 (b.tdiv 2)) + wr .i64 ((wr .i64 (a.tmod 2 + b.tmod 2)).tdiv 2))
/-- A search bit by bit. -/
def rroot (h l : Int) : Nat → Int → Int
  | 0, r => r
  | i + 1, r =>
    let t := wr .u64 (r + wr .u64 (1 * p2 (min i 64)))
    rroot h l i (bif !(ab (th t t) (tl t t) h l) then t else r)
theorem rnorm_raw (a b c : Int) (bad : Bool) : acall Tryz.prog (envN s th tl ab rr ad) 110 24 [.ptr 0 0, .int .i64 a, .int .i64 b, .int .i64 c] [.cells [.bool bad] 74] (flowK 74) =
    ropRaw bad [a, b, c] fun bad =>
        rgive (rroot th tl ab (waH (waH (th (s a) (s a)) (tl (s a) (s a)) (th (s b) (s b)) (tl (s b) (s b))) (wr .u64 (tl (s a) (s a) + tl (s b) (s b))) (th (s c) (s c)) (tl (s c) (s c)))
          (wr .u64 (wr .u64 (tl (s a) (s a) + tl (s b) (s b)) + tl (s c) (s c))) 63 0) false bad := by kernel_rfl
end
end Go.Proofs.YtdojnnlhaiennaaGreat.Rx

/- The contracts of the reference's ratio. Conditions: none. -/
namespace Go.Proofs.YtdojnnlhaiennaaGreat.Rx
open Go Go.Proofs.YtdojnnlhaiennaaGreat.Ae Go.Proofs.YtdojnnlhaiennaaGreat.Fx

theorem en_add : EnterOk Tryz.prog 59 := enter_of Tryz.func59 (by kernel_rfl) rfl
theorem en_times : EnterOk Tryz.prog 60 := enter_of Tryz.func60 (by kernel_rfl) rfl
theorem en_over : EnterOk Tryz.prog 165 := enter_of Tryz.func165 (by kernel_rfl) rfl
theorem en_rounded : EnterOk Tryz.prog 94 := enter_of Tryz.func94 (by kernel_rfl) rfl
theorem en_size : EnterOk Tryz.prog 61 := enter_of Tryz.func61 (by kernel_rfl) rfl
theorem en_number : EnterOk Tryz.prog 93 := enter_of Tryz.func93 (by kernel_rfl) rfl
theorem en_above : EnterOk Tryz.prog 62 := enter_of Tryz.func62 (by kernel_rfl) rfl
theorem en_rgive : EnterOk Tryz.prog 63 := enter_of Tryz.func63 (by kernel_rfl) rfl
theorem en_rtake : EnterOk Tryz.prog 40 := enter_of Tryz.func40 (by kernel_rfl) rfl
theorem en_rratio : EnterOk Tryz.prog 41 := enter_of Tryz.func41 (by kernel_rfl) rfl
theorem en_rAdd : EnterOk Tryz.prog 50 := enter_of Tryz.func50 (by kernel_rfl) rfl

theorem _root_.Go.Proofs.YtdojnnlhaiennaaGreat.Ae.EnvOk.c {P : Program} {env : Env} (t : EnvOk P env) {f : FuncId} (h : EnterOk P f) {F : List AV → Option AV} (k : PureOk P f (fun _ => true) F) : EnvOk P ((f, .calc F) :: env) := EnvOk.cons (s := .calc F) ⟨h, k⟩ t

theorem rsize_con : PureOk Tryz.prog 61 anyA (rsizeF sz) := by
  refine pure_of ok_nil 30 _ _ _ ?_
  rintro args v - h
  unfold rsizeF at h
  split at h <;> cases h
  rename_i n
  refine ⟨rfl, rfl, ?_⟩
  rw [rsize_raw, sz]
  cases decide (n < 0) <;> rfl
theorem times_con : PureOk Tryz.prog 60 anyA (timesF thI tlI) := by
  have hE : EnvOk Tryz.prog (envT waH) := EnvOk.c ok_nil en_add wa_ok
  refine pure_of hE 75 _ _ _ ?_
  rintro args v - h
  unfold timesF at h
  split at h <;> cases h
  refine ⟨rfl, rfl, ?_⟩
  rw [times_raw, timesP_all]
  rfl
def ovBad (h b : Int) : Bool := bif b == 0 then true else decide (h ≥ b)
def okI (h _l b : Int) : Bool := !(ovBad h b)
def qoI (h l b : Int) : Int := bif ovBad h b then 0 else (overRaw b l 64 h 0).2
def loI (h l b : Int) : Int := bif ovBad h b then 0 else (overRaw b l 64 h 0).1
theorem over_con : PureOk Tryz.prog 165 anyA (overF okI qoI loI) := by
  refine pure_of ok_nil 90 _ _ _ ?_
  rintro args v - hh
  unfold overF at hh
  split at hh <;> cases hh
  rename_i h l b
  refine ⟨rfl, rfl, ?_⟩
  refine Eq.trans (over_raw h l b) ?_
  unfold okI qoI loI
  change (bif ovBad h b then _ else _) = _
  cases ovBad h b <;> rfl
def rdBad (h l b : Int) : Bool := bif !(okI h l b) then true else decide (qoI h l b > 4611686018427387904)
def roI (h l b : Int) : Bool := !(rdBad h l b)
def rqI (h l b : Int) : Int := bif rdBad h l b then 0 else bif decide (loI h l b ≥ wr .u64 (b - loI h l b)) then wr .u64 (qoI h l b + 1) else qoI h l b
theorem rounded_con : PureOk Tryz.prog 94 anyA (roundedF rqI roI) := by
  refine pure_of (EnvOk.p ok_nil en_over over_con : EnvOk Tryz.prog (envO okI qoI loI)) 40 _ _ _ ?_
  rintro args v - hh
  unfold roundedF at hh
  split at hh <;> cases hh
  rename_i h l b
  refine ⟨rfl, rfl, ?_⟩
  refine Eq.trans (rounded_raw okI qoI loI h l b) ?_
  unfold roI rqI
  change (bif rdBad h l b then _ else _) = _
  cases rdBad h l b <;> rfl

theorem rsigns (a b c : Int) : (Int.tmod (bif decide (c < 0) then wr .i64 ((bif decide (b < 0) then wr .i64 ((bif decide (a < 0) then wr .i64 (0 + 1) else 0) + 1) else bif decide (a < 0) then wr .i64 (0 + 1) else 0) + 1) else bif decide (b < 0) then wr .i64 ((bif decide (a < 0) then wr .i64 (0 + 1) else 0) + 1) else bif decide (a < 0) then wr .i64 (0 + 1) else 0) 2 == 1) = sgn3 a b c := by
  unfold sgn3
  cases decide (a < 0) <;> cases decide (b < 0) <;> cases decide (c < 0) <;> kernel_rfl

theorem rgive_big {q : Int} (h : q > 4611686018427387904) (below bad : Bool) : rgive q below bad = some (.int .i64 0, true) := by
  unfold rgive
  rw [decide_eq_true h, bt]
theorem rgive_in {q : Int} (h : 0 ≤ q) (h' : q ≤ 4611686018427387904) (below bad : Bool) : rgive q below bad = some (.int .i64 (if below then -q else q), bad) := by
  unfold rgive
  rw [decide_eq_false (by omega), bf, w64_in (n := q) (by omega) (by omega)]
  cases below
  · rw [bf, if_neg (by simp)]
  · rw [bt, if_pos rfl, w64_in (by omega) (by omega), Int.zero_sub]

theorem rratio_eq {a b c : Int} (ha : rng a = true) (hb : rng b = true) (hc : rng c = true) (bad : Bool) :
    rratRaw sz thI tlI rqI roI a b c bad = some (.int .i64 (ratF a b c bad).1, (ratF a b c bad).2) := by
  obtain ⟨ea, ua⟩ := sz_eq ha
  obtain ⟨eb, ub⟩ := sz_eq hb
  obtain ⟨ec, uc⟩ := sz_eq hc
  unfold rratRaw
  rw [ea, eb, ec]
  obtain ⟨t1, t2⟩ := times_eq (a := (a.natAbs : Int)) (b := (b.natAbs : Int)) (in64_iff.2 (by omega)) (in64_iff.2 (by omega))
  have hp : (a.natAbs : Int) * (b.natAbs : Int) = ((a.natAbs * b.natAbs : Nat) : Int) := by rw [Int.natCast_mul]
  dsimp only
  rw [rsigns, t1, t2, hp]
  unfold ratF rat
  have hcz : c = 0 ↔ c.natAbs = 0 := by omega
  generalize sgn3 a b c = sg at *
  generalize a.natAbs * b.natAbs = p at *
  generalize c.natAbs = z at *
  generalize hh : (p : Int) / 18446744073709551616 = h at *
  generalize hl : (p : Int) % 18446744073709551616 = l at *
  unfold roI rqI rdBad okI
  by_cases z0 : z = 0
  · rw [if_pos (hcz.2 z0)]
    have : ovBad h (z : Int) = true := by unfold ovBad; rw [show ((z : Int) == 0) = true by simp; exact z0, bt]
    rw [this]; rfl
  · rw [if_neg (fun e => z0 (hcz.1 e))]
    have e0 : ((z : Int) == 0) = false := by simp; exact z0
    by_cases hz : h ≥ (z : Int)
    · have : ovBad h (z : Int) = true := by unfold ovBad; rw [e0, bf]; exact decide_eq_true hz
      rw [this]
      have hbig : (2 * p + z) / (2 * z) > 4611686018427387904 := by
        have : 18446744073709551616 ≤ (2 * p + z) / (2 * z) := by
          rw [Nat.le_div_iff_mul_le (by omega)]
          omega
        omega
      rw [if_pos hbig]; simp only [Bool.not_true, Bool.not_false, bt, resB]
    · have hov : ovBad h (z : Int) = false := by unfold ovBad; rw [e0, bf]; exact decide_eq_false hz
      obtain ⟨o1, o2⟩ := overRaw_eq (b := (z : Int)) (lo := l) (h := h) (by omega) (by omega) (by omega) (by omega) 64 h 0 (Nat.le_refl _) (by omega) (by omega) (by omega)
        (by
          have e1 : p2 (64 - 64) = 1 := by kernel_rfl
          have e2 : l / p2 64 = 0 := by rw [p2_64]; omega
          rw [e1, e2]; omega) (by omega) (by omega)
      have hpp : h * 18446744073709551616 + l = (p : Int) := by omega
      rw [hpp] at o1 o2
      have hq : qoI h l (z : Int) = ((p / z : Nat) : Int) := by unfold qoI; rw [hov, bf, o1]; exact (Int.natCast_ediv _ _).symm
      have hr : loI h l (z : Int) = ((p % z : Nat) : Int) := by unfold loI; rw [hov, bf, o2]; exact (Int.natCast_emod _ _).symm
      rw [hov, hq, hr]
      simp only [Bool.not_false, Bool.not_true, bf]
      have hdm := Nat.div_add_mod p z
      have hml := Nat.mod_lt p (show z > 0 by omega)
      have hround := round_eq (show 0 < z by omega) hdm hml
      generalize p / z = n at *
      generalize p % z = left at *
      rw [hround]
      by_cases hn : (n : Int) > 4611686018427387904
      · rw [decide_eq_true hn]
        have : (if z ≤ 2 * left then n + 1 else n) > 4611686018427387904 := by split <;> omega
        rw [if_pos this]; simp only [Bool.not_true, Bool.not_false, bt, resB]
      · rw [decide_eq_false hn]
        simp only [Bool.not_false, Bool.not_true, bf]
        have hw : wr .u64 ((z : Int) - (left : Int)) = (z : Int) - left := wu64_in (by omega) (by omega)
        have hn0 : (n : Int) ≤ 4611686018427387904 := by omega
        rw [hw, wu64_in (n := (n : Int) + 1) (by omega) (by omega)]
        have hn' : (bif decide ((left : Int) ≥ (z : Int) - left) then (n : Int) + 1 else (n : Int)) = ((if z ≤ 2 * left then n + 1 else n : Nat) : Int) := by
          by_cases hh : z ≤ 2 * left
          · rw [decide_eq_true (by omega), if_pos hh]; rfl
          · rw [decide_eq_false (by omega), if_neg hh]; rfl
        rw [hn']
        generalize (if z ≤ 2 * left then n + 1 else n) = r at *
        by_cases hbig : r > 4611686018427387904
        · rw [if_pos hbig, rgive_big (by omega)]; simp only [resB]
        · rw [if_neg hbig, rgive_in (by omega) (by omega)]
          cases sg
          · simp only [Bool.false_eq_true, if_false, resB]
          · simp only [if_true, resB]

abbrev RMeth (f : FuncId) (F : List AV → Option (Bool → AV × Bool)) : Prop := EffOk Tryz.prog f (fun _ => true) (flowSpec 74 F)
theorem rratio_con : EffOk Tryz.prog 41 (fun l => ratC l.tail) (flowSpec 74 (int3 ratF)) := by
  have hE : EnvOk Tryz.prog (envS sz thI tlI rqI roI) :=
    EnvOk.p (EnvOk.p (EnvOk.p (EnvOk.t ok_nil en_rgive) en_rounded rounded_con) en_times times_con) en_size rsize_con
  refine flow_of hE 60 _ _ _ _ ?_
  intro args g hC h b
  unfold int3 at h
  split at h <;> cases h
  simp only [ratC, Bool.and_eq_true] at hC
  rw [rrat_raw, rratio_eq hC.1.1 hC.1.2 hC.2]
end Go.Proofs.YtdojnnlhaiennaaGreat.Rx

/- The contracts of the methods of the reference's flow: the same plain numbers. Conditions: none. -/
namespace Go.Proofs.YtdojnnlhaiennaaGreat.Rx
open Go Go.Proofs.YtdojnnlhaiennaaGreat.Ae Go.Proofs.YtdojnnlhaiennaaGreat.Fx

theorem rnum_eq (n : Int) : rnum n = okn n := by
  unfold rnum okn
  by_cases h : n ≥ -4611686018427387904
  · rw [decide_eq_true h, bt, Bool.true_and]
  · rw [decide_eq_false h, bf, Bool.false_and]
theorem rtakeB_eq : ∀ (l : List Int) (bad : Bool), rtakeB bad l = (bad || l.any (fun n => !okn n))
  | [], bad => by simp [rtakeB]
  | n :: l, bad => by
    unfold rtakeB
    rw [rtakeB_eq l, List.any_cons, rnum_eq, ← Bool.or_assoc]
    cases bad <;> cases okn n <;> rfl
theorem ropRaw_bad {bad : Bool} {l : List Int} (h : (bad || l.any (fun n => !okn n)) = true) (k : Bool → Option (AV × Bool)) : ropRaw bad l k = some (.int .i64 0, true) := by
  unfold ropRaw
  rw [rtakeB_eq, h]; rfl
theorem ropRaw_ok {bad : Bool} {l : List Int} (h : (bad || l.any (fun n => !okn n)) = false) (k : Bool → Option (AV × Bool)) : ropRaw bad l k = k false := by
  unfold ropRaw
  rw [rtakeB_eq, h]; rfl

theorem rmul_plain (a b : Int) (bad : Bool) : ropRaw bad [a, b] (rrRaw ratF a b 1099511627776) = av (mul a b bad) := by
  unfold mul
  cases h : (bad || [a, b].any (fun n => !okn n)) with
  | true => rw [ropRaw_bad h, lift_bad h]; rfl
  | false =>
    obtain ⟨_, h1, h2⟩ := all_ok2 h
    rw [ropRaw_ok h, lift_ok h, rrRaw_eq (rng_of h1) (rng_of h2) rng_one]
theorem rdiv_plain (a b : Int) (bad : Bool) : ropRaw bad [a, b] (rrRaw ratF a 1099511627776 b) = av (div a b bad) := by
  unfold div
  cases h : (bad || [a, b].any (fun n => !okn n)) with
  | true => rw [ropRaw_bad h, lift_bad h]; rfl
  | false =>
    obtain ⟨_, h1, h2⟩ := all_ok2 h
    rw [ropRaw_ok h, lift_ok h, rrRaw_eq (rng_of h1) rng_one (rng_of h2)]
theorem rpart_plain (a b c : Int) (bad : Bool) : ropRaw bad [a, b, c] (rrRaw ratF a b c) = av (Fx.part a b c bad) := by
  unfold Fx.part
  cases h : (bad || [a, b, c].any (fun n => !okn n)) with
  | true => rw [ropRaw_bad h, lift_bad h]; rfl
  | false =>
    obtain ⟨_, h1, h2, h3⟩ := all_ok3 h
    rw [ropRaw_ok h, lift_ok h, rrRaw_eq (rng_of h1) (rng_of h2) (rng_of h3)]

theorem raddS_eq {a b : Int} (ha : -4611686018427387904 ≤ a ∧ a ≤ 4611686018427387904) (hb : -4611686018427387904 ≤ b ∧ b ≤ 4611686018427387904) :
    raddS a b * 2 ≤ a + b + 1 ∧ a + b - 1 ≤ raddS a b * 2 := by
  unfold raddS
  have e1 := Int.tmod_add_mul_tdiv a 2
  have e2 := Int.tmod_add_mul_tdiv b 2
  have l1 : -2 < a.tmod 2 ∧ a.tmod 2 < 2 := ⟨by have := Int.tmod_lt_of_pos (-a) (show (0 : Int) < 2 by omega); rw [Int.neg_tmod] at this; omega, Int.tmod_lt_of_pos a (by omega)⟩
  have l2 : -2 < b.tmod 2 ∧ b.tmod 2 < 2 := ⟨by have := Int.tmod_lt_of_pos (-b) (show (0 : Int) < 2 by omega); rw [Int.neg_tmod] at this; omega, Int.tmod_lt_of_pos b (by omega)⟩
  generalize a.tmod 2 = r1 at *
  generalize b.tmod 2 = r2 at *
  generalize a.tdiv 2 = q1 at *
  generalize b.tdiv 2 = q2 at *
  rw [w64_in (n := q1) (by omega) (by omega), w64_in (n := q2) (by omega) (by omega), w64_in (n := q1 + q2) (by omega) (by omega), w64_in (n := r1 + r2) (by omega) (by omega)]
  have e3 := Int.tmod_add_mul_tdiv (r1 + r2) 2
  have l3 : -2 < (r1 + r2).tmod 2 ∧ (r1 + r2).tmod 2 < 2 := ⟨by have := Int.tmod_lt_of_pos (-(r1 + r2)) (show (0 : Int) < 2 by omega); rw [Int.neg_tmod] at this; omega, Int.tmod_lt_of_pos (r1 + r2) (by omega)⟩
  generalize (r1 + r2).tmod 2 = r3 at *
  generalize (r1 + r2).tdiv 2 = q3 at *
  rw [w64_in (n := q3) (by omega) (by omega), w64_in (n := q1 + q2 + q3) (by omega) (by omega)]
  omega

def raddK (a b : Int) (bad : Bool) : Option (AV × Bool) :=
  bif decide (raddS a b > 2305843009213693952) then some (.int .i64 0, true) else bif decide (raddS a b < -2305843009213693952) then some (.int .i64 0, true) else bif !rnum (wr .i64 (a + b)) then some (.int .i64 0, true) else some (.int .i64 (wr .i64 (a + b)), bad)
theorem raddK_eq {a b : Int} (ha : -4611686018427387904 ≤ a ∧ a ≤ 4611686018427387904) (hb : -4611686018427387904 ≤ b ∧ b ≤ 4611686018427387904) : raddK a b false = av (resB false (if okn (a + b) then some (a + b) else none)) := by
  unfold raddK
  have hS := raddS_eq ha hb
  generalize raddS a b = S at *
  rw [rnum_eq]
  by_cases hs : okn (a + b) = true
  · have i3 := okn_iff.1 hs
    rw [if_pos hs, decide_eq_false (by omega), bf, decide_eq_false (by omega), bf, w64_in (by omega) (by omega), hs, Bool.not_true, bf]; rfl
  · rw [if_neg hs]
    by_cases c1 : S > 2305843009213693952
    · rw [decide_eq_true c1, bt]; rfl
    · rw [decide_eq_false c1, bf]
      by_cases c2 : S < -2305843009213693952
      · rw [decide_eq_true c2, bt]; rfl
      · rw [decide_eq_false c2, bf, w64_in (by omega) (by omega)]
        have : okn (a + b) = false := by simpa using hs
        rw [this, Bool.not_false, bt]; rfl
theorem radd_plain (a b : Int) (bad : Bool) : ropRaw bad [a, b] (raddK a b) = av (add a b bad) := by
  unfold add
  cases h : (bad || [a, b].any (fun n => !okn n)) with
  | true => rw [ropRaw_bad h, lift_bad h]; rfl
  | false =>
    obtain ⟨_, h1, h2⟩ := all_ok2 h
    rw [ropRaw_ok h, lift_ok h, raddK_eq (okn_iff.1 h1) (okn_iff.1 h2)]
/-! ### Roots -/
def abI (h1 l1 h2 l2 : Int) : Bool := bif decide (h1 > h2) then true else bif h1 == h2 then decide (l1 > l2) else false
theorem abI_eq {h1 l1 h2 l2 : Int} (a3 : 0 ≤ l1) (a4 : l1 < 18446744073709551616) (b3 : 0 ≤ l2) (b4 : l2 < 18446744073709551616) :
    abI h1 l1 h2 l2 = decide (h1 * 18446744073709551616 + l1 > h2 * 18446744073709551616 + l2) := by
  unfold abI
  by_cases c1 : h1 > h2
  · rw [decide_eq_true c1, bt]; exact (decide_eq_true (by omega)).symm
  · rw [decide_eq_false c1, bf]
    by_cases c2 : h1 = h2
    · have : (h1 == h2) = true := by simp; exact c2
      rw [this, bt]
      by_cases c3 : l1 > l2
      · rw [decide_eq_true c3, decide_eq_true (by omega)]
      · rw [decide_eq_false c3, decide_eq_false (by omega)]
    · have : (h1 == h2) = false := by simp; exact c2
      rw [this, bf]; exact (decide_eq_false (by omega)).symm
theorem rroot_eq {h l : Int} {N : Nat} (hN : h * 18446744073709551616 + l = (N : Int)) (l0 : 0 ≤ l) (l1 : l < 18446744073709551616) : ∀ (k r : Nat), r + 2 ^ k ≤ 2 ^ 63 → rroot thI tlI abI h l k (r : Int) = (isqB N k r : Int)
  | 0, r, _ => rfl
  | k + 1, r, hr => by
    have hpk : 2 ^ (k + 1) = 2 * 2 ^ k := by rw [Nat.pow_succ]; omega
    have h63 : (2 : Nat) ^ 63 = 9223372036854775808 := by kernel_rfl
    have hk : k ≤ 62 := by
      apply Nat.le_of_not_lt
      intro hlt
      have := Nat.pow_lt_pow_right (a := 2) (by omega) (show 63 < k + 1 by omega)
      omega
    unfold rroot isqB
    dsimp only
    have hm : min k 64 = k := by omega
    have ht : wr .u64 ((r : Int) + wr .u64 (1 * p2 (min k 64))) = ((r + 2 ^ k : Nat) : Int) := by
      have hp : p2 k = ((2 ^ k : Nat) : Int) := rfl
      rw [hm, Int.one_mul, hp, wu64_in (n := ((2 ^ k : Nat) : Int)) (by omega) (by omega), wu64_in (by omega) (by omega), Int.natCast_add]
    rw [ht]
    generalize hte : r + 2 ^ k = t at *
    obtain ⟨t1, t2⟩ := times_eq (a := (t : Int)) (b := (t : Int)) (in64_iff.2 (by omega)) (in64_iff.2 (by omega))
    rw [t1, t2, abI_eq (by omega) (by omega) l0 l1, hN]
    have e : (t : Int) * t = ((t * t : Nat) : Int) := by rw [Int.natCast_mul]
    rw [e]
    by_cases c : t * t ≤ N
    · rw [decide_eq_false (by omega), if_pos c, Bool.not_false, bt]
      exact rroot_eq hN l0 l1 k t (by omega)
    · rw [decide_eq_true (by omega), if_neg c, Bool.not_true, bf]
      exact rroot_eq hN l0 l1 k r (by omega)

theorem rnorm_plain (a b c : Int) (bad : Bool) : (ropRaw bad [a, b, c] fun bad =>
        rgive (rroot thI tlI abI (waH (waH (thI (sz a) (sz a)) (tlI (sz a) (sz a)) (thI (sz b) (sz b)) (tlI (sz b) (sz b))) (wr .u64 (tlI (sz a) (sz a) + tlI (sz b) (sz b))) (thI (sz c) (sz c)) (tlI (sz c) (sz c)))
          (wr .u64 (wr .u64 (tlI (sz a) (sz a) + tlI (sz b) (sz b)) + tlI (sz c) (sz c))) 63 0) false bad) = av (norm a b c bad) := by
  unfold norm
  cases h : (bad || [a, b, c].any (fun n => !okn n)) with
  | true => rw [ropRaw_bad h, lift_bad h]; rfl
  | false =>
    obtain ⟨_, h1, h2, h3⟩ := all_ok3 h
    rw [ropRaw_ok h, lift_ok h]
    have sq : ∀ n : Int, okn n = true → ∃ q : Nat, n.natAbs * n.natAbs = q ∧ q ≤ 21267647932558653966460912964485513216 ∧ thI (sz n) (sz n) = (q : Int) / 18446744073709551616 ∧ tlI (sz n) (sz n) = (q : Int) % 18446744073709551616 := fun n hn => by
      have i := okn_iff.1 hn
      have := Nat.mul_le_mul (show n.natAbs ≤ 4611686018427387904 by omega) (show n.natAbs ≤ 4611686018427387904 by omega)
      obtain ⟨e1, e2⟩ := sz_eq (rng_of hn)
      obtain ⟨t1, t2⟩ := times_eq (a := (n.natAbs : Int)) (b := (n.natAbs : Int)) (in64_iff.2 (by omega)) (in64_iff.2 (by omega))
      refine ⟨_, rfl, by omega, ?_, ?_⟩
      · rw [e1, t1, Int.natCast_mul]
      · rw [e1, t2, Int.natCast_mul]
    obtain ⟨qa, a1, a2, a3, a4⟩ := sq a h1
    obtain ⟨qb, b1, b2, b3, b4⟩ := sq b h2
    obtain ⟨qc, c1, c2, c3, c4⟩ := sq c h3
    rw [a1, b1, c1]
    generalize thI (sz a) (sz a) = ah at *
    generalize tlI (sz a) (sz a) = al at *
    generalize thI (sz b) (sz b) = bh at *
    generalize tlI (sz b) (sz b) = bl at *
    generalize thI (sz c) (sz c) = ch at *
    generalize tlI (sz c) (sz c) = cl at *
    obtain ⟨s1, s2, s3, s4, s5⟩ := wa_val (h1 := ah) (l1 := al) (h2 := bh) (l2 := bl) (by omega) (by omega) (by omega) (by omega) (by omega) (by omega) (by omega) (by omega)
    generalize waH ah al bh bl = sh at *
    generalize wr .u64 (al + bl) = sl at *
    obtain ⟨u1, u2, u3, u4, u5⟩ := wa_val (h1 := sh) (l1 := sl) (h2 := ch) (l2 := cl) s1 s2 s3 s4 (by omega) (by omega) (by omega) (by omega)
    generalize waH sh sl ch cl = vh at *
    generalize wr .u64 (sl + cl) = vl at *
    have hr := rroot_eq (h := vh) (l := vl) (N := qa + qb + qc) (by omega) u3 u4 63 0 (by decide)
    have h0 : ((0 : Nat) : Int) = 0 := rfl
    rw [h0] at hr
    rw [hr]
    have h126 : ((0 + 2 ^ 63) * (0 + 2 ^ 63) : Nat) = 85070591730234615865843651857942052864 := by kernel_rfl
    have h128 : (2 : Nat) ^ 128 = 340282366920938463463374607431768211456 := by kernel_rfl
    rw [isqB_isq (by rw [h128]; omega) (by omega) (by rw [h126]; omega)]
    unfold upTo
    generalize isq (qa + qb + qc) = r at *
    by_cases hb : r > 4611686018427387904
    · rw [if_pos hb, rgive_big (by omega)]; rfl
    · rw [if_neg hb, rgive_in (by omega) (by omega)]; rfl

/-! ### The contracts -/
theorem above_con : PureOk Tryz.prog 62 anyA (abF abI) := by
  refine pure_of ok_nil 40 _ _ _ ?_
  rintro args v - h
  unfold abF at h
  split at h <;> cases h
  exact ⟨rfl, rfl, by kernel_rfl⟩
theorem rbase_ok {ad : Int → Int → Bool → Int × Bool} (hA : RMeth 50 (int2 ad)) : EnvOk Tryz.prog (envN sz thI tlI abI ratF ad) :=
  EnvOk.t (EnvOk.e (EnvOk.t (EnvOk.c (EnvOk.p (EnvOk.p (EnvOk.p (EnvOk.c (EnvOk.e ok_nil en_rAdd hA) en_add wa_ok) en_above above_con) en_times times_con) en_size rsize_con) en_number number_ok) en_rgive) en_rratio rratio_con) en_rtake
def envA : Env := [(40, .text), (93, .calc numF)]
theorem radd_raw' (a b : Int) (bad : Bool) : acall Tryz.prog envA 60 50 [.ptr 0 0, .int .i64 a, .int .i64 b] [.cells [.bool bad] 74] (flowK 74) =
    ropRaw bad [a, b] (raddK a b) := by kernel_rfl
theorem radd_con : RMeth 50 (int2 add) := by
  have hE : EnvOk Tryz.prog envA := EnvOk.t (EnvOk.c ok_nil en_number number_ok) en_rtake
  refine flow_of hE 60 _ _ (fun _ => true) _ ?_
  intro args g _ h bad
  obtain ⟨a, b, rfl, hg⟩ := int2_some h
  rw [radd_raw', radd_plain, hg]
theorem rmul_con : RMeth 47 (int2 mul) := by
  refine flow_of (rbase_ok radd_con) 60 _ _ (fun _ => true) _ ?_
  intro args g _ h bad
  obtain ⟨a, b, rfl, hg⟩ := int2_some h
  rw [rmul_raw, rmul_plain, hg]
theorem rdiv_con : RMeth 38 (int2 div) := by
  refine flow_of (rbase_ok radd_con) 60 _ _ (fun _ => true) _ ?_
  intro args g _ h bad
  obtain ⟨a, b, rfl, hg⟩ := int2_some h
  rw [rdiv_raw, rdiv_plain, hg]
theorem rpart_con : RMeth 16 (int3 Fx.part) := by
  refine flow_of (rbase_ok radd_con) 60 _ _ (fun _ => true) _ ?_
  intro args g _ h bad
  obtain ⟨a, b, c, rfl, hg⟩ := int3_some h
  rw [rpart_raw, rpart_plain, hg]
theorem rnorm_con : RMeth 24 (int3 norm) := by
  refine flow_of (rbase_ok radd_con) 110 _ _ (fun _ => true) _ ?_
  intro args g _ h bad
  obtain ⟨a, b, c, rfl, hg⟩ := int3_some h
  rw [rnorm_raw, rnorm_plain, hg]
end Go.Proofs.YtdojnnlhaiennaaGreat.Rx

/- From a walk of the interpreter to a row. Conditions: none. -/
namespace Go.Proofs.YtdojnnlhaiennaaGreat.Row
open Go Go.Proofs.YtdojnnlhaiennaaGreat.Ae Go.RowKit Go.ChangeShapes Go.WideShapes

/-- The law's answer. -/
def ansK (v : AV) (_ : List AB) : Option Bool :=
  match v with
  | .bool b => some b
  | _ => none
end Go.Proofs.YtdojnnlhaiennaaGreat.Row

/- Methods in the interpreter's list of callees. Conditions: none. -/
namespace Go.Proofs.YtdojnnlhaiennaaGreat.Lx
open Go Go.Proofs.YtdojnnlhaiennaaGreat.Ae Go.Proofs.YtdojnnlhaiennaaGreat.Fx

abbrev m2 (T : TypeId) (f : Int → Int → Bool → Int × Bool) : Ae.Spec := .flow T (int2 f)
abbrev m3 (T : TypeId) (f : Int → Int → Int → Bool → Int × Bool) : Ae.Spec := .flow T (int3 f)
abbrev m1 (T : TypeId) (f : Int → Bool → Int × Bool) : Ae.Spec := .flow T (int1 f)
theorem _root_.Go.Proofs.YtdojnnlhaiennaaGreat.Ae.EnvOk.f {P : Program} {env : Env} (t : EnvOk P env) {f : FuncId} (h : EnterOk P f) {T : TypeId} {F : List AV → Option (Bool → AV × Bool)} (k : EffOk P f (fun _ => true) (flowSpec T F)) : EnvOk P ((f, .flow T F) :: env) := EnvOk.cons (s := .flow T F) ⟨h, k⟩ t
end Go.Proofs.YtdojnnlhaiennaaGreat.Lx

/- The functions of package trig and of its reference, as the interpreter finds them. Conditions: none. -/
namespace Go.Proofs.YtdojnnlhaiennaaGreat.Tx
open Go Go.Proofs.YtdojnnlhaiennaaGreat.Ae Go.Proofs.YtdojnnlhaiennaaGreat.Fx Go.Proofs.YtdojnnlhaiennaaGreat.Lx

abbrev Op1 := Int → Bool → Int × Bool
abbrev Op2 := Int → Int → Bool → Int × Bool
abbrev Op3 := Int → Int → Int → Bool → Int × Bool

section
variable (ad su mu di mo : Op2) (sq : Op1) (pa : Op3)

/-! ### The program's -/
def serL (u first : Int) : Nat → Int × Bool → Int × Bool
  | 0, s => s
  | k + 1, s =>
    let n : Int := ((2 * (k + 1) : Nat) : Int)
    let s1 := mu u s.1 s.2
    let s2 := pa s1.1 1 (wr .i64 (wr .i64 (wr .i64 (n + first) - 1) * wr .i64 (n + first))) s1.2
    serL u first k (su 1099511627776 s2.1 s2.2)
def serRaw (t first : Int) (bad : Bool) : Option (AV × Bool) :=
  let u := mu t t bad
  let v := serL su mu pa u.1 first 10 (1099511627776, u.2)
  bif first == 1 then some (.int .i64 (mu t v.1 v.2).1, (mu t v.1 v.2).2) else some (.int .i64 v.1, v.2)
def envS : Env := [(127, m2 112 mu), (75, m2 112 su), (74, m3 112 pa)]
theorem ser_raw (t first : Int) (bad : Bool) : acall Tryz.prog (envS su mu pa) 60 202 [.ptr 0 0, .int .i64 t, .int .i64 first] [.cells [.bool bad] 112] (flowK 112) = serRaw su mu pa t first bad := by kernel_rfl
end
section
variable (mo se : Op2)
def turnRaw (a q : Int) (bad : Bool) : Option (AV × Bool) :=
  let r := mo a 6908435304716 bad
  bif r.2 then some (.int .i64 0, r.2) else
  let k := (wr .i64 (wr .i64 (r.1.tdiv 1727108826179) + q)).tmod 4
  let v := se (r.1.tmod 1727108826179) (wr .i64 (1 - k.tmod 2)) r.2
  bif decide (k > 1) then some (.int .i64 (wr .i64 (0 - v.1)), v.2) else some (.int .i64 v.1, v.2)
def envU : Env := [(131, m2 112 mo), (202, m2 112 se)]
theorem turn_raw (a q : Int) (bad : Bool) : acall Tryz.prog (envU mo se) 60 180 [.ptr 0 0, .int .i64 a, .int .i64 q] [.cells [.bool bad] 112] (flowK 112) = turnRaw mo se a q bad := by kernel_rfl
end
section
variable (tu : Op2)
def envV : Env := [(180, m2 112 tu)]
theorem sin_raw (a : Int) (bad : Bool) : acall Tryz.prog (envV tu) 60 128 [.ptr 0 0, .int .i64 a] [.cells [.bool bad] 112] (flowK 112) = some (.int .i64 (tu a 0 bad).1, (tu a 0 bad).2) := by kernel_rfl
theorem cos_raw (a : Int) (bad : Bool) : acall Tryz.prog (envV tu) 60 129 [.ptr 0 0, .int .i64 a] [.cells [.bool bad] 112] (flowK 112) = some (.int .i64 (tu a 1 bad).1, (tu a 1 bad).2) := by kernel_rfl
end

/-! ### The reference's -/
section
variable (su mu : Op2) (pa : Op3)
def renvS : Env := [(47, m2 74 mu), (46, m2 74 su), (16, m3 74 pa)]
end
section
variable (mo : Op2) (s c : Op1)
end
end Go.Proofs.YtdojnnlhaiennaaGreat.Tx

/- The contracts of sines and cosines, the program's and the reference's: the same plain functions. Conditions: none. -/
namespace Go.Proofs.YtdojnnlhaiennaaGreat.Tx
open Go Go.Proofs.YtdojnnlhaiennaaGreat.Ae Go.Proofs.YtdojnnlhaiennaaGreat.Fx Go.Proofs.YtdojnnlhaiennaaGreat.Lx Go.Proofs.YtdojnnlhaiennaaGreat.Rx

def serP (t first : Int) (bad : Bool) : Int × Bool :=
  let u := mul t t bad
  let v := serL sub mul Fx.part u.1 first 10 (1099511627776, u.2)
  bif first == 1 then mul t v.1 v.2 else v
def turnP (a q : Int) (bad : Bool) : Int × Bool :=
  let r := mod a 6908435304716 bad
  bif r.2 then (0, r.2) else
  let k := (wr .i64 (wr .i64 (r.1.tdiv 1727108826179) + q)).tmod 4
  let v := serP (r.1.tmod 1727108826179) (wr .i64 (1 - k.tmod 2)) r.2
  bif decide (k > 1) then (wr .i64 (0 - v.1), v.2) else v
def sinP (a : Int) (bad : Bool) : Int × Bool := turnP a 0 bad
def cosP (a : Int) (bad : Bool) : Int × Bool := turnP a 1 bad

theorem serRaw_eq (t first : Int) (bad : Bool) : serRaw sub mul Fx.part t first bad = av (serP t first bad) := by
  unfold serRaw serP
  dsimp only
  cases (first == 1) <;> rfl
theorem turnRaw_eq (a q : Int) (bad : Bool) : turnRaw mod serP a q bad = av (turnP a q bad) := by
  unfold turnRaw turnP
  dsimp only
  cases (mod a 6908435304716 bad).2
  · simp only [cond_false]
    cases decide ((wr .i64 (wr .i64 ((mod a 6908435304716 bad).1.tdiv 1727108826179) + q)).tmod 4 > 1) <;> rfl
  · rfl

theorem en_series : EnterOk Tryz.prog 202 := enter_of Tryz.func202 (by kernel_rfl) rfl
theorem en_turn : EnterOk Tryz.prog 180 := enter_of Tryz.func180 (by kernel_rfl) rfl
theorem en_Sin : EnterOk Tryz.prog 128 := enter_of Tryz.func128 (by kernel_rfl) rfl
theorem en_Cos : EnterOk Tryz.prog 129 := enter_of Tryz.func129 (by kernel_rfl) rfl
theorem en_rMul : EnterOk Tryz.prog 47 := enter_of Tryz.func47 (by kernel_rfl) rfl
theorem en_rDiv : EnterOk Tryz.prog 38 := enter_of Tryz.func38 (by kernel_rfl) rfl
theorem en_rPart : EnterOk Tryz.prog 16 := enter_of Tryz.func16 (by kernel_rfl) rfl
theorem en_rNorm : EnterOk Tryz.prog 24 := enter_of Tryz.func24 (by kernel_rfl) rfl
theorem ser_con : Meth 202 (int2 serP) := by
  refine flow_of (EnvOk.f (EnvOk.f (EnvOk.f ok_nil en_part part_con) en_sub sub_con) en_mul mul_con) 60 _ _ (fun _ => true) _ ?_
  intro args g _ h bad
  obtain ⟨a, b, rfl, hg⟩ := int2_some h
  exact (ser_raw sub mul Fx.part a b bad).trans ((serRaw_eq a b bad).trans (hg bad).symm)
theorem turn_con : Meth 180 (int2 turnP) := by
  refine flow_of (EnvOk.f (EnvOk.f ok_nil en_series ser_con) en_mod mod_con) 60 _ _ (fun _ => true) _ ?_
  intro args g _ h bad
  obtain ⟨a, b, rfl, hg⟩ := int2_some h
  exact (turn_raw mod serP a b bad).trans ((turnRaw_eq a b bad).trans (hg bad).symm)
theorem sin_con : Meth 128 (int1 sinP) := by
  refine flow_of (EnvOk.f ok_nil en_turn turn_con) 60 _ _ (fun _ => true) _ ?_
  intro args g _ h bad
  obtain ⟨a, rfl, hg⟩ := int1_some h
  exact (sin_raw turnP a bad).trans (hg bad).symm
theorem cos_con : Meth 129 (int1 cosP) := by
  refine flow_of (EnvOk.f ok_nil en_turn turn_con) 60 _ _ (fun _ => true) _ ?_
  intro args g _ h bad
  obtain ⟨a, rfl, hg⟩ := int1_some h
  exact (cos_raw turnP a bad).trans (hg bad).symm

/-! ### The reference's -/
end Go.Proofs.YtdojnnlhaiennaaGreat.Tx

/- Shorthands of the texts above. Conditions: none. -/
namespace Go.Proofs.YtdojnnlhaiennaaGreat.Te
open Go Go.Proofs.YtdojnnlhaiennaaGreat.Ae Go.Proofs.YtdojnnlhaiennaaGreat.Fx Go.Proofs.YtdojnnlhaiennaaGreat.Lx Go.Proofs.YtdojnnlhaiennaaGreat.Tx Go.Proofs.YtdojnnlhaiennaaGreat.Row Go.Proofs.YtdojnnlhaiennaaGreat.Rx
abbrev I (n : Int) : AV := .int .i64 n
def pK (v : AV) (_ : List AB) : Option AV := bif v.noPtr then some v else none
def an (a b : Bool) : Bool := bif a then b else false
def oor (a b : Bool) : Bool := bif a then true else b
/-- A frame, or none. -/
structure Fr where
  (k : Int)
  s : ByteArray
  ok : Bool
def Fr.av (x : Fr) : AV := .tup [.agg [I x.k, .str x.s], .bool x.ok]
theorem an_eq (a b : Bool) : an a b = (a && b) := by cases a <;> rfl
theorem dand (p q : Prop) [Decidable p] [Decidable q] : (decide p && decide q) = decide (p ∧ q) := by
  by_cases hp : p <;> by_cases hq : q <;> simp [hp, hq]
theorem p2_8 : p2 8 = 256 := by decide
theorem u8_eq (n : Int) : wr .u8 n = n % 256 := rfl
theorem or_small {a b : Nat} (hb : b < 256) : 256 * a ||| b = 256 * a + b := by
  have h : b < 2 ^ 8 := by omega
  have := or_add (a := a) (i := 8) h
  have e : (2 : Nat) ^ 8 = 256 := by decide
  rw [e] at this; exact this
/-- A byte beside others. -/
theorem bor64_lo {x b : Int} (hx : 0 ≤ x) (hx1 : x < 36028797018963968) (hb : 0 ≤ b ∧ b < 256) : bor .i64 (x * 256) b = x * 256 + b := by
  have h : bor .i64 (x * 256) b = wr .i64 ((BitVec.ofInt 64 (x * 256) ||| BitVec.ofInt 64 b).toNat : Int) := by unfold bor; rw [wr_eq]; rfl
  rw [h, BitVec.toNat_or, ofInt_toNat (by omega) (by omega), ofInt_toNat (by omega) (by omega)]
  have e : (x * 256).toNat = 256 * x.toNat := by omega
  rw [e, or_small (by omega), w64_in (by omega) (by omega)]
  omega
theorem ofInt16_toNat {x : Int} (h0 : 0 ≤ x) (h1 : x < 65536) : (BitVec.ofInt 16 x).toNat = x.toNat := by
  rw [BitVec.toNat_ofInt]
  have : x % ((2 ^ 16 : Nat) : Int) = x := Int.emod_eq_of_lt h0 (by simpa using h1)
  rw [this]
theorem bor16_lo {x b : Int} (hx : 0 ≤ x ∧ x < 256) (hb : 0 ≤ b ∧ b < 256) : bor .u16 (x * 256) b = x * 256 + b := by
  have h : bor .u16 (x * 256) b = wr .u16 ((BitVec.ofInt 16 (x * 256) ||| BitVec.ofInt 16 b).toNat : Int) := by unfold bor; rw [wr_eq]; rfl
  rw [h, BitVec.toNat_or, ofInt16_toNat (by omega) (by omega), ofInt16_toNat (by omega) (by omega)]
  have e : (x * 256).toNat = 256 * x.toNat := by omega
  rw [e, or_small (by omega)]
  have : wr .u16 (((256 * x.toNat + b.toNat : Nat)) : Int) = ((256 * x.toNat + b.toNat : Nat) : Int) % 65536 := rfl
  rw [this]
  omega
def B (g : Nat → Int) : Prop := ∀ i, 0 ≤ g i ∧ g i < 256
/-- What stands in bytes. -/
def sg (a b : Int) : Int := if a * 256 + b ≥ 32768 then a * 256 + b - 65536 else a * 256 + b
def gOf (s : ByteArray) (i : Nat) : Int := ((s.data.getD i 0).toNat : Int)
theorem gOf_B (s : ByteArray) : B (gOf s) := fun i => by
  unfold gOf
  have := (s.data.getD i 0).toNat_lt
  omega
theorem R_strG (m : List Nat) (s : ByteArray) {V : Value} (h : R m (.str s) V) : R m (.strG s s.size (gOf s)) V := by
  simp only [R] at h ⊢
  exact ⟨h, trivial, fun i _ => rfl⟩
theorem R_strF (m : List Nat) (s : ByteArray) (lo : Nat) (ex : List Int) (hlo : lo ≤ s.size) (hex : ∀ c ∈ ex, (s.size : Int) ≠ c) {V : Value} (h : R m (.str s) V) : R m (.strF s lo (gOf s) ex) V := by
  simp only [R] at h ⊢
  exact ⟨h, ⟨hlo, fun i _ => rfl⟩, hex⟩
theorem RL_frame {m : List Nat} {k : Int} {s : ByteArray} {a : AV} (h : ∀ V, R m (.str s) V → R m a V) {Vs : List Value} (hv : RL m [.agg [I k, .str s]] Vs) : RL m [.agg [I k, a]] Vs := by
  obtain ⟨V, Vs', rfl, h1, h2⟩ := RL_cons.1 hv
  refine RL.cons ?_ h2
  simp only [R] at h1 ⊢
  obtain ⟨Ws, rfl, h3⟩ := h1
  obtain ⟨W1, Ws1, rfl, h4, h5⟩ := RL_cons.1 h3
  obtain ⟨W2, Ws2, rfl, h6, h7⟩ := RL_cons.1 h5
  refine ⟨_, rfl, RL.cons h4 (RL.cons (h _ h6) h7)⟩
theorem oor_t (c : Bool) : oor c true = true := by cases c <;> rfl
theorem oor_f (c : Bool) : oor c false = c := by cases c <;> rfl
theorem gOf_strOf (l : List Int) {i : Nat} {n : Int} (h : l[i]? = some n) (h0 : 0 ≤ n ∧ n < 256) : gOf (strOf l) i = n := by
  unfold gOf strOf
  simp [Array.getD_eq_getD_getElem?, h]
  omega
theorem strOf_size (l : List Int) : (strOf l).size = l.length := by simp [strOf, ByteArray.size]
theorem eq_t {a b : Int} (h : a = b) : (a == b) = true := by simpa using h
theorem eq_f {a b : Int} (h : ¬ a = b) : (a == b) = false := by simpa using h
theorem ne_t {a b : Int} (h : ¬ a = b) : (a != b) = true := by simpa using h
theorem ne_f {a b : Int} (h : a = b) : (a != b) = false := by simpa using h
def ckT (t : Int) : Bool := an (decide (0 ≤ t)) (decide (t ≤ 157766400000))
end Go.Proofs.YtdojnnlhaiennaaGreat.Te

/- Three numbers, and their length. Conditions: none. -/
namespace Go.Proofs.YtdojnnlhaiennaaGreat.Ve
open Go Go.Proofs.YtdojnnlhaiennaaGreat.Ae Go.Proofs.YtdojnnlhaiennaaGreat.Fx Go.Proofs.YtdojnnlhaiennaaGreat.Lx Go.Proofs.YtdojnnlhaiennaaGreat.Tx Go.Proofs.YtdojnnlhaiennaaGreat.Rx Go.Proofs.YtdojnnlhaiennaaGreat.Te

structure V3 where
  x : Int
  y : Int
  z : Int
def V3.av (v : V3) : AV := .agg [I v.x, I v.y, I v.z]
abbrev V3.zero : V3 := ⟨0, 0, 0⟩
/-- A length's shape. -/
def nrmF (nr : Op3) : List AV → Option (Bool → AV × Bool)
  | [.agg [.int .i64 a, .int .i64 b, .int .i64 c]] => some fun bad => (.int .i64 (nr a b c bad).1, (nr a b c bad).2)
  | _ => none
theorem nrmF_some {nr : Op3} {args : List AV} {g : Bool → AV × Bool} (h : nrmF nr args = some g) : ∃ a b c, args = [.agg [I a, I b, I c]] ∧ ∀ bad, g bad = (.int .i64 (nr a b c bad).1, (nr a b c bad).2) := by
  unfold nrmF at h
  split at h <;> cases h
  exact ⟨_, _, _, rfl, fun _ => rfl⟩
section
variable (nr : Op3)
theorem vnorm_raw (a b c : Int) (bad : Bool) : acall Tryz.prog [(121, m3 112 nr)] 60 77 [.ptr 0 0, .agg [I a, I b, I c]] [.cells [.bool bad] 112] (flowK 112) = some (I (nr a b c bad).1, (nr a b c bad).2) := by kernel_rfl
theorem rvnorm_raw (a b c : Int) (bad : Bool) : acall Tryz.prog [(24, m3 74 nr)] 60 21 [.ptr 0 0, .agg [I a, I b, I c]] [.cells [.bool bad] 74] (flowK 74) = some (I (nr a b c bad).1, (nr a b c bad).2) := by kernel_rfl
end
theorem en_vNorm : EnterOk Tryz.prog 77 := enter_of Tryz.func77 (by kernel_rfl) rfl
theorem en_vrNorm : EnterOk Tryz.prog 21 := enter_of Tryz.func21 (by kernel_rfl) rfl
theorem vnorm_con : Meth 77 (nrmF norm) := by
  refine flow_of (EnvOk.f ok_nil (enter_of Tryz.func121 (by kernel_rfl) rfl) norm_con) 60 _ _ (fun _ => true) _ ?_
  intro args g _ h bad
  obtain ⟨a, b, c, rfl, hg⟩ := nrmF_some h
  exact (vnorm_raw norm a b c bad).trans (congrArg some (hg bad).symm)
theorem rvnorm_con : RMeth 21 (nrmF norm) := by
  refine flow_of (EnvOk.f ok_nil en_rNorm rnorm_con) 60 _ _ (fun _ => true) _ ?_
  intro args g _ h bad
  obtain ⟨a, b, c, rfl, hg⟩ := nrmF_some h
  exact (rvnorm_raw norm a b c bad).trans (congrArg some (hg bad).symm)
end Go.Proofs.YtdojnnlhaiennaaGreat.Ve

/- Directions of three numbers, the program's and the reference's: contracts. Conditions: none. -/
namespace Go.Proofs.YtdojnnlhaiennaaGreat.Ve
open Go Go.Proofs.YtdojnnlhaiennaaGreat.Ae Go.Proofs.YtdojnnlhaiennaaGreat.Fx Go.Proofs.YtdojnnlhaiennaaGreat.Lx Go.Proofs.YtdojnnlhaiennaaGreat.Tx Go.Proofs.YtdojnnlhaiennaaGreat.Rx Go.Proofs.YtdojnnlhaiennaaGreat.Te

/-- A direction's shape. -/
def dirF (u : V3 → Bool → V3 × Bool) : List AV → Option (Bool → AV × Bool)
  | [.agg [.int .i64 a, .int .i64 b, .int .i64 c]] => some fun bad => ((u ⟨a, b, c⟩ bad).1.av, (u ⟨a, b, c⟩ bad).2)
  | _ => none
theorem dirF_some {u : V3 → Bool → V3 × Bool} {args : List AV} {g : Bool → AV × Bool} (h : dirF u args = some g) : ∃ a b c, args = [.agg [I a, I b, I c]] ∧ ∀ bad, g bad = ((u ⟨a, b, c⟩ bad).1.av, (u ⟨a, b, c⟩ bad).2) := by
  unfold dirF at h
  split at h <;> cases h
  exact ⟨_, _, _, rfl, fun _ => rfl⟩
section
variable (nr : Op3) (di : Op2)
def unitG (v : V3) (bad : Bool) : V3 × Bool :=
  let n := nr v.x v.y v.z bad
  let b0 := bif decide (n.1 < 1048576) then true else n.2
  let x := di v.x n.1 b0
  let y := di v.y n.1 x.2
  let z := di v.z n.1 y.2
  bif z.2 then (V3.zero, true) else (⟨x.1, y.1, z.1⟩, false)
def unitRaw (a b c : Int) (bad : Bool) : Option (AV × Bool) :=
  let n := nr a b c bad
  let go : Bool → Option (AV × Bool) := fun b0 =>
    let x := di a n.1 b0
    let y := di b n.1 x.2
    let z := di c n.1 y.2
    bif z.2 then some (V3.zero.av, z.2) else some (V3.av ⟨x.1, y.1, z.1⟩, z.2)
  bif decide (n.1 < 1048576) then go true else go n.2
theorem unit_raw (a b c : Int) (bad : Bool) : acall Tryz.prog [(77, .flow 112 (nrmF nr)), (125, m2 112 di), (116, .text), (172, .text), (123, .text)] 80 114 [.ptr 0 0, .agg [I a, I b, I c]] [.cells [.bool bad] 112] (flowK 112) = unitRaw nr di a b c bad := by kernel_rfl
theorem runit_raw (a b c : Int) (bad : Bool) : acall Tryz.prog [(21, .flow 74 (nrmF nr)), (38, m2 74 di), (95, .text), (37, .text)] 80 105 [.ptr 0 0, .agg [I a, I b, I c]] [.cells [.bool bad] 74] (flowK 74) = unitRaw nr di a b c bad := by kernel_rfl
theorem unitRaw_eq (a b c : Int) (bad : Bool) : unitRaw nr di a b c bad = some ((unitG nr di ⟨a, b, c⟩ bad).1.av, (unitG nr di ⟨a, b, c⟩ bad).2) := by
  unfold unitRaw unitG
  dsimp only
  cases decide ((nr a b c bad).1 < 1048576)
  · simp only [cond_false]
    cases h : (di c (nr a b c bad).1 (di b (nr a b c bad).1 (di a (nr a b c bad).1 (nr a b c bad).2).2).2).2 <;> rfl
  · simp only [cond_true]
    cases h : (di c (nr a b c bad).1 (di b (nr a b c bad).1 (di a (nr a b c bad).1 true).2).2).2 <;> rfl
end
def unit : V3 → Bool → V3 × Bool := unitG norm div
theorem en_vUnit : EnterOk Tryz.prog 114 := enter_of Tryz.func114 (by kernel_rfl) rfl
theorem en_vrUnit : EnterOk Tryz.prog 105 := enter_of Tryz.func105 (by kernel_rfl) rfl
theorem unit_con : Meth 114 (dirF unit) := by
  refine flow_of (EnvOk.f (EnvOk.f (EnvOk.t (EnvOk.t (EnvOk.t ok_nil (enter_of Tryz.func123 (by kernel_rfl) rfl)) (enter_of Tryz.func172 (by kernel_rfl) rfl)) (enter_of Tryz.func116 (by kernel_rfl) rfl)) (enter_of Tryz.func125 (by kernel_rfl) rfl) div_meth) en_vNorm vnorm_con) 80 _ _ (fun _ => true) _ ?_
  intro args g _ h bad
  obtain ⟨a, b, c, rfl, hg⟩ := dirF_some h
  exact (unit_raw norm div a b c bad).trans ((unitRaw_eq norm div a b c bad).trans (congrArg some (hg bad).symm))
theorem runit_con : RMeth 105 (dirF unit) := by
  refine flow_of (EnvOk.f (EnvOk.f (EnvOk.t (EnvOk.t ok_nil (enter_of Tryz.func37 (by kernel_rfl) rfl)) (enter_of Tryz.func95 (by kernel_rfl) rfl)) en_rDiv rdiv_con) en_vrNorm rvnorm_con) 80 _ _ (fun _ => true) _ ?_
  intro args g _ h bad
  obtain ⟨a, b, c, rfl, hg⟩ := dirF_some h
  exact (runit_raw norm div a b c bad).trans ((unitRaw_eq norm div a b c bad).trans (congrArg some (hg bad).symm))
end Go.Proofs.YtdojnnlhaiennaaGreat.Ve

/- What the sensors' texts rest on. Conditions: none. -/
