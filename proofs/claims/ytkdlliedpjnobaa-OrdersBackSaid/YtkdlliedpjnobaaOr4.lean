/- What is written is read as that, and what is read is written as that; the laws of layer 16. Conditions: none. -/
import Derived.Test.YtkdlliedpjnobaaOr3
namespace Go.Proofs.Ytkdlliedpjnobaa.Orb
open Go Go.Proofs.Ytkdlliedpjnobaa.Ae Go.Proofs.Ytkdlliedpjnobaa.Fx Go.Proofs.Ytkdlliedpjnobaa.Lx Go.Proofs.Ytkdlliedpjnobaa.Tx Go.Proofs.Ytkdlliedpjnobaa.Te Go.Proofs.Ytkdlliedpjnobaa.Rx Go.Proofs.Ytkdlliedpjnobaa.Row

/-! ### Eight bytes -/
theorem tk_gen {t b : Int} (hb : 0 ≤ b ∧ b < 256) : tk t b = wr .i64 (t * 256 + b) := by
  unfold tk
  rw [p2_8, w64_in (n := b) (by omega) (by omega)]
  have h : bor .i64 (wr .i64 (t * 256)) b = wr .i64 ((BitVec.ofInt 64 (wr .i64 (t * 256)) ||| BitVec.ofInt 64 b).toNat : Int) := by unfold bor; rw [wr_eq]; rfl
  have e64 : ((2 ^ 64 : Nat) : Int) = 18446744073709551616 := by kernel_rfl
  have h1 : (BitVec.ofInt 64 (wr .i64 (t * 256))).toNat = 256 * (t % 72057594037927936).toNat := by
    rw [BitVec.toNat_ofInt, e64, wr_i64]
    omega
  have h2 : (BitVec.ofInt 64 b).toNat = b.toNat := ofInt_toNat (by omega) (by omega)
  rw [h, BitVec.toNat_or, h1, h2, or_small (by omega), wr_i64, wr_i64]
  omega
theorem wr_step (X b : Int) : wr .i64 (wr .i64 X * 256 + b) = wr .i64 (X * 256 + b) := by
  simp only [wr_i64]; omega
def sum8 (g : Nat → Int) (i : Nat) : Int := ((((((g (i + 0) * 256 + g (i + 1)) * 256 + g (i + 2)) * 256 + g (i + 3)) * 256 + g (i + 4)) * 256 + g (i + 5)) * 256 + g (i + 6)) * 256 + g (i + 7)
theorem num_eq {g : Nat → Int} (hg : B g) (i : Nat) : num g i = wr .i64 (sum8 g i) := by
  unfold num sum8
  rw [tk_gen (hg (i + 0)), tk_gen (hg (i + 1)), tk_gen (hg (i + 2)), tk_gen (hg (i + 3)), tk_gen (hg (i + 4)), tk_gen (hg (i + 5)), tk_gen (hg (i + 6)), tk_gen (hg (i + 7))]
  simp only [wr_step, Int.zero_mul, Int.zero_add]
theorem sum_back {n : Int} (h : -9223372036854775808 ≤ n ∧ n < 9223372036854775808) :
    wr .i64 (((((((n / 72057594037927936 % 256 * 256 + n / 281474976710656 % 256) * 256 + n / 1099511627776 % 256) * 256 + n / 4294967296 % 256) * 256 + n / 16777216 % 256) * 256 + n / 65536 % 256) * 256 + n / 256 % 256) * 256 + n / 1 % 256) = n := by
  rw [wr_i64]; omega
/-- The bytes of a number, read. -/
theorem num_pb {g : Nat → Int} (hg : B g) {i : Nat} {n : Int} (h : -9223372036854775808 ≤ n ∧ n < 9223372036854775808)
    (e : g (i + 0) = n / p2 56 % 256 ∧ g (i + 1) = n / p2 48 % 256 ∧ g (i + 2) = n / p2 40 % 256 ∧ g (i + 3) = n / p2 32 % 256 ∧ g (i + 4) = n / p2 24 % 256 ∧ g (i + 5) = n / p2 16 % 256 ∧ g (i + 6) = n / p2 8 % 256 ∧ g (i + 7) = n / p2 0 % 256) : num g i = n := by
  obtain ⟨p1, p2', p3, p4, p5, p6, p7, p8⟩ := pnums
  obtain ⟨e0, e1, e2, e3, e4, e5, e6, e7⟩ := e
  rw [num_eq hg]
  unfold sum8
  rw [e0, e1, e2, e3, e4, e5, e6, e7, p1, p2', p3, p4, p5, p6, p7, p8]
  exact sum_back h
/-- .. and the other way. -/
theorem pb_num {g : Nat → Int} (hg : B g) (i : Nat) : pb (num g i) = [g (i + 0), g (i + 1), g (i + 2), g (i + 3), g (i + 4), g (i + 5), g (i + 6), g (i + 7)] := by
  obtain ⟨p1, p2', p3, p4, p5, p6, p7, p8⟩ := pnums
  rw [num_eq hg]
  unfold pb sum8
  simp only [u8_eq, p1, p2', p3, p4, p5, p6, p7, p8]
  have h0 := hg (i + 0); have h1 := hg (i + 1); have h2 := hg (i + 2); have h3 := hg (i + 3); have h4 := hg (i + 4); have h5 := hg (i + 5); have h6 := hg (i + 6); have h7 := hg (i + 7)
  generalize g (i + 0) = b0 at *
  generalize g (i + 1) = b1 at *
  generalize g (i + 2) = b2 at *
  generalize g (i + 3) = b3 at *
  generalize g (i + 4) = b4 at *
  generalize g (i + 5) = b5 at *
  generalize g (i + 6) = b6 at *
  generalize g (i + 7) = b7 at *
  rw [wr_i64]
  have hV : ((((((b0 * 256 + b1) * 256 + b2) * 256 + b3) * 256 + b4) * 256 + b5) * 256 + b6) * 256 + b7 = b0 * 72057594037927936 + b1 * 281474976710656 + b2 * 1099511627776 + b3 * 4294967296 + b4 * 16777216 + b5 * 65536 + b6 * 256 + b7 := by omega
  rw [hV]
  generalize hX : (b0 * 72057594037927936 + b1 * 281474976710656 + b2 * 1099511627776 + b3 * 4294967296 + b4 * 16777216 + b5 * 65536 + b6 * 256 + b7 + 9223372036854775808) % 18446744073709551616 - 9223372036854775808 = X
  have hc : X = b0 * 72057594037927936 + b1 * 281474976710656 + b2 * 1099511627776 + b3 * 4294967296 + b4 * 16777216 + b5 * 65536 + b6 * 256 + b7 ∨ X = b0 * 72057594037927936 + b1 * 281474976710656 + b2 * 1099511627776 + b3 * 4294967296 + b4 * 16777216 + b5 * 65536 + b6 * 256 + b7 - 18446744073709551616 := by omega
  have e0 : X / 72057594037927936 % 256 = b0 := by omega
  have e1 : X / 281474976710656 % 256 = b1 := by omega
  have e2 : X / 1099511627776 % 256 = b2 := by omega
  have e3 : X / 4294967296 % 256 = b3 := by omega
  have e4 : X / 16777216 % 256 = b4 := by omega
  have e5 : X / 65536 % 256 = b5 := by omega
  have e6 : X / 256 % 256 = b6 := by omega
  have e7 : X / 1 % 256 = b7 := by omega
  rw [e0, e1, e2, e3, e4, e5, e6, e7]

/-! ### The laws' shapes -/
def elEq (x y : El) : Bool := (x.a == y.a) && ((x.e == y.e) && ((x.i == y.i) && ((x.node == y.node) && ((x.peri == y.peri) && ((x.m == y.m) && ((x.t == y.t) && true))))))
def ordEq (x y : Ord) : Bool := (x.q == y.q) && ((x.c == y.c) && (elEq x.el y.el && true))
section
variable (wf rwf : Ord → Fr) (rd : Int → ByteArray → RO)
def envA16 : Env := [(22, .pure anyArgs (owriteF wf)), (24, .pure anyArgs (oreadF rd))]
theorem awake16_raw : acall Try.prog (envA16 wf rd) 60 21 [] [] pK =
    let w := wf ⟨5, 1, El.zero⟩
    let r := rd w.k w.s
    bif w.ok then (bif an true (w.s == ⟨#[5, 1]⟩) then (bif an true (ordEq r.o ⟨5, 1, El.zero⟩) then some (.bool (an true (r.e == 0))) else some (.bool false)) else some (.bool false)) else some (.bool false) := by kernel_rfl
def envW16 : Env := (21, .pure anyArgs yesF) :: (23, .pure anyArgs (owriteF rwf)) :: envA16 wf rd
theorem owrites_raw (o : Ord) : acall Try.prog (envW16 wf rwf rd) 60 6 [.agg o.cells] [] ansK =
    let x := wf o
    let y := rwf o
    bif oor (!(fEq x.k y.k x.s y.s)) (x.ok != y.ok) then some false else bif !x.ok then some true else
    let p := rd x.k x.s
    bif o.c != 3 then some (an (p.e == 0) (ordEq p.o ⟨o.q, o.c, El.zero⟩)) else some (an (p.e == 0) (ordEq p.o o)) := by kernel_rfl
theorem oback_raw (k : Int) (s : ByteArray) : acall Try.prog (envW16 wf rwf rd) 60 7 [.agg [I k, .str s]] [] ansK =
    let r := rd k s
    bif r.e != 0 then (bif r.o.c == 0 then some (an true (elEq r.o.el El.zero)) else some false) else
    let y := wf r.o
    some (an y.ok (fEq k y.k s y.s)) := by kernel_rfl
end

/-! ### They are true -/
def in64 (n : Int) : Prop := -9223372036854775808 ≤ n ∧ n < 9223372036854775808
structure El.In (o : El) : Prop where
  a : in64 o.a
  e : in64 o.e
  i : in64 o.i
  node : in64 o.node
  peri : in64 o.peri
  m : in64 o.m
  t : in64 o.t
theorem rdEl_oBytes {o : Ord} (h : o.el.In) : rdEl (gOf (strOf (oBytes o))) = o.el := by
  have G : ∀ (i : Nat) (n : Int), (oBytes o)[i]? = some (wr .u8 n) → gOf (strOf (oBytes o)) i = n % 256 := fun i n h => gOf_strOf _ (n := n % 256) h (by omega)
  have hB := gOf_B (strOf (oBytes o))
  unfold rdEl
  rw [num_pb hB (i := 2) h.a ⟨G 2 _ rfl, G 3 _ rfl, G 4 _ rfl, G 5 _ rfl, G 6 _ rfl, G 7 _ rfl, G 8 _ rfl, G 9 _ rfl⟩,
    num_pb hB (i := 10) h.e ⟨G 10 _ rfl, G 11 _ rfl, G 12 _ rfl, G 13 _ rfl, G 14 _ rfl, G 15 _ rfl, G 16 _ rfl, G 17 _ rfl⟩,
    num_pb hB (i := 18) h.i ⟨G 18 _ rfl, G 19 _ rfl, G 20 _ rfl, G 21 _ rfl, G 22 _ rfl, G 23 _ rfl, G 24 _ rfl, G 25 _ rfl⟩,
    num_pb hB (i := 26) h.node ⟨G 26 _ rfl, G 27 _ rfl, G 28 _ rfl, G 29 _ rfl, G 30 _ rfl, G 31 _ rfl, G 32 _ rfl, G 33 _ rfl⟩,
    num_pb hB (i := 34) h.peri ⟨G 34 _ rfl, G 35 _ rfl, G 36 _ rfl, G 37 _ rfl, G 38 _ rfl, G 39 _ rfl, G 40 _ rfl, G 41 _ rfl⟩,
    num_pb hB (i := 42) h.m ⟨G 42 _ rfl, G 43 _ rfl, G 44 _ rfl, G 45 _ rfl, G 46 _ rfl, G 47 _ rfl, G 48 _ rfl, G 49 _ rfl⟩,
    num_pb hB (i := 50) h.t ⟨G 50 _ rfl, G 51 _ rfl, G 52 _ rfl, G 53 _ rfl, G 54 _ rfl, G 55 _ rfl, G 56 _ rfl, G 57 _ rfl⟩]
theorem elEq_refl (x : El) : elEq x x = true := by unfold elEq; simp
theorem ordEq_refl (x : Ord) : ordEq x x = true := by unfold ordEq; simp [elEq_refl]
/-- What a written order is read as. -/
theorem readO_writeO {o : Ord} (h : o.el.In) (hok : (writeO o).ok = true) : readO (writeO o).k (writeO o).s = ⟨⟨o.q, o.c, if o.c = 3 then o.el else El.zero⟩, 0⟩ := by
  unfold writeO at hok ⊢
  by_cases hq : 0 ≤ o.q ∧ o.q ≤ 255
  · rw [if_pos hq] at hok ⊢
    have eq : o.q % 256 = o.q := by omega
    by_cases h124 : o.c = 1 ∨ o.c = 2 ∨ o.c = 4
    · rw [if_pos h124]
      have ec : o.c % 256 = o.c := by omega
      have g0 : gOf (strOf [wr .u8 o.q, wr .u8 o.c]) 0 = o.q := (gOf_strOf _ (n := o.q % 256) rfl (by omega)).trans eq
      have g1 : gOf (strOf [wr .u8 o.q, wr .u8 o.c]) 1 = o.c := (gOf_strOf _ (n := o.c % 256) rfl (by omega)).trans ec
      have hs : (strOf [wr .u8 o.q, wr .u8 o.c]).size = 2 := by rw [strOf_size]; rfl
      unfold readO
      simp only [g0, g1, hs]
      rw [if_pos ⟨trivial, by omega⟩, if_pos h124, if_pos trivial, if_neg (by omega)]
    · rw [if_neg h124] at hok ⊢
      by_cases h3 : o.c = 3 ∧ rightO o.el = true
      · rw [if_pos h3]
        obtain ⟨c3, hr⟩ := h3
        have g0 : gOf (strOf (oBytes o)) 0 = o.q := (gOf_strOf _ (n := o.q % 256) rfl (by omega)).trans eq
        have g1 : gOf (strOf (oBytes o)) 1 = 3 := (gOf_strOf _ (n := o.c % 256) rfl (by omega)).trans (by omega)
        have hs : (strOf (oBytes o)).size = 58 := by rw [strOf_size]; rfl
        unfold readO
        simp only [g0, g1, hs, rdEl_oBytes h, hr, if_true]
        rw [if_pos ⟨trivial, by omega⟩, if_neg (by omega), if_pos c3, c3]
      · rw [if_neg h3] at hok; cases hok
  · rw [if_neg hq] at hok; cases hok
theorem owrites_plain {o : Ord} (h : o.el.In) :
    (let x := writeO o
    let y := writeO o
    bif oor (!(fEq x.k y.k x.s y.s)) (x.ok != y.ok) then some false else bif !x.ok then some true else
    let p := readO x.k x.s
    bif o.c != 3 then some (an (p.e == 0) (ordEq p.o ⟨o.q, o.c, El.zero⟩)) else some (an (p.e == 0) (ordEq p.o o))) = some true := by
  dsimp only
  rw [fEq_refl]
  cases hok : (writeO o).ok
  · rfl
  · rw [readO_writeO h hok]
    by_cases h3 : o.c = 3
    · rw [ne_f h3, if_pos h3]
      simp only [bf]
      have : (⟨o.q, o.c, o.el⟩ : Ord) = o := rfl
      rw [this, ordEq_refl]; rfl
    · rw [ne_t h3, if_neg h3]
      simp only [bt]
      rw [ordEq_refl]; rfl
theorem oBytes_back {s : ByteArray} (hs : s.size = 58) : strOf (oBytes ⟨gOf s 0, gOf s 1, rdEl (gOf s)⟩) = s := by
  have hg := gOf_B s
  refine strOf_gOf (by rw [hs]; rfl) (fun i hi => ?_)
  rw [hs] at hi
  generalize gOf s = g at *
  have h0 := hg 0
  have h1 := hg 1
  have e0 : g 0 % 256 = g 0 := by omega
  have e1 : g 1 % 256 = g 1 := by omega
  have key : oBytes ⟨g 0, g 1, rdEl g⟩ = (List.range 58).map g := by
    unfold oBytes rdEl
    simp only [pb_num hg, u8_eq, e0, e1]
    rfl
  rw [key]
  simp [hi]
theorem two_back {s : ByteArray} (hs : s.size = 2) : strOf [wr .u8 (gOf s 0), wr .u8 (gOf s 1)] = s := by
  have hg := gOf_B s
  refine strOf_gOf (by rw [hs]; rfl) (fun i hi => ?_)
  rw [hs] at hi
  have h0 := hg 0
  have h1 := hg 1
  have e0 : wr .u8 (gOf s 0) = gOf s 0 := by rw [u8_eq]; omega
  have e1 : wr .u8 (gOf s 1) = gOf s 1 := by rw [u8_eq]; omega
  rw [e0, e1]
  match i, hi with
  | 0, _ => rfl
  | 1, _ => rfl
  | n + 2, h => exact absurd h (by omega)
theorem oback_plain (k : Int) (s : ByteArray) :
    (let r := readO k s
    bif r.e != 0 then (bif r.o.c == 0 then some (an true (elEq r.o.el El.zero)) else some false) else
    let y := writeO r.o
    some (an y.ok (fEq k y.k s y.s))) = some true := by
  dsimp only
  have bad : ∀ (q e : Int), e ≠ 0 → (bif (RO.mk ⟨q, 0, El.zero⟩ e).e != 0 then some (an ((RO.mk ⟨q, 0, El.zero⟩ e).o.c == 0) (elEq (RO.mk ⟨q, 0, El.zero⟩ e).o.el El.zero)) else
      some (an (writeO (RO.mk ⟨q, 0, El.zero⟩ e).o).ok (fEq k (writeO (RO.mk ⟨q, 0, El.zero⟩ e).o).k s (writeO (RO.mk ⟨q, 0, El.zero⟩ e).o).s))) = some true := fun q e he => by
    dsimp only
    rw [ne_t he, bt]
    rfl
  have hg0 := gOf_B s 0
  unfold readO
  by_cases hk : k = 16 ∧ 2 ≤ s.size
  · rw [if_pos hk]
    obtain ⟨rfl, _⟩ := hk
    by_cases c124 : gOf s 1 = 1 ∨ gOf s 1 = 2 ∨ gOf s 1 = 4
    · rw [if_pos c124]
      by_cases hs : s.size = 2
      · rw [if_pos hs]
        unfold writeO
        dsimp only
        rw [ne_f rfl, bf, if_pos (by omega), if_pos c124]
        dsimp only
        rw [two_back hs, fEq_refl]; rfl
      · rw [if_neg hs]; exact bad _ 1 (by decide)
    · rw [if_neg c124]
      by_cases c3 : gOf s 1 = 3
      · rw [if_pos c3]
        by_cases hs : s.size = 58
        · rw [if_pos hs]
          by_cases hr : rightO (rdEl (gOf s)) = true
          · rw [if_pos hr]
            unfold writeO
            dsimp only
            rw [ne_f rfl, bf, if_pos (by omega), if_neg (by omega), if_pos ⟨rfl, hr⟩]
            dsimp only
            rw [← c3, oBytes_back hs, fEq_refl]; rfl
          · rw [if_neg hr]; exact bad _ 3 (by decide)
        · rw [if_neg hs]; exact bad _ 1 (by decide)
      · rw [if_neg c3]; exact bad _ 2 (by decide)
  · rw [if_neg hk]; exact bad _ 1 (by decide)
theorem envA16_ok : EnvOk Try.prog (envA16 writeO readO) := EnvOk.p (EnvOk.p ok_nil (enter_of Try.func24 (by kernel_rfl) rfl) oread_con) (enter_of Try.func22 (by kernel_rfl) rfl) owrite_con
theorem awake16_ok : PureOk Try.prog 21 anyArgs yesF := by
  refine pure_of envA16_ok 60 _ _ _ ?_
  rintro args v - h
  unfold yesF at h
  split at h <;> cases h
  refine ⟨rfl, rfl, (awake16_raw writeO readO).trans ?_⟩
  have hw : writeO ⟨5, 1, El.zero⟩ = ⟨16, ⟨#[5, 1]⟩, true⟩ := by
    unfold writeO
    rw [if_pos (by decide), if_pos (by decide)]
    rfl
  have hr : readO 16 ⟨#[5, 1]⟩ = ⟨⟨5, 1, El.zero⟩, 0⟩ := by
    unfold readO
    rw [if_pos ⟨rfl, by decide⟩, if_pos (by decide), if_pos (by decide)]
    rfl
  dsimp only
  rw [hw]
  dsimp only
  rw [hr, ordEq_refl, bytes_refl]
  rfl
theorem envW16_ok : EnvOk Try.prog (envW16 writeO writeO readO) :=
  EnvOk.p (EnvOk.p envA16_ok (enter_of Try.func23 (by kernel_rfl) rfl) rowrite_con) (enter_of Try.func21 (by kernel_rfl) rfl) awake16_ok
theorem owrites_law (o : Ord) (h : o.el.In) (w : World) : Calls Try.prog 6 #[.agg ⟨[.int .i64 o.q, .int .i64 o.c, .int .i64 o.el.a, .int .i64 o.el.e, .int .i64 o.el.i, .int .i64 o.el.node, .int .i64 o.el.peri, .int .i64 o.el.m, .int .i64 o.el.t]⟩] w fun e w' => e = .returned (.bool true) ∧ Go.RowKit.Below w.heap.size w w' := by
  refine law_true envW16_ok ((owrites_raw writeO writeO readO o).trans (owrites_plain h)) (RL.cons ?_ (RL_nil.2 rfl))
  simp only [R]
  exact ⟨_, rfl, RL.cons (R_int _ _ _) (RL.cons (R_int _ _ _) (RL.cons (R_int _ _ _) (RL.cons (R_int _ _ _) (RL.cons (R_int _ _ _) (RL.cons (R_int _ _ _) (RL.cons (R_int _ _ _) (RL.cons (R_int _ _ _) (RL.cons (R_int _ _ _) (RL_nil.2 rfl)))))))))⟩
theorem oback_law (k : Int) (s : ByteArray) (w : World) : Calls Try.prog 7 #[.agg ⟨[.int .i64 k, .string s]⟩] w fun e w' => e = .returned (.bool true) ∧ Go.RowKit.Below w.heap.size w w' := by
  refine law_true envW16_ok ((oback_raw writeO writeO readO k s).trans (oback_plain k s)) (RL.cons ?_ (RL_nil.2 rfl))
  simp only [R]
  exact ⟨_, rfl, RL.cons (R_int _ _ _) (RL.cons (R_str _ _) (RL_nil.2 rfl))⟩
theorem wf_in {n : Int} (h : (Lit.int .i64 n).wf = true) : in64 n := by
  simp [Lit.wf, IntKind.min, IntKind.max, IntKind.signed, IntKind.bits] at h
  unfold in64; omega
#print axioms owrites_law
#print axioms oback_law
end Go.Proofs.Ytkdlliedpjnobaa.Orb
