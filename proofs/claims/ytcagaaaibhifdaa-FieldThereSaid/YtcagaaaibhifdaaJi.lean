/- Boxes that cover the circle, and what the kernel is to check over them. Conditions: as each says. -/
import Derived.Test.YtcagaaaibhifdaaJh
namespace Go.Proofs.Ytcagaaaibhifdaa.Fd
open Go Go.Proofs.Ytcagaaaibhifdaa.Ae Go.Proofs.Ytcagaaaibhifdaa.Fx Go.Proofs.Ytcagaaaibhifdaa.Lx Go.Proofs.Ytcagaaaibhifdaa.Tx Go.Proofs.Ytcagaaaibhifdaa.Te Go.Proofs.Ytcagaaaibhifdaa.Rx Go.Proofs.Ytcagaaaibhifdaa.Row Go.Proofs.Ytcagaaaibhifdaa.Ve Go.Proofs.Ytcagaaaibhifdaa.Nx Go.Proofs.Ytcagaaaibhifdaa.Ns

/-! ### Boxes -/
abbrev Bx := Iv × Iv
/-- The squares are 1 together, but for 2^-18. -/
def Circ (x y : Int) : Prop := Bd 4611686018427387904 (x * x + y * y - 1208925819614629174706176)
def boxOk (b : Bx) : Bool :=
  decide (0 ≤ b.2.1) && (decide (0 ≤ b.2.2) &&
  ((decide (b.2.1 = 0) || (decide (b.2.1 * b.2.1 + b.1.1 * b.1.1 + 4611686018427387904 ≤ 1208925819614629174706176) && decide (b.2.1 * b.2.1 + b.1.2 * b.1.2 + 4611686018427387904 ≤ 1208925819614629174706176))) &&
  ((decide (b.1.1 ≤ 0) && (decide (0 ≤ b.1.2) && decide (1208925819614629174706176 + 4611686018427387904 ≤ b.2.2 * b.2.2))) ||
   ((decide (0 ≤ b.1.1) && decide (1208925819614629174706176 + 4611686018427387904 ≤ b.2.2 * b.2.2 + b.1.1 * b.1.1)) ||
    (decide (b.1.2 ≤ 0) && decide (1208925819614629174706176 + 4611686018427387904 ≤ b.2.2 * b.2.2 + b.1.2 * b.1.2))))))
theorem sq_mono {a b : Int} (h0 : 0 ≤ a) (h : a ≤ b) : a * a ≤ b * b := Int.mul_le_mul h h h0 (by omega)
theorem sq_neg (a : Int) : a * a = (-a) * (-a) := by grind
theorem box_in {b : Bx} (h : boxOk b = true) {x y : Int} (hx : In b.1 x) (hy : 0 ≤ y) (hc : Circ x y) : In b.2 y := by
  unfold boxOk at h
  simp only [Bool.and_eq_true, Bool.or_eq_true, decide_eq_true_eq] at h
  obtain ⟨h1, h2, h3, h4⟩ := h
  obtain ⟨x1, x2⟩ := hx
  unfold Circ Bd at hc
  constructor
  · rcases h3 with h3 | ⟨h3, h5⟩
    · omega
    · refine lt_of_sq hy ?_
      rcases Int.le_total 0 x with hx0 | hx0
      · have := sq_mono hx0 x2
        omega
      · have := sq_mono (a := -x) (b := -b.1.1) (by omega) (by omega)
        rw [← sq_neg, ← sq_neg] at this
        omega
  · refine lt_of_sq h2 ?_
    rcases h4 with ⟨_, _, h4⟩ | ⟨h0, h4⟩ | ⟨h0, h4⟩
    · have := sq_nonneg x
      omega
    · have := sq_mono h0 x1
      omega
    · have := sq_mono (a := -b.1.2) (b := -x) (by omega) (by omega)
      rw [← sq_neg, ← sq_neg] at this
      omega
def chainOk (a b : Int) : List Bx → Bool
  | [] => false
  | [c] => decide (c.1.1 = a) && (decide (c.1.2 = b) && boxOk c)
  | c :: l => decide (c.1.1 = a) && (boxOk c && chainOk c.1.2 b l)
theorem chain_in : ∀ (l : List Bx) (a b x : Int), chainOk a b l = true → a ≤ x → x ≤ b → ∃ c ∈ l, boxOk c = true ∧ In c.1 x
  | [], _, _, _, h, _, _ => by simp [chainOk] at h
  | [c], a, b, x, h, h1, h2 => by
    simp only [chainOk, Bool.and_eq_true, decide_eq_true_eq] at h
    exact ⟨c, by simp, h.2.2, by unfold In; omega⟩
  | c :: d :: l, a, b, x, h, h1, h2 => by
    simp only [chainOk, Bool.and_eq_true, decide_eq_true_eq] at h
    rcases Int.le_total x c.1.2 with hx | hx
    · exact ⟨c, by simp, h.2.1, by unfold In; omega⟩
    · obtain ⟨e, he, h3, h4⟩ := chain_in (d :: l) c.1.2 b x h.2.2 hx h2
      exact ⟨e, by simp at he ⊢; exact .inr he, h3, h4⟩
theorem chain_box {l : List Bx} {a b x y : Int} (h : chainOk a b l = true) (h1 : a ≤ x) (h2 : x ≤ b) (hy : 0 ≤ y) (hc : Circ x y) : ∃ c ∈ l, In c.1 x ∧ In c.2 y := by
  obtain ⟨c, hcl, hb, hx⟩ := chain_in l a b x h h1 h2
  exact ⟨c, hcl, hx, box_in hb hx hy hc⟩
theorem Circ.swap {x y : Int} (h : Circ x y) : Circ y x := by unfold Circ at *; rw [Int.add_comm (y * y)]; exact h
theorem Circ.neg {x y : Int} (h : Circ x y) : Circ x (-y) := by unfold Circ at *; rw [Int.neg_mul_neg]; exact h
/-- One of the two is small. -/
theorem circ_side {x y : Int} (h : Circ x y) : Bd 777480000000 x ∨ Bd 777480000000 y := by
  refine Classical.byContradiction fun hn => ?_
  have n1 : ¬ Bd 777480000000 x := fun h => hn (.inl h)
  have n2 : ¬ Bd 777480000000 y := fun h => hn (.inr h)
  have key : ∀ z : Int, ¬ Bd 777480000000 z → 777480000000 * 777480000000 ≤ z * z := by
    intro z hz
    unfold Bd at hz
    rcases Int.le_total 0 z with h0 | h0
    · exact sq_mono (by decide) (by omega)
    · rw [sq_neg z]; exact sq_mono (by decide) (by omega)
  have k1 := key x n1
  have k2 := key y n2
  unfold Circ Bd at h
  omega
def negI (A : Iv) : Iv := (-A.2, -A.1)
theorem neg_in {A : Iv} {x : Int} (h : In A (-x)) : In (negI A) x := by unfold In negI at *; dsimp only; omega
def topC : List Bx := [((-777480000000, -738386879591), (777461290051, 814687208289)), ((-738386879591, -697522792521), (814681547585, 849936694828)), ((-697522792521, -654978311948), (849931268893, 883138631348)), ((-654978311948, -610855931251), (883133409404, 914213029090)), ((-610855931251, -565261945112), (914207984642, 943085025175)), ((-565261945112, -518306193436), (943080135161, 969685062867)), ((-518306193436, -470101796741), (969680306995, 993949059058)), ((-470101796741, -420764883643), (993944419285, 1015818558599)), ((-420764883643, -370414311084), (1015814018716, 1035240875085)), ((-370414311084, -319171378006), (1035236420375, 1052169217742)), ((-319171378006, -267159533123), (1052164834705, 1066562804134)), ((-267159533123, -214504077523), (1066558480248, 1078386958391)), ((-214504077523, -161331862813), (1078382681915, 1087613194726)), ((-161331862813, -107770985514), (1087608954528, 1094219286059)), ((-107770985514, -53950478471), (1094215071459, 1098189317547)), ((-53950478471, 0), (1098185118184, 1099513724927)), ((0, 53950478471), (1098185118184, 1099513724927)), ((53950478471, 107770985514), (1094215071459, 1098189317547)), ((107770985514, 161331862813), (1087608954528, 1094219286059)), ((161331862813, 214504077523), (1078382681915, 1087613194726)), ((214504077523, 267159533123), (1066558480248, 1078386958391)), ((267159533123, 319171378006), (1052164834705, 1066562804134)), ((319171378006, 370414311084), (1035236420375, 1052169217742)), ((370414311084, 420764883643), (1015814018716, 1035240875085)), ((420764883643, 470101796741), (993944419285, 1015818558599)), ((470101796741, 518306193436), (969680306995, 993949059058)), ((518306193436, 565261945112), (943080135161, 969685062867)), ((565261945112, 610855931251), (914207984642, 943085025175)), ((610855931251, 654978311948), (883133409404, 914213029090)), ((654978311948, 697522792521), (849931268893, 883138631348)), ((697522792521, 738386879591), (814681547585, 849936694828)), ((738386879591, 777480000000), (777461290051, 814687208289))]
def halfC : List Bx := [((0, 53950478471), (1098185118184, 1099513724927)), ((53950478471, 107770985514), (1094215071459, 1098189317547)), ((107770985514, 161331862813), (1087608954528, 1094219286059)), ((161331862813, 214504077523), (1078382681915, 1087613194726)), ((214504077523, 267159533123), (1066558480248, 1078386958391)), ((267159533123, 319171378006), (1052164834705, 1066562804134)), ((319171378006, 370414311084), (1035236420375, 1052169217742)), ((370414311084, 420764883643), (1015814018716, 1035240875085)), ((420764883643, 470101796741), (993944419285, 1015818558599)), ((470101796741, 518306193436), (969680306995, 993949059058)), ((518306193436, 565261945112), (943080135161, 969685062867)), ((565261945112, 610855931251), (914207984642, 943085025175)), ((610855931251, 654978311948), (883133409404, 914213029090)), ((654978311948, 697522792521), (849931268893, 883138631348)), ((697522792521, 738386879591), (814681547585, 849936694828)), ((738386879591, 777480000000), (777461290051, 814687208289))]
def lonC : List Bx := [((-777480000000, -669340269737), (777461290051, 872303865984)), ((-669340269737, -549755813888), (872298579178, 952207422990)), ((-549755813888, -420764883643), (952202579824, 1015818558599)), ((-420764883643, -284574549580), (1015814018716, 1062048848704)), ((-284574549580, -143515066075), (1062044506440, 1090107268626)), ((-143515066075, 0), (1090103038129, 1099513724927)), ((0, 143515066075), (1090103038129, 1099513724927)), ((143515066075, 284574549580), (1062044506440, 1090107268626)), ((284574549580, 420764883643), (1015814018716, 1062048848704)), ((420764883643, 549755813888), (952202579824, 1015818558599)), ((549755813888, 669340269737), (872298579178, 952207422990)), ((669340269737, 777480000000), (777461290051, 872303865984))]
theorem topC_ok : chainOk (-777480000000) 777480000000 topC = true := by kernel_rfl
theorem halfC_ok : chainOk 0 777480000000 halfC = true := by kernel_rfl
theorem lonC_ok : chainOk (-777480000000) 777480000000 lonC = true := by kernel_rfl
/-- The boxes of latitudes: of the cosine and of the sine. -/
def latB : List Bx := topC ++ (halfC.map (fun b => (b.2, b.1)) ++ halfC.map (fun b => (negI b.2, b.1)))
def lonB : List Bx := lonC ++ (lonC.map (fun b => (b.2, b.1)) ++ (lonC.map (fun b => (negI b.2, b.1)) ++ lonC.map (fun b => (b.1, negI b.2))))
theorem lat_cover {c s : Int} (hs : 0 ≤ s) (h : Circ c s) : ∃ b ∈ latB, In b.1 c ∧ In b.2 s := by
  rcases circ_side h with hc | hc
  · obtain ⟨b, hb, h1, h2⟩ := chain_box topC_ok hc.1 hc.2 hs h
    exact ⟨b, List.mem_append_left _ hb, h1, h2⟩
  · rcases Int.le_total 0 c with h0 | h0
    · obtain ⟨b, hb, h1, h2⟩ := chain_box halfC_ok hs hc.2 h0 h.swap
      exact ⟨_, List.mem_append_right _ (List.mem_append_left _ (List.mem_map.2 ⟨b, hb, rfl⟩)), h2, h1⟩
    · obtain ⟨b, hb, h1, h2⟩ := chain_box halfC_ok hs hc.2 (y := -c) (by omega) h.swap.neg
      exact ⟨_, List.mem_append_right _ (List.mem_append_right _ (List.mem_map.2 ⟨b, hb, rfl⟩)), neg_in h2, h1⟩
theorem lon_cover {u v : Int} (h : Circ u v) : ∃ b ∈ lonB, In b.1 u ∧ In b.2 v := by
  rcases circ_side h with hu | hv
  · rcases Int.le_total 0 v with h0 | h0
    · obtain ⟨b, hb, h1, h2⟩ := chain_box lonC_ok hu.1 hu.2 h0 h
      exact ⟨b, List.mem_append_left _ hb, h1, h2⟩
    · obtain ⟨b, hb, h1, h2⟩ := chain_box lonC_ok hu.1 hu.2 (y := -v) (by omega) h.neg
      exact ⟨_, List.mem_append_right _ (List.mem_append_right _ (List.mem_append_right _ (List.mem_map.2 ⟨b, hb, rfl⟩))), h1, neg_in h2⟩
  · rcases Int.le_total 0 u with h0 | h0
    · obtain ⟨b, hb, h1, h2⟩ := chain_box lonC_ok hv.1 hv.2 h0 h.swap
      exact ⟨_, List.mem_append_right _ (List.mem_append_left _ (List.mem_map.2 ⟨b, hb, rfl⟩)), h2, h1⟩
    · obtain ⟨b, hb, h1, h2⟩ := chain_box lonC_ok hv.1 hv.2 (y := -u) (by omega) h.swap.neg
      exact ⟨_, List.mem_append_right _ (List.mem_append_right _ (List.mem_append_left _ (List.mem_map.2 ⟨b, hb, rfl⟩))), neg_in h2, h1⟩

/-! ### The check -/
/-- 7.5 and 88, in the sums' units. -/
def okA (A : Ac) : Bool :=
  Nat.ble (120149270770551192134719970972037306446402129382561718309521090439999859575161030938791617390182400) ((A.c1.natAbs - A.t1) * (A.c1.natAbs - A.t1) + (A.c2.natAbs - A.t2) * (A.c2.natAbs - A.t2) + (A.c3.natAbs - A.t3) * (A.c3.natAbs - A.t3)) &&
  Nat.ble ((A.c1.natAbs + A.t1) * (A.c1.natAbs + A.t1) + (A.c2.natAbs + A.t2) * (A.c2.natAbs + A.t2) + (A.c3.natAbs + A.t3) * (A.c3.natAbs + A.t3)) 16541083606171527678067048092577011575483343821129919050469890210975269556445280419377818401236844544
def keysM : List (List MK) := [[(1, 0), (2, 0), (3, 0), (4, 0), (5, 0), (6, 0)], [(1, 1), (2, 1), (3, 1), (4, 1), (5, 1), (6, 1)], [(2, 2), (3, 2), (4, 2), (5, 2), (6, 2)], [(3, 3), (4, 3), (5, 3), (6, 3)], [(4, 4), (5, 4), (6, 4)], [(5, 5), (6, 5)], [(6, 6)]]
theorem keysM_ord : ordOk 0 keysM := by
  unfold keysM ordOk
  refine ⟨by decide, ?_⟩
  unfold ordOk
  refine ⟨by decide, ?_⟩
  unfold ordOk
  refine ⟨by decide, ?_⟩
  unfold ordOk
  refine ⟨by decide, ?_⟩
  unfold ordOk
  refine ⟨by decide, ?_⟩
  unfold ordOk
  refine ⟨by decide, ?_⟩
  unfold ordOk
  exact ⟨by decide, trivial⟩
theorem keysM_27 : ∀ ks ∈ keysM, ∀ k ∈ ks, k ∈ keys27 := by decide
theorem keysM_sum (f : MK → Int) : sumG2 f keysM = sumW f keys27 := by
  unfold keysM keys27
  simp only [sumG2, sumW]
  omega
section
variable {α : Type}
def numsK : List (List MK) → (List (List Nm) → Option α) → Option α
  | [], K => K []
  | ks :: l, K => nmK ks fun n => numsK l fun N => K (n :: N)
theorem numsK_in {tick : Int} (ht : 0 ≤ tick ∧ tick ≤ 157766400000) {r : α} : ∀ (kss : List (List MK)) (K : List (List Nm) → Option α), (∀ ks ∈ kss, ∀ k ∈ ks, k ∈ keys27) → numsK kss K = some r → ∃ N, All2 (NmIn tick) kss N ∧ K N = some r
  | [], K, _, h => ⟨[], trivial, h⟩
  | ks :: l, K, hk, h => by
    unfold numsK at h
    obtain ⟨n, hn, h⟩ := nmK_in ht ks _ (hk ks (by simp)) h
    obtain ⟨N, hN, h⟩ := numsK_in ht l _ (fun ks hks => hk ks (by simp [hks])) h
    exact ⟨n :: N, ⟨hn, hN⟩, h⟩
def lonsK : List Bx → (List (List (Cr × Cr)) → Option α) → Option α
  | [], K => K []
  | b :: l, K => csL b.1 b.2 6 (ptI 1099511627776) (ptI 0) fun p => crsK p fun E => lonsK l fun LL => K (E :: LL)
theorem lonsK_tot {r : α} : ∀ (l : List Bx) (K : List (List (Cr × Cr)) → Option α), lonsK l K = some r → ∃ LL, K LL = some r
  | [], K, h => ⟨_, h⟩
  | b :: l, K, h => by
    unfold lonsK at h
    obtain ⟨p, h⟩ := csL_tot _ _ _ _ _ h
    obtain ⟨E, h⟩ := crsK_tot _ _ h
    obtain ⟨LL, h⟩ := lonsK_tot l _ h
    exact ⟨_, h⟩
theorem lonsK_in {u v : Int} {b' : Bx} (hu : In b'.1 u) (hv : In b'.2 v) (bu : Bd 1099511627776 u) (bv : Bd 1099511627776 v) {r : α} : ∀ (l : List Bx) (K : List (List (Cr × Cr)) → Option α), lonsK l K = some r → b' ∈ l →
    ∃ LL, K LL = some r ∧ ∃ E ∈ LL, CsOk u v 0 E := by
  intro l
  induction l with
  | nil => intro K h hb; cases hb
  | cons b l ih =>
    intro K h hb
    unfold lonsK at h
    rcases List.mem_cons.1 hb with rfl | hb
    · obtain ⟨p, hl1, hl2, h⟩ := csL_in hu hv bu bv 6 0 (ptI 1099511627776) (ptI 0) _ _ (by omega) h (pt_in _) (pt_in _)
      obtain ⟨E, -, hE, h⟩ := crsK_in p 0 _ hl2 h
      obtain ⟨LL, h⟩ := lonsK_tot l _ h
      exact ⟨_, h, E, by simp, hE⟩
    · obtain ⟨p, h⟩ := csL_tot _ _ _ _ _ h
      obtain ⟨E0, h⟩ := crsK_tot _ _ h
      obtain ⟨LL, h1, E, h2, h3⟩ := ih _ h hb
      exact ⟨_, h1, E, by simp [h2], h3⟩
end
def allK (L : List Lm) : List (List (Cr × Cr)) → Option Unit
  | [] => some ()
  | E :: LL => dotM L E zAc fun A => bif okA A then allK L LL else none
theorem allK_in {L : List Lm} : ∀ (LL : List (List (Cr × Cr))), allK L LL = some () → ∀ E ∈ LL, ∃ LL', dotM L E zAc (fun A => bif okA A then allK L LL' else none) = some () := by
  intro LL
  induction LL with
  | nil => intro _ E hE; cases hE
  | cons E0 LL ih =>
    intro h E hE
    unfold allK at h
    rcases List.mem_cons.1 hE with rfl | hE
    · exact ⟨LL, h⟩
    · obtain ⟨A, h2⟩ := dotM_tot _ _ _ _ _ h
      cases hb : okA A with
      | false => rw [hb] at h2; cases h2
      | true => rw [hb] at h2; exact ih h2 E hE
/-- Bounds on the terms everywhere. -/
def TIall : TTI := [((0, 0), ((1099511627776, 1099511627776), (0, 0), (0, 0))), ((1, 0), ((-1099514773505, 1099514773504), (-1099514773505, 1048578), (-1048578, 1048577))), ((1, 1), ((-1048576, 1099514773503), (-1099514773503, 1099514773503), (1099511627776, 1099511627776))), ((2, 0), ((-549756862466, 1099518967815), (-1728231095540, 1728231095542), (-1048581, 1048580))), ((2, 1), ((-997795131412, 997795131410), (-1904418316152, 1904418316152), (-1904414683773, 1904414683771))), ((2, 2), ((-1048578, 952209682362), (-997795131411, 997795131408), (-1048578, 952207866172))), ((3, 0), ((-1100410997127, 1100410997124), (-2484673458884, 1649271635975), (-1048588, 1048585))), ((3, 1), ((-673312946393, 1029875701527), (-2694075084404, 2694075084404), (-673311662156, 2693256345280))), ((3, 2), ((-876876098725, 876876098723), (-2129208343618, 1479739436779), (-1115568746959, 1115568746957))), ((3, 3), ((-1048578, 869246286818), (-1073949269097, 1073949269092), (-1048578, 869244628868))), ((4, 0), ((-582398058762, 1104071256887), (-3415618301874, 3415618301881), (-1048602, 1048598))), ((4, 1), ((-1140153764856, 1140153764851), (-3609782864060, 3488106640698), (-3478672518622, 3478672518614))), ((4, 2), ((-614649078707, 912117685139), (-2899827672251, 2899827672255), (-614647906362, 1442597145935))), ((4, 3), ((-811020769723, 811020769720), (-2299812163826, 1501772260812), (-947134352731, 947134352728))), ((4, 4), ((-1048578, 813107066095), (-1146956137575, 1146956137569), (-1048578, 813105515222))), ((5, 0), ((-1125167858888, 1125167858877), (-4682289456696, 2981680635374), (-1048632, 1048623))), ((5, 1), ((-809656935474, 1389823879537), (-5035696645054, 5035696645057), (-916847926704, 4267963752604))), ((5, 2), ((-1018474275602, 1018474275595), (-3925465590813, 2857116505930), (-1869160771676, 1869160771669))), ((5, 3), ((-574952730758, 849237698090), (-3122155671607, 3122155671613), (-574951634127, 1163093107802))), ((5, 4), ((-767908514045, 767908514042), (-2439323753765, 1560796000679), (-860217365324, 860217365321))), ((5, 5), ((-1048578, 771382618230), (-1214169360142, 1214169360133), (-1048578, 771381146940))), ((6, 0), ((-1020877582857, 1199353997410), (-6762379414259, 6762379414249), (-1048695, 1048684))), ((6, 1), ((-1962586232231, 1962586232212), (-7469015215597, 5314164272269), (-5081638644786, 5081638644769))), ((6, 2), ((-793671263749, 1257213388521), (-5698788610124, 5698788610145), (-881058397847, 2511802560412))), ((6, 3), ((-957353087825, 957353087816), (-4227468336361, 2987543323155), (-1483221684465, 1483221684456))), ((6, 4), ((-545449147005, 810270622069), (-3319502050974, 3319502050979), (-545448106648, 1028011760883))), ((6, 5), ((-736267692543, 736267692540), (-2558389165046, 1636563563958), (-805389192934, 805389192931))), ((6, 6), ((-1048578, 738544082441), (-1275252283846, 1275252283837), (-1048578, 738542673786)))]
def subI1 (A B : Iv) : Bool := decide (B.1 ≤ A.1) && decide (A.2 ≤ B.2)
def subT : TTI → TTI → Bool
  | [], [] => true
  | (k, A) :: l, (k', B) :: m => keqB k k' && ((subI1 A.1 B.1 && (subI1 A.2.1 B.2.1 && subI1 A.2.2 B.2.2)) && subT l m)
  | _, _ => false
theorem sub1_in {A B : Iv} (h : subI1 A B = true) {x : Int} (hx : In A x) : In B x := by
  unfold subI1 at h
  simp only [Bool.and_eq_true, decide_eq_true_eq] at h
  unfold In at *
  omega
theorem subT_in : ∀ (l m : TTI) (T : TT), subT l m = true → RelL l T → RelL m T
  | [], [], T, _, h => h
  | [], _ :: _, _, h, _ => by simp [subT] at h
  | _ :: _, [], _, h, _ => by simp [subT] at h
  | (k, A) :: l, (k', B) :: m, [], h, hr => hr.elim
  | (k, A) :: l, (k', B) :: m, (k2, v) :: T, h, hr => by
    simp only [subT, Bool.and_eq_true] at h
    obtain ⟨h1, ⟨h2, h3, h4⟩, h5⟩ := h
    obtain ⟨e, ⟨i1, i2, i3⟩, hr⟩ := hr
    have e2 := keq_iff.1 h1
    exact ⟨e2 ▸ e, ⟨sub1_in h2 i1, sub1_in h3 i2, sub1_in h4 i3⟩, subT_in l m T h5 hr⟩
theorem TIall_ok : keys27.all (fun k => (chkK TIall k).isSome) = true := by kernel_rfl
theorem TIall_chk : ∀ k ∈ keys27, chkK TIall k = some () := by
  intro k hk
  have := List.all_eq_true.1 TIall_ok k hk
  cases hc : chkK TIall k with
  | none => rw [hc] at this; cases this
  | some x => cases x; rfl
def oneLat (NN : List (List Nm)) (LL : List (List (Cr × Cr))) (b : Bx) : Option Unit := termsI b.1 b.2 fun TI => bif subT TI TIall then lmsK TI NN fun L => allK L LL else none
def latsK (NN : List (List Nm)) (LL : List (List (Cr × Cr))) : List Bx → Option Unit
  | [] => some ()
  | b :: l => bif (oneLat NN LL b).isSome then latsK NN LL l else none
def chkAll27 (l : List Bx) : Option Unit := numsK keysM fun NN => lonsK lonB fun LL => latsK NN LL l
theorem latsK_in {NN : List (List Nm)} {LL : List (List (Cr × Cr))} : ∀ (l : List Bx), latsK NN LL l = some () → ∀ b ∈ l, oneLat NN LL b = some () := by
  intro l
  induction l with
  | nil => intro _ b hb; cases hb
  | cons b l ih =>
    intro h b' hb'
    unfold latsK at h
    cases ho : oneLat NN LL b with
    | none => rw [ho] at h; cases h
    | some x =>
      cases x
      rw [ho] at h
      rcases List.mem_cons.1 hb' with rfl | hb'
      · exact ho
      · exact ih h b' hb'
theorem sumW_mul (c : Int) (f : MK → Int) : ∀ l : List MK, sumW (fun k => c * f k) l = c * sumW f l
  | [] => by unfold sumW; rw [Int.mul_zero]
  | k :: l => by
    unfold sumW
    rw [sumW_mul c f l]
    grind
theorem sumW_congr {f g : MK → Int} (h : ∀ k, f k = g k) (l : List MK) : sumW f l = sumW g l := by rw [funext h]
/-- The three exact sums, over all boxes. -/
theorem sums_at {l : List Bx} (hK : chkAll27 l = some ()) {tick r c s u v : Int} (ht : 0 ≤ tick ∧ tick ≤ 157766400000) (hr : SgOk r) {b b' : Bx} (hb : b ∈ l) (hb' : b' ∈ lonB) (hc : In b.1 c) (hs : In b.2 s) (hu : In b'.1 u) (hv : In b'.2 v)
    (bu : Bd 1099511627776 u) (bv : Bd 1099511627776 v) :
    ∃ T A, termsP c s false = (T, false) ∧ (∀ k, In3 (lookI k TIall) (lookT k T)) ∧ okA A = true ∧
      AcIn (tau r 1) A (1099511627776 * sumW (fun k => (k.1 + 1) * exU r tick u v (fun k => lookT k T) k) keys27) (1099511627776 * sumW (exS r tick u v (fun k => lookT k T)) keys27) (1099511627776 * sumW (fun k => k.2 * exE r tick u v (fun k => lookT k T) k) keys27) := by
  unfold chkAll27 at hK
  obtain ⟨NN, hN, hK⟩ := numsK_in ht keysM _ keysM_27 hK
  obtain ⟨LL, h1, E, hE, hEn⟩ := lonsK_in hu hv bu bv lonB _ hK hb'
  have h3 := latsK_in l h1 b hb
  unfold oneLat at h3
  obtain ⟨TI, T, hT, hR, h3⟩ := terms_in h3 hc hs
  cases h4 : subT TI TIall with
  | false => rw [h4] at h3; cases h3
  | true =>
    rw [h4, bt] at h3
    have hl := fun k => hR.look k
    have hR2 := subT_in _ _ _ h4 hR
    obtain ⟨L, hL, h3⟩ := lmsK_in (tick := tick) hr hl keysM NN _ keysM_27 hN h3
    obtain ⟨LL', hA⟩ := allK_in LL h3 E hE
    obtain ⟨A', hA', e⟩ := dotM_in (Int.le_of_lt hr.1) keysM 0 L E _ 0 0 0 hA keysM_ord hL hEn (zAc_in _)
    have hok : okA A' = true := by
      cases hb : okA A' with
      | false => rw [hb] at e; cases e
      | true => rfl
    refine ⟨T, A', hT, fun k => hR2.look k, hok, ?_⟩
    rw [← sumW_mul, ← sumW_mul, ← sumW_mul]
    have e1 : ∀ k, (xk r (fun k => lookT k T) k).1 * (gk tick k * cm u v k + hk tick k * sm u v k) = 1099511627776 * ((k.1 + 1) * exU r tick u v (fun k => lookT k T) k) := fun k => by unfold xk exU; grind
    have e2 : ∀ k, (xk r (fun k => lookT k T) k).2.1 * (gk tick k * cm u v k + hk tick k * sm u v k) = 1099511627776 * exS r tick u v (fun k => lookT k T) k := fun k => by unfold xk exS; grind
    have e3 : ∀ k, (xk r (fun k => lookT k T) k).2.2 * (gk tick k * sm u v k - hk tick k * cm u v k) = 1099511627776 * (k.2 * exE r tick u v (fun k => lookT k T) k) := fun k => by unfold xk exE; grind
    rw [keysM_sum, keysM_sum, keysM_sum, sumW_congr e1, sumW_congr e2, sumW_congr e3, Int.zero_add, Int.zero_add, Int.zero_add] at hA'
    exact hA'
#print axioms sums_at
end Go.Proofs.Ytcagaaaibhifdaa.Fd

